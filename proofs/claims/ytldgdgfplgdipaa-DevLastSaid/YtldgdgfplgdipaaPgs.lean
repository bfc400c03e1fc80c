/-
  Rows of pages in memory: read, written, appended to; and a box that holds a page in its middle.
-/
import Derived.Test.YtldgdgfplgdipaaArrT
import Derived.Test.YtldgdgfplgdipaaElem2
import Derived.Test.YtldgdgfplgdipaaOwnS
import Derived.Deep.MidRow
namespace Go.Proofs.Ytldgdgfplgdipaa
open Go.RowKit
set_option linter.unusedVariables false
/-- a page in a row -/
def PageE : El (List UInt8) where
  size := 512
  pos := by decide
  rel w B vs x := vs = x.map byteV ∧ x.length = 512
  len := by rintro w B vs p ⟨rfl, h⟩; simpa using h
  one := by rintro w B vs p ⟨rfl, _⟩ v hv; exact byteV_one p v hv
  sub := by rintro w w' B vs p hs h; exact h
  more := by rintro w B B' vs p hB h; exact h
/-- a row of pages in block g -/
abbrev Pgs (T : TypeId) (w : World) (g n c : Nat) (ps : List (List UInt8)) : Prop := OwnE PageE T w 0 (some ⟨g, 0, none⟩) n c ps
theorem pageE_rel {w w' : World} {B B' : Nat} {vs : List (List Value)} {ps : List (List UInt8)} (h : Rel2 (PageE.rel w B) vs ps) : Rel2 (PageE.rel w' B') vs ps := h.imp fun _ _ hq => hq
section
variable {T : TypeId} {w w' : World} {g n c k : Nat} {ps : List (List UInt8)} {p : List UInt8}
theorem Pgs.blk (h : Pgs T w g n c ps) : ∃ cur vs, w.heap[g]? = some (.cells cur T (0, 0)) ∧ n ≤ c ∧ c ≤ maxLen ∧ cur.size = c * 512 ∧ cur.toList.take (n * 512) = vs.flatten ∧ Rel2 (PageE.rel w 0) vs ps := by
  obtain ⟨vs, h1, h2⟩ := h
  rcases h1.2 with ⟨e, h0⟩ | ⟨g', cap, cur, e, hg, hh, hnc, hm, hc, hx⟩
  · cases e
  · cases e
    exact ⟨cur, vs, hh, hnc, hm, hc, hx, pageE_rel h2⟩
theorem Pgs.lt (h : Pgs T w g n c ps) : g < w.heap.size := by
  obtain ⟨cur, vs, hh, -⟩ := h.blk
  exact (Array.getElem?_eq_some_iff.1 hh).1
theorem Pgs.le (h : Pgs T w g n c ps) : n ≤ c := by
  obtain ⟨cur, vs, hh, hn, -⟩ := h.blk
  exact hn
theorem Pgs.at_ (h : Pgs T w g n c ps) (hb : w'.heap[g]? = w.heap[g]?) : Pgs T w' g n c ps := by
  obtain ⟨vs, h1, h2⟩ := h
  refine ⟨vs, ⟨h1.1, ?_⟩, pageE_rel h2⟩
  rcases h1.2 with ⟨e, h0⟩ | ⟨g', cap, cur, e, hg, hh, r⟩
  · cases e
  · cases e
    exact .inr ⟨g, c, cur, rfl, hg, hb.trans hh, r⟩
theorem Pgs.wide (h : Pgs T w g n c ps) : ∀ p ∈ ps, p.length = 512 := by
  obtain ⟨cur, vs, -, -, -, -, -, hr⟩ := h.blk
  intro p hp
  obtain ⟨k, hk, rfl⟩ := List.getElem_of_mem hp
  obtain ⟨v, -, hv⟩ := hr.get (List.getElem?_eq_getElem hk)
  exact hv.2
theorem Pgs.range (h : Pgs T w g n c ps) (hk : ps[k]? = some p) : w.rangeAt g (k * 512) (p.map byteV) := by
  obtain ⟨cur, vs, hh, hnc, hm, hc, hx, hr⟩ := h.blk
  have hl := h.len
  have hkl : k < ps.length := (List.getElem?_eq_some_iff.1 hk).1
  obtain ⟨v, hv, rfl, hpl⟩ := hr.get hk
  intro j u hu
  have hj : j < 512 := by have := (List.getElem?_eq_some_iff.1 hu).1; simpa [hpl] using this
  have h1 := flat_at (size := 512) vs (fun y hy => by obtain ⟨q, hq⟩ := hr.mem hy; exact PageE.len hq) k _ j u hv hu
  rw [cell_of_row w g _ cur T (0, 0) hh, ← Array.getElem?_toList]
  rw [← hx, List.getElem?_take_of_lt (by have : (k + 1) * 512 ≤ n * 512 := Nat.mul_le_mul_right _ (by omega); omega)] at h1
  exact h1
theorem page_load (h : w.rangeAt g k (p.map byteV)) (hp : p.length = 512) : (ldSem 30 (.pointer (some ⟨g, k, none⟩))).run Try.prog w = .ok (.agg (rowV p)) w := by
  obtain ⟨e, he, _⟩ := arrPage.und
  have := run_loadAt_mid (P := Try.prog) w g k 30 (p.map byteV) _ h he rfl (by rw [arrPage.size]; simp [hp])
  exact this
theorem Pgs.load (h : Pgs T w g n c ps) (hk : ps[k]? = some p) : (ldSem 30 (.pointer (some ⟨g, k * 512, none⟩))).run Try.prog w = .ok (.agg (rowV p)) w :=
  page_load (h.range hk) (h.wide p (List.mem_of_getElem? hk))
theorem Pgs.store (h : Pgs T w g n c ps) (hk : k < n) (hp : p.length = 512) :
    ∃ w1, (stSem 30 (.pointer (some ⟨g, k * 512, none⟩)) (.agg (rowV p))).run Try.prog w = .ok () w1 ∧ Pgs T w1 g n c (ps.set k p) ∧ w.grownBy w1 (some g) ∧ w1.heap.size = w.heap.size := by
  obtain ⟨g', w1, e, -, -, hr, hO, hg, hz⟩ := OwnE.write (P := Try.prog) h (j := k) (i := 0) (s := p.map byteV) (x := p) hk (by show 0 + _ ≤ 512; simp [hp]) (byteV_one p) (fun g vs _ hq => by
    have hl : k < ps.length := by rw [h.len]; exact hk
    obtain ⟨rfl, h2⟩ := hq _ (List.getElem?_eq_getElem hl)
    refine ⟨?_, hp⟩
    unfold overV
    simp [h2, hp])
  cases e
  refine ⟨w1, ?_, hO, hg, hz⟩
  have hsz : (Try.prog.info? 30).map (·.size) = some 512 := arrPage.size
  cases hq : Try.prog.info? 30 with
  | none => simp [hq] at hsz
  | some i =>
    have hs : i.size = 512 := by simpa [hq] using hsz
    have hr' : (storeCells ⟨g, k * 512, none⟩ (p.map byteV)).run Try.prog w = .ok () w1 := by simpa [PageE] using hr
    simp [stSem, Instr.storeAt, Instr.sureAddr, storeVar, sizeOf, typeInfo, hq, Value.cells, hs, rowV, hp, hr']
end
/-! ### a box that holds a page in its middle -/
def jobC (d : Nat) (n : Int) (l : List UInt8) (s : Value) : Array Value := (([Value.pointer (some ⟨d, 0, none⟩), Value.int .i64 n] : List Value) ++ l.map byteV ++ [s]).toArray
section
variable {w w' : World} {j d : Nat} {n : Int} {l p : List UInt8} {s : Value}
theorem jobC_size (hl : l.length = 512) : (jobC d n l s).size = 515 := by simp [jobC, hl]
theorem jobC_0 : (jobC d n l s)[0]? = some (.pointer (some ⟨d, 0, none⟩)) := by simp [jobC]
theorem jobC_1 : (jobC d n l s)[1]? = some (.int .i64 n) := by simp [jobC]
theorem jobC_s (hl : l.length = 512) : (jobC d n l s)[514]? = some s := by
  unfold jobC
  rw [List.getElem?_toArray, List.getElem?_append_right (by simp [hl])]
  simp [hl]
theorem jobC_range (h : Str w j (jobC d n l s)) (hl : l.length = 512) : w.rangeAt j 2 (l.map byteV) := by
  intro i v hv
  have hi : i < 512 := by have := (List.getElem?_eq_some_iff.1 hv).1; simpa [hl] using this
  rw [h.cell]
  unfold jobC
  rw [List.getElem?_toArray, List.getElem?_append_left (by simp [hl]; omega), List.getElem?_append_right (by simp)]
  simpa using hv
theorem job3 (h : Str w j (jobC d n l s)) (hl : l.length = 512) : w.cell? ⟨j, 0, none⟩ = some (.pointer (some ⟨d, 0, none⟩)) ∧ w.cell? ⟨j, 1, none⟩ = some (.int .i64 n) ∧ w.cell? ⟨j, 514, none⟩ = some s :=
  ⟨(h.cell 0).trans jobC_0, (h.cell 1).trans jobC_1, (h.cell 514).trans (jobC_s hl)⟩
theorem job_load (h : Str w j (jobC d n l s)) (hl : l.length = 512) : (ldSem 30 (.pointer (some ⟨j, 2, none⟩))).run Try.prog w = .ok (.agg (rowV l)) w := page_load (jobC_range h hl) hl
theorem job_store (h : Str w j (jobC d n l s)) (hl : l.length = 512) (hp : p.length = 512) :
    ∃ w1, (stSem 30 (.pointer (some ⟨j, 2, none⟩)) (.agg (rowV p))).run Try.prog w = .ok () w1 ∧ Str w1 j (jobC d n p s) ∧ w.grownBy w1 (some j) ∧ w1.heap.size = w.heap.size := by
  obtain ⟨t, hh⟩ := h
  have hrun := run_storeCells_at Try.prog j 2 t (p.map byteV) 0 _ w hh (by rw [jobC_size hl]; simp [hp]) (byteV_one p)
  simp only [Nat.add_zero, List.length_map, hp] at hrun
  have hcs : ((jobC d n l s).toList.take 2 ++ p.map byteV ++ (jobC d n l s).toList.drop (2 + 512)) = (jobC d n p s).toList := by
    simp [jobC, hl]
  refine ⟨_, ?_, ⟨t, setRow_heap w j _ (jobC d n p s) t _ hh⟩, grown_setRow w j _, sz_setRow _ _ _⟩
  rw [hcs] at hrun
  have hsz : (Try.prog.info? 30).map (·.size) = some 512 := arrPage.size
  cases hq : Try.prog.info? 30 with
  | none => simp [hq] at hsz
  | some i =>
    have hs : i.size = 512 := by simpa [hq] using hsz
    simp [stSem, Instr.storeAt, Instr.sureAddr, storeVar, sizeOf, typeInfo, hq, Value.cells, hs, rowV, hp, hrun]
end
end Go.Proofs.Ytldgdgfplgdipaa
