/-
  Parts of the proof of PoolNils.
-/
import Derived.Test.YtcfieofcnpalgaaPoolG5
import Derived.Test.YtcfieofcnpalgaaPoolG4
import Derived.Test.YtcfieofcnpalgaaPoolG7
import Derived.Test.YtcfieofcnpalgaaPoolG1
import Derived.Test.YtcfieofcnpalgaaPoolG0
import Derived.Laws.IdiomCopy
import Derived.RegionTactic
import Derived.Laws.Pointers
import Derived.LaidEqlPtr
import Derived.Defers
import Derived.Recover
import Derived.Test.YtcfieofcnpalgaaProg
section
namespace Go.Proofs.Ytcfieofcnpalgaa
open Go.RowKit
set_option linter.unusedVariables false
/-- what an element reads as hangs on no world -/
def El.Pure {α : Type} (E : El α) : Prop := ∀ w w' B B' vs x, E.rel w B vs x → E.rel w' B' vs x
theorem OwnE.grownP {α : Type} {E : El α} (hE : E.Pure) {T : TypeId} {w w' : World} {base n c : Nat} {A : Option Addr} {l : List α} {k : Option Nat} (h : OwnE E T w base A n c l) (hg : w.grownBy w' k) (hne : ∀ a, A = some a → k ≠ some a.block) : OwnE E T w' base A n c l := by
  obtain ⟨vs, ⟨h0, h1⟩, h2⟩ := h
  refine ⟨vs, ⟨h0, ?_⟩, h2.imp fun _ _ hr => hE _ _ _ _ _ _ hr⟩
  rcases h1 with e | ⟨g, cap, cur, e, hg2, hh, r⟩
  · exact .inl e
  · cases e
    refine .inr ⟨g, c, cur, rfl, hg2, ?_, r⟩
    exact (hg.block g (Array.getElem?_eq_some_iff.1 hh).1 (fun e => hne _ rfl e.symm)).trans hh
namespace Reg
/-- a row, the element that is to come behind it; who makes the row of one, who appends, who hands on; the slots -/
structure Row1 (α : Type) where
  E : El α
  T : TypeId
  base : Nat
  A : Option Addr
  n : Nat
  c : Nat
  l : List α
  x : α
  jr : Nat
  ja : Nat
  jf : Nat
  tr : Tmp
  ts : Tmp
  tf : Tmp
def Row1.Has {α : Type} (I : Row1 α) (N : Nat) (w : World) (A' : Option Addr) (c' : Nat) : Prop := OwnE I.E I.T w I.base A' (I.n + 1) c' (I.l ++ [I.x]) ∧ ∀ d, A' = some d → I.A = A' ∨ N ≤ d.block
def Row1.J {α : Type} (N : Nat) (I : Row1 α) : Word := fun listed a w =>
  (listed.getD I.ja false = false → OwnE I.E I.T w I.base I.A I.n I.c I.l ∧
    (listed.getD I.jr false = true → ∃ g vs, a.eval (.tmp I.tr) = .slice (some ⟨g, 0, none⟩) 1 1 ∧ N ≤ g ∧ Str w g vs.toArray ∧ I.E.rel w w.heap.size vs I.x)) ∧
  (listed.getD I.ja false = true → ∃ A' c', a.eval (.tmp I.ts) = .slice A' (I.n + 1) c' ∧ (listed.getD I.jf false = true → a.eval (.tmp I.tf) = .slice A' (I.n + 1) c') ∧ I.Has N w A' c') ∧
  (listed.getD I.jf false = true → listed.getD I.ja false = true)
def Row1.ok {α : Type} (I : Row1 α) (N k : Nat) : Prop := I.E.Pure ∧ I.jr ≠ I.ja ∧ I.jf ≠ I.ja ∧ I.jf ≠ I.jr ∧ I.tr ≠ I.ts ∧ I.tf ≠ I.ts ∧ I.tf ≠ I.tr ∧ I.jr < k ∧ I.ja < k ∧ I.jf < k
/-- an operation is none of the row's, and its slot none of its slots -/
def Row1.Off {α : Type} (I : Row1 α) (j : Nat) (d : Option Tmp) : Prop := j ≠ I.jr ∧ j ≠ I.ja ∧ j ≠ I.jf ∧ d ≠ some I.tr ∧ d ≠ some I.ts ∧ d ≠ some I.tf
/-- a block is none of the row's -/
def Row1.Out {α : Type} (I : Row1 α) (N : Nat) (k : Option Nat) : Prop := ∀ g, k = some g → g < N ∧ ∀ a, I.A = some a → a.block ≠ g
theorem Str.by_ {w w' : World} {b : Nat} {cs : Array Value} {k : Option Nat} (h : Str w b cs) (hg : w.grownBy w' k) (hk : k ≠ some b) : Str w' b cs := by
  have hl := h.lt
  obtain ⟨t, ht⟩ := h
  exact ⟨t, (hg.block b hl (fun e => hk e.symm)).trans ht⟩
section
variable {α β : Type} {I : Row1 α} {I2 : Row1 β} {N : Nat} {listed : Array Bool} {a : Act} {w w' : World} {j : Nat} {d : Option Tmp} {v : Value} {k : Option Nat}
theorem Row1.step (hE : I.E.Pure) (h : I.J N listed a w) (hj : I.Off j d) (hg : w.grownBy w' k) (ho : I.Out N k) : I.J N (listed.setIfInBounds j true) (a.put d v) w' := by
  obtain ⟨j1, j2, j3, d1, d2, d3⟩ := hj
  unfold Row1.J
  rw [getD_set_ne false j2, getD_set_ne false j1, getD_set_ne false j3, eval_ne d1, eval_ne d2, eval_ne d3]
  refine ⟨fun hf => ?_, fun ht => ?_, h.2.2⟩
  · obtain ⟨h1, h2⟩ := h.1 hf
    refine ⟨h1.grownP hE hg (fun ad e ek => (ho _ ek).2 ad e rfl), fun hr => ?_⟩
    obtain ⟨g, vs, e, hN, hs, hrel⟩ := h2 hr
    exact ⟨g, vs, e, hN, Str.by_ hs hg (fun ek => by have := (ho _ ek).1; omega), hE _ _ _ _ _ _ hrel⟩
  · obtain ⟨A', c', e, ef, h1, h2⟩ := h.2.1 ht
    refine ⟨A', c', e, ef, h1.grownP hE hg (fun ad e2 ek => ?_), h2⟩
    obtain ⟨k1, k2⟩ := ho _ ek
    rcases h2 ad e2 with e3 | e3
    · exact k2 ad (by rw [e3, e2]) rfl
    · omega
end
section
variable {α β : Type} {I : Row1 α} {I2 : Row1 β} {N : Nat} {bl : List Nat} {P : Program} {ops : Array Oper} {Q : Exit → Act → World → Prop} {T : List (SP (extB N bl))} {a0 : Act} {W : World} {j : Nat} {o : Oper} {s : List (Tmp × Option Nat)}
end
end Reg
end Go.Proofs.Ytcfieofcnpalgaa
end
section
namespace Go.Proofs.Ytcfieofcnpalgaa
set_option linter.unusedVariables false
/-- a run: its place, its bytes -/
structure RunX where
  at_ : Int
  data : List UInt8
/-- a patch -/
structure PatchX where
  page : Int
  fresh : Bool
  runs : List RunX
namespace PatchP
def stop (r : RunX) : Int := r.at_ + (r.data.length : Nat)
def Within (r : RunX) : Prop := 0 < r.data.length ∧ 12 ≤ r.at_ ∧ stop r ≤ 512
/-- where the run ahead of k ends -/
def endOf (l : List RunX) : Nat → Int
  | 0 => -1
  | k + 1 => match l[k]? with
    | some q => stop q
    | none => -1
/-- the first k runs may be -/
def Okay (l : List RunX) (k : Nat) : Prop := ∀ i r, i < k → l[i]? = some r → Within r ∧ endOf l i < r.at_
def Right (x : PatchX) : Prop := 0 ≤ x.page ∧ x.page ≤ 65535 ∧ x.runs.length ≤ 500 ∧ Okay x.runs x.runs.length
noncomputable def right (x : PatchX) : Bool := @decide (Right x) (Classical.propDecidable _)
noncomputable def same (x y : PatchX) : Bool := @decide (x = y) (Classical.propDecidable _)
/-- a run's bytes -/
def runB (r : RunX) : List UInt8 := BeP.parts 2 r.at_ ++ (BeP.parts 2 (r.data.length : Nat) ++ r.data)
def runsB (l : List RunX) : List UInt8 := l.flatMap runB
def flag (b : Bool) : Int := if b then 1 else 0
def head (x : PatchX) : List UInt8 := BeP.parts 2 x.page ++ (BeP.parts 1 (flag x.fresh) ++ BeP.parts 2 (x.runs.length : Nat))
def body (x : PatchX) : List UInt8 := head x ++ runsB x.runs
noncomputable def bytes (x : PatchX) : List UInt8 := if right x then body x else []
/-- where the k-th run stands -/
def place (x : PatchX) (k : Nat) : Nat := 5 + (runsB (x.runs.take k)).length
variable {x : PatchX} {more : List UInt8} {k : Nat} {r : RunX}
end PatchP
end Go.Proofs.Ytcfieofcnpalgaa
end
section
namespace Go.Proofs.Ytcfieofcnpalgaa
open Go.RowKit
set_option linter.unusedVariables false
end Go.Proofs.Ytcfieofcnpalgaa
end
section
namespace Go.Proofs.Ytcfieofcnpalgaa
open Go.RowKit
set_option linter.unusedVariables false
theorem OwnE.write1 {P : Program} {α : Type} {E : El α} {T : TypeId} {w : World} {base n c : Nat} {A : Option Addr} {l : List α} (h : OwnE E T w base A n c l) {j i : Nat} {v : Value} {x : α} (hj : j < n) (hi : i < E.size) (h1 : v.oneCell' = true) (hrel : ∀ g vs, A = some ⟨g, 0, none⟩ → (∀ y, l[j]? = some y → E.rel (hide w g) w.heap.size vs y) → E.rel (hide w g) w.heap.size (overV vs i [v]) x) :
    ∃ g, A = some ⟨g, 0, none⟩ ∧ base ≤ g ∧ g < w.heap.size ∧ (w.cell? ⟨g, j * E.size + i, none⟩).isSome = true ∧ w.frozen? ⟨g, j * E.size + i, none⟩ = false ∧ OwnE E T (w.setCell ⟨g, j * E.size + i, none⟩ v) base A n c (l.set j x) := by
  have hcap := h.elemsIn.cap
  obtain ⟨g, cur, vs, rfl, hg, hh, hnc, hm, hc, hx, hr, hvl⟩ := h.row (by omega)
  have hjs : j * E.size + E.size ≤ n * E.size := by rw [← Nat.succ_mul]; exact Nat.mul_le_mul_right _ hj
  have hns : n * E.size ≤ c * E.size := Nat.mul_le_mul_right _ hnc
  have hk : j * E.size + i < cur.size := by omega
  have hcell : (w.cell? ⟨g, j * E.size + i, none⟩).isSome = true := by
    rw [cell_of_row w g _ cur T (0, 0) hh, Array.getElem?_eq_getElem hk]; rfl
  have hfr : w.frozen? ⟨g, j * E.size + i, none⟩ = false := by
    unfold World.frozen?
    simp [hh]
  obtain ⟨g', w1, e, -, hgl, hrun, hO, -, -⟩ := OwnE.write (P := P) h (j := j) (i := i) (s := [v]) (x := x) hj (by simp; omega) (fun u hu => by simp only [List.mem_cons, List.not_mem_nil, or_false] at hu; rw [hu]; exact h1) hrel
  cases e
  have hrun2 := run_storeCells_cells (P := P) g (j * E.size + i) [v] 0 w (fun q hq => by
    have : q = 0 := by simpa using hq
    subst this; exact hcell) (fun q hq => by
    have : q = 0 := by simpa using hq
    subst this; exact hfr) (fun u hu => by simp only [List.mem_cons, List.not_mem_nil, or_false] at hu; rw [hu]; exact h1)
  rw [hrun2] at hrun
  have e2 : w.setCells g (j * E.size + i + 0) [v] = w1 := by injection hrun
  rw [← e2] at hO
  exact ⟨g, rfl, hg, hgl, hcell, hfr, hO⟩
end Go.Proofs.Ytcfieofcnpalgaa
end
section
namespace Go.Proofs.Ytcfieofcnpalgaa
open Go.RowKit
set_option linter.unusedVariables false
set_option linter.unusedSimpArgs false
/-- a pointer to a block -/
def PtrE : El Nat where
  size := 1
  pos := by decide
  rel w B vs x := vs = [.pointer (some ⟨x, 0, none⟩)]
  len := by rintro w B vs p rfl; rfl
  one := by rintro w B vs p rfl v hv; simp only [List.mem_singleton] at hv; subst hv; rfl
  sub := by rintro w w' B vs p hs h; exact h
  more := by rintro w B B' vs p hB h; exact h
theorem ptrE_pure : PtrE.Pure := fun _ _ _ _ _ _ h => h
theorem ptr_at {wr w : World} {B n c k : Nat} {A : Option Addr} {l : List Nat} (h : ElemsIn PtrE wr w B A n c l) (hk : k < n) : ∃ b o x, A = some ⟨b, o, none⟩ ∧ b < B ∧ l[k]? = some x ∧ w.cell? ⟨b, o + k, none⟩ = some (.pointer (some ⟨x, 0, none⟩)) := by
  have hl : k < l.length := by rw [h.len]; exact hk
  obtain ⟨b, o, vs, e, hb, rfl, hc⟩ := h.at_ hk
  exact ⟨b, o, _, e, hb, List.getElem?_eq_getElem hl, by simpa [PtrE] using hc 0 _ rfl⟩
theorem PtrE.lit {w wr : World} {b x : Nat} (hs : Str w b #[.pointer (some ⟨x, 0, none⟩)]) : ElemsIn PtrE wr w w.heap.size (some ⟨b, 0, none⟩) 1 1 [x] :=
  ⟨[[.pointer (some ⟨x, 0, none⟩)]], ⟨rfl, trivial⟩, rfl, Nat.le_refl _, by unfold maxLen; omega, fun _ => ⟨b, 0, rfl, hs.lt, fun j v hv => by
    have hj : j = 0 := by have := (List.getElem?_eq_some_iff.1 hv).1; simp at this; omega
    subst hj
    simp at hv
    subst hv
    exact hs.cell 0⟩⟩
namespace PoolW
def place (L : List Nat) (g : Nat) : Int := match L.findIdx? (fun x => x == g) with
  | some i => (i : Int)
  | none => -1
theorem infoPF : (Try.prog.info? 44).map (fun i => (i.zero, i.size, i.bytes)) = some (some (.pointer none), 1, 8) := by kernel_rfl
def frZ : Array Value := (([Value.int .i64 0] : List Value) ++ zerosV 512 ++ [Value.bool false, Value.int .i64 0]).toArray
theorem infoFr : (Try.prog.info? 48).map (fun i => (i.zero, i.size)) = some (some (.agg frZ), 515) := by kernel_rfl
theorem eql_ptr {w : World} {x y : Nat} {cx cy : Array Value} (hx : Str w x cx) (hy : Str w y cy) : (binOp .eql 44 (.pointer (some ⟨x, 0, none⟩)) (.pointer (some ⟨y, 0, none⟩))).run Try.prog w = .ok (.bool (x == y)) w := by
  obtain ⟨j, hj, hz⟩ : ∃ j, Try.prog.info? 48 = some j ∧ j.size = 515 := by
    have := infoFr
    cases hq : Try.prog.info? 48 with
    | none => simp [hq] at this
    | some i => simp [hq] at this; exact ⟨i, rfl, this.2⟩
  by_cases e : x = y
  · subst e
    rw [run_eql_ptr_same w ⟨x, 0, none⟩ Try.underlying44 hj]
    simp
  · obtain ⟨tx, h1⟩ := hx
    obtain ⟨ty, h2⟩ := hy
    rw [run_eql_ptr_other w Try.underlying44 hj (by omega) (by intro h; injection h with h; exact e h) h1 h2]
    simpa using e
def frC (f : Fr) : Array Value := (([.int .i64 f.no] : List Value) ++ f.x.map byteV ++ ([.bool f.dirty, .int .i64 f.pins] : List Value)).toArray
theorem frC_size {f : Fr} (h : f.x.length = 512) : (frC f).size = 515 := by simp [frC, h]
structure FrOk (f : Fr) : Prop where
  x : f.x.length = 512
  no : In64 f.no
  p0 : 0 ≤ f.pins
  p1 : f.pins ≤ 1000000000
theorem frC_no (f : Fr) : (frC f)[0]? = some (.int .i64 f.no) := by simp [frC]
theorem frC_x {f : Fr} (h : f.x.length = 512) {j : Nat} (hj : j < 512) : (frC f)[1 + j]? = f.x[j]?.map byteV := by
  unfold frC
  rw [List.getElem?_toArray, List.append_assoc, List.getElem?_append_right (by simp), List.getElem?_append_left (by simp [h]; omega)]
  simp
theorem frC_dirty {f : Fr} (h : f.x.length = 512) : (frC f)[513]? = some (.bool f.dirty) := by
  unfold frC
  rw [List.getElem?_toArray, List.getElem?_append_right (by simp [h])]
  simp [h]
theorem frC_pins {f : Fr} (h : f.x.length = 512) : (frC f)[514]? = some (.int .i64 f.pins) := by
  unfold frC
  rw [List.getElem?_toArray, List.getElem?_append_right (by simp [h])]
  simp [h]
/-- frames, each in a block of its own -/
structure Frs (w : World) (L : List Nat) (F : List Fr) : Prop where
  len : L.length = F.length
  str : ∀ (i : Nat) b f, L[i]? = some b → F[i]? = some f → Str w b (frC f)
  ok : ∀ f ∈ F, FrOk f
section
variable {w w' : World} {L : List Nat} {F : List Fr} {b : Nat} {f : Fr}
theorem Frs.at_ (h : Frs w L F) (hb : ∀ b ∈ L, w'.heap[b]? = w.heap[b]?) : Frs w' L F :=
  ⟨h.len, fun i b f h1 h2 => by obtain ⟨t, ht⟩ := h.str i b f h1 h2; exact ⟨t, (hb b (List.mem_of_getElem? h1)).trans ht⟩, h.ok⟩
theorem Frs.lt (h : Frs w L F) : ∀ b ∈ L, b < w.heap.size := fun b hb => by
  obtain ⟨i, hi⟩ := List.getElem?_of_mem hb
  have hl := (List.getElem?_eq_some_iff.1 hi).1
  exact (h.str i b _ hi (List.getElem?_eq_getElem (by rw [← h.len]; exact hl))).lt
theorem Frs.next (h : Frs w L F) (hb : Below w.heap.size w w') : Frs w' L F := h.at_ fun b hm => hb.block b (h.lt b hm)
theorem Frs.get (h : Frs w L F) {i : Nat} (hi : F[i]? = some f) : ∃ b, L[i]? = some b ∧ Str w b (frC f) ∧ FrOk f := by
  have hl : i < L.length := by rw [h.len]; exact (List.getElem?_eq_some_iff.1 hi).1
  exact ⟨_, List.getElem?_eq_getElem hl, h.str i _ _ (List.getElem?_eq_getElem hl) hi, h.ok f (List.mem_of_getElem? hi)⟩
theorem Frs.erase (h : Frs w L F) (k : Nat) : Frs w (L.eraseIdx k) (F.eraseIdx k) := by
  refine ⟨?_, fun i b f h1 h2 => ?_, fun f hf => h.ok f (List.mem_of_mem_eraseIdx hf)⟩
  · rw [List.length_eraseIdx, List.length_eraseIdx, h.len]
  · rw [List.getElem?_eraseIdx] at h1 h2
    split at h1
    · rename_i hlt; rw [if_pos hlt] at h2; exact h.str i b f h1 h2
    · rename_i hlt; rw [if_neg hlt] at h2; exact h.str (i + 1) b f h1 h2
theorem Frs.snoc (h : Frs w L F) (hs : Str w b (frC f)) (ho : FrOk f) : Frs w (L ++ [b]) (F ++ [f]) := by
  refine ⟨by simp [h.len], fun i b' f' h1 h2 => ?_, fun f' hf => ?_⟩
  · rcases Nat.lt_trichotomy i L.length with hlt | rfl | hgt
    · rw [List.getElem?_append_left hlt] at h1
      rw [List.getElem?_append_left (by rw [← h.len]; exact hlt)] at h2
      exact h.str i b' f' h1 h2
    · rw [List.getElem?_append_right (Nat.le_refl _), Nat.sub_self] at h1
      rw [h.len, List.getElem?_append_right (Nat.le_refl _), Nat.sub_self] at h2
      simp at h1 h2
      subst h1 h2
      exact hs
    · rw [List.getElem?_eq_none (by simp; omega)] at h1
      cases h1
  · rcases List.mem_append.1 hf with h1 | h1
    · exact h.ok f' h1
    · rw [List.mem_singleton.1 h1]; exact ho
/-- one frame is another -/
theorem Frs.set {i : Nat} (h : Frs w L F) (hi : L[i]? = some b) (hd : L.Nodup) (hg : w.grownBy w' (some b)) (hs : Str w' b (frC f)) (ho : FrOk f) : Frs w' L (F.set i f) := by
  refine ⟨by simp [h.len], fun j b' f' h1 h2 => ?_, fun f' hf => ?_⟩
  · by_cases e : i = j
    · subst e
      rw [hi] at h1
      cases h1
      rw [List.getElem?_set_self (by have := (List.getElem?_eq_some_iff.1 hi).1; rw [← h.len]; exact this)] at h2
      cases h2
      exact hs
    · rw [List.getElem?_set_ne e] at h2
      have hne : b' ≠ b := fun e2 => by
        subst e2
        obtain ⟨h3, h4⟩ := List.getElem?_eq_some_iff.1 hi
        obtain ⟨h5, h6⟩ := List.getElem?_eq_some_iff.1 h1
        exact e ((List.getElem_inj hd).1 (h4.trans h6.symm))
      exact (h.str j b' f' h1 h2).grownO hg (fun e2 => by injection e2 with e2; exact hne e2.symm)
  · rcases List.mem_or_eq_of_mem_set hf with h1 | h1
    · exact h.ok f' h1
    · rw [h1]; exact ho
end
/-- a pool's box -/
def poolC (d lg : Nat) (n : Int) (A : Option Addr) (m c : Nat) : Array Value := #[.pointer (some ⟨d, 0, none⟩), .iface 31 (.pointer (some ⟨lg, 0, none⟩)), .int .i64 n, .slice A m c]
/-- a pool's frames in memory -/
structure In (w : World) (p d lg : Nat) (n : Int) (A : Option Addr) (m c : Nat) (L : List Nat) (F : List Fr) : Prop where
  box : Str w p (poolC d lg n A m c)
  row : OwnE PtrE 44 w 0 A m c L
  frs : Frs w L F
  nd : (p :: ((A.map (·.block)).toList ++ L)).Nodup
  m100 : m ≤ 100
section
variable {w w' : World} {p d lg m c : Nat} {n : Int} {A : Option Addr} {L : List Nat} {F : List Fr}
theorem row_lt (h : OwnE PtrE 44 w 0 A m c L) : ∀ b ∈ (A.map (·.block)).toList, b < w.heap.size := fun b hb => by
  obtain ⟨a, e, h2⟩ := Option.map_eq_some_iff.1 (Option.mem_toList.1 hb)
  obtain ⟨vs, h1, -⟩ := h
  rcases h1.2 with ⟨e1, -⟩ | ⟨g, cap, cur, e1, -, hh, -⟩
  · cases e1; cases e
  · cases e1; cases e; rw [← h2]; exact (Array.getElem?_eq_some_iff.1 hh).1
theorem row_at (h : OwnE PtrE 44 w 0 A m c L) (hb : ∀ b ∈ (A.map (·.block)).toList, w'.heap[b]? = w.heap[b]?) : OwnE PtrE 44 w' 0 A m c L := by
  obtain ⟨vs, ⟨h0, h1⟩, h2⟩ := h
  refine ⟨vs, ⟨h0, ?_⟩, h2.imp fun _ _ hr => hr⟩
  rcases h1 with e | ⟨g, cap, cur, e, hg2, hh, r⟩
  · exact .inl e
  · cases e
    exact .inr ⟨g, c, cur, rfl, hg2, (hb g (by simp)).trans hh, r⟩
theorem In.at_ (h : In w p d lg n A m c L F) (hb : ∀ b ∈ p :: ((A.map (·.block)).toList ++ L), w'.heap[b]? = w.heap[b]?) : In w' p d lg n A m c L F := by
  refine ⟨?_, row_at h.row fun b hm => hb b (by simp only [List.mem_cons, List.mem_append]; exact .inr (.inl hm)), h.frs.at_ fun b hm => hb b (by simp only [List.mem_cons, List.mem_append]; exact .inr (.inr hm)), h.nd, h.m100⟩
  obtain ⟨t, ht⟩ := h.box
  exact ⟨t, (hb p (by simp)).trans ht⟩
theorem In.lt (h : In w p d lg n A m c L F) : ∀ b ∈ p :: ((A.map (·.block)).toList ++ L), b < w.heap.size := by
  intro b hb
  simp only [List.mem_cons, List.mem_append] at hb
  rcases hb with rfl | hb | hb
  · exact h.box.lt
  · exact row_lt h.row b hb
  · exact h.frs.lt b hb
theorem In.next (h : In w p d lg n A m c L F) (hb : Below w.heap.size w w') : In w' p d lg n A m c L F := h.at_ fun b hm => hb.block b (h.lt b hm)
end
set_option maxRecDepth 100000 in
set_option maxHeartbeats 1000000 in
theorem find_any (p d lg m c : Nat) (n : Int) (A : Option Addr) (L : List Nat) (F : List Fr) (no : Int) (w : World) (h : In w p d lg n A m c L F) :
    Calls Try.prog 17 #[.pointer (some ⟨p, 0, none⟩), .int .i64 no] w fun e w' => e = .returned (.pointer ((PoolP.find F no).bind fun i => L[i]?.map fun b => ⟨b, 0, none⟩)) ∧ w = w' := by
  have g0 := str4 (show Str w p #[.pointer (some ⟨d, 0, none⟩), .iface 31 (.pointer (some ⟨lg, 0, none⟩)), .int .i64 n, .slice A m c] from h.box)
  have hlp := h.box.lt
  have hm100 := h.m100
  have hlen := h.row.len
  have H := Lib.hid h
  clear h
  go_enter Try.func17, Try.ntmps17
  go_wp2
  go_loopw [12] (fun iv wr => ∃ k : Nat, k ≤ m ∧ iv = .int .i64 (k : Int) ∧ wr = w ∧ Hid (∀ (j : Nat) f, j < k → F[j]? = some f → ¬ f.no = no)) (fun iv _ => m - (intOf iv).toNat)
  case atStart => exact ⟨0, Nat.zero_le _, rfl, rfl, Lib.hid (fun j f hj => absurd hj (by omega))⟩
  case round =>
    obtain ⟨k, hk, rfl, rfl, HN⟩ := hrel
    by_cases hlt : k < m
    · have hd : decide ((k : Int) < (m : Int)) = true := by simp; omega
      obtain ⟨b, o, x, rfl, hb, hx, q0⟩ := ptr_at H.out.row.elems hlt
      obtain ⟨f, hf⟩ : ∃ f, F[k]? = some f := ⟨_, List.getElem?_eq_getElem (by rw [← H.out.frs.len, hlen]; exact hlt)⟩
      have hsx := H.out.frs.str k x f hx hf
      have q1 : wr.cell? ⟨x, 0, none⟩ = some (.int .i64 f.no) := by rw [hsx.cell 0]; exact frC_no f
      have HF := Lib.hid (And.intro hf hx)
      clear hf hx hsx
      by_cases he : f.no = no
      · have hfi : PoolP.find F no = some k := by
          unfold PoolP.find
          rw [List.findIdx?_eq_some_iff_getElem]
          obtain ⟨h1, h2⟩ := List.getElem?_eq_some_iff.1 HF.out.1
          exact ⟨h1, by rw [h2]; simpa using he, fun j hj => by
            have := HN.out j _ hj (List.getElem?_eq_getElem (by omega))
            simpa using this⟩
        have HFI := Lib.hid hfi
        have heq : (f.no == no) = true := by simpa using he
        clear hfi he
        go_wp2
        go_ret
        refine ⟨?_, by trivial⟩
        rw [HFI.out]
        simp only [Option.bind_some, HF.out.2, Option.map_some]
        rfl
      · have heq : (f.no == no) = false := by simpa using he
        have HN2 : Hid (∀ (j : Nat) f, j < k + 1 → F[j]? = some f → ¬ f.no = no) := Lib.hid fun j f' hj hf' => by
          by_cases e : j = k
          · subst e; rw [HF.out.1] at hf'; cases hf'; exact he
          · exact HN.out j f' (by omega) hf'
        clear he
        go_wp2
        go_roundw
        case rel => exact ⟨k + 1, by omega, by go_num, by trivial, HN2⟩
        case measure => simp [intOf]; omega
    · have hd : decide ((k : Int) < (m : Int)) = false := by simp; omega
      have hfi : PoolP.find F no = none := by
        unfold PoolP.find
        rw [List.findIdx?_eq_none_iff]
        intro f hf
        obtain ⟨j, hj⟩ := List.getElem?_of_mem hf
        have hjl := (List.getElem?_eq_some_iff.1 hj).1
        have := HN.out j f (by have := H.out.frs.len; omega) hj
        simpa using this
      have HFI := Lib.hid hfi
      clear hfi
      go_wp2
      go_ret
      exact ⟨by rw [HFI.out]; rfl, by trivial⟩
set_option maxRecDepth 100000 in
set_option maxHeartbeats 1000000 in
theorem index_any (m c g : Nat) (A : Option Addr) (L : List Nat) (w : World) (h : OwnE PtrE 44 w 0 A m c L) (hm : m ≤ 100) {cg : Array Value} (hg : Str w g cg) (hS : ∀ x ∈ L, ∃ cs, Str w x cs) :
    Calls Try.prog 31 #[.slice A m c, .pointer (some ⟨g, 0, none⟩)] w fun e w' => e = .returned (.int .i64 (place L g)) ∧ w = w' := by
  have hlen := h.len
  have H := Lib.hid h
  have HS := Lib.hid hS
  have HG := Lib.hid hg
  clear h hS hg
  go_enter Try.func31, Try.ntmps31
  go_wp2
  go_loopw [8] (fun iv wr => ∃ k : Nat, k ≤ m ∧ iv = .int .i64 (k : Int) ∧ wr = w ∧ Hid (∀ j : Nat, j < k → L[j]? ≠ some g)) (fun iv _ => m - (intOf iv).toNat)
  case atStart => exact ⟨0, Nat.zero_le _, rfl, rfl, Lib.hid (fun j hj => absurd hj (by omega))⟩
  case round =>
    obtain ⟨k, hk, rfl, rfl, HN⟩ := hrel
    by_cases hlt : k < m
    · have hd : decide ((k : Int) < (m : Int)) = true := by simp; omega
      obtain ⟨b, o, x, rfl, hb, hx, q0⟩ := ptr_at H.out.elems hlt
      have HX := Lib.hid hx
      obtain ⟨cx, hsx⟩ := HS.out x (List.mem_of_getElem? hx)
      have hq := eql_ptr HG.out hsx
      clear hx hsx
      by_cases he : g = x
      · subst he
        rw [beq_self_eq_true] at hq
        have hr : place L g = (k : Int) := by
          unfold place
          rw [List.findIdx?_eq_some_iff_getElem.2]
          obtain ⟨h1, h2⟩ := List.getElem?_eq_some_iff.1 HX.out
          exact ⟨h1, by rw [h2]; simp, fun j hj => by
            have := HN.out j hj
            rw [List.getElem?_eq_getElem (by omega)] at this
            simpa using this⟩
        have HR := Lib.hid hr
        clear hr
        go_wp2
        go_ret
        exact ⟨by rw [HR.out]; rfl, by trivial⟩
      · have HN2 : Hid (∀ j : Nat, j < k + 1 → L[j]? ≠ some g) := Lib.hid fun j hj h1 => by
          by_cases e : j = k
          · subst e; rw [HX.out] at h1; cases h1; exact he rfl
          · exact HN.out j (by omega) h1
        rw [show (g == x) = false by simpa using he] at hq
        go_wp2
        go_roundw
        case rel => exact ⟨k + 1, by omega, by go_num, by trivial, HN2⟩
        case measure => simp [intOf]; omega
    · have hd : decide ((k : Int) < (m : Int)) = false := by simp; omega
      have hr : place L g = -1 := by
        unfold place
        rw [List.findIdx?_eq_none_iff.2]
        intro x hx
        obtain ⟨j, hj⟩ := List.getElem?_of_mem hx
        have := HN.out j (by have := (List.getElem?_eq_some_iff.1 hj).1; omega)
        rw [hj] at this
        simpa using this
      have HR := Lib.hid hr
      clear hr
      go_wp2
      go_ret
      exact ⟨by rw [HR.out]; rfl, by trivial⟩
end PoolW
end Go.Proofs.Ytcfieofcnpalgaa
end
section
namespace Go.Proofs.Ytcfieofcnpalgaa
open Go.RowKit
set_option linter.unusedVariables false
set_option linter.unusedSimpArgs false
namespace PoolW
attribute [local go_sem ↓] app_fold cut_fold cl_fold cp_fold
theorem own_drew1 {w : World} {base n c : Nat} {A : Option Addr} {l : List Nat} (h : OwnE PtrE 44 w base A n c l) : OwnE PtrE 44 w.drew base A n c l := h.next ((bsame w).drew)
set_option maxRecDepth 100000 in
set_option maxHeartbeats 1000000 in
theorem delete_any (A : Option Addr) (n c base k : Nat) (l : List Nat) (w : World) (h : OwnE PtrE 44 w base A n c l) (hb : base ≤ w.heap.size) (hk : k < n) (hn : n ≤ 100000) :
    Calls Try.prog 32 #[.slice A n c, .int .i64 (k : Int), .int .i64 ((k + 1 : Nat) : Int)] w fun e w' => e = .returned (.slice A (n - 1) c) ∧ OwnE PtrE 44 w' base A (n - 1) c (l.eraseIdx k) ∧ ∃ a, A = some a ∧ w.grownBy w' (some a.block) := by
  obtain ⟨i0, hi, hz0, hz1, hz2⟩ := info_parts infoPF
  have hcap := h.elemsIn.cap
  obtain ⟨g, w1, rfl, hbg, hgl, hrun, hO1, hg1, hs1⟩ := (own_drew1 h).del (P := Try.prog) 51 51 i0 Try.underlying51 hi hz1 k hk
  obtain ⟨g', w2, e, hrun2, hO2, hg2, hs2⟩ := hO1.wipe (P := Try.prog) 51 0 i0 _ Try.underlying51 hi hz0 rfl (by intro v hv; simp only [Value.cells, List.mem_cons, List.not_mem_nil, or_false] at hv; subst hv; rfl) (by omega) (n - (n - 1)) (by omega)
  cases e
  have HO2 := Lib.hid hO2
  have HB2 : Hid (w.grownBy w2 (some g)) := Lib.hid (((⟨rfl, rfl, rfl, Nat.le_refl _, fun _ _ _ => rfl⟩ : w.grownBy w.drew (some g)).trans hg1).trans hg2)
  rw [show PtrE.size = 1 from rfl] at hrun hrun2
  have hcm := hcap.2
  have hcn := hcap.1
  unfold maxLen at hcm
  clear h hO1 hO2 hg1 hg2 hi hz0 hz1 hz2 hcap
  go_enter Try.func32, Try.ntmps32
  go_wp2
  go_region
  go_wp2
  go_ret
  exact ⟨rfl, HO2.out, _, rfl, HB2.out⟩
theorem place_at {L : List Nat} {i g : Nat} (h : L[i]? = some g) (hd : L.Nodup) : place L g = (i : Int) := by
  unfold place
  rw [List.findIdx?_eq_some_iff_getElem.2]
  obtain ⟨h1, h2⟩ := List.getElem?_eq_some_iff.1 h
  exact ⟨h1, by rw [h2]; simp, fun j hj => by
    have : L[j] ≠ g := fun e => by
      have := (List.getElem_inj hd (h₀ := by omega) (h₁ := h1)).1 (e.trans h2.symm)
      omega
    simpa using this⟩
theorem place_no {L : List Nat} {g : Nat} (h : g ∉ L) : place L g = -1 := by
  unfold place
  rw [List.findIdx?_eq_none_iff.2]
  intro x hx
  have : x ≠ g := fun e => h (e ▸ hx)
  simpa using this
/-- behind use: the box and its row -/
def Used (w : World) (p d lg : Nat) (n : Int) (A : Option Addr) (m : Nat) (L : List Nat) (w' : World) : Prop :=
  ∃ A' c', Str w' p (poolC d lg n A' m c') ∧ OwnE PtrE 44 w' 0 A' m c' L ∧ (A' = A ∨ ∃ a, A' = some a ∧ w.heap.size ≤ a.block) ∧ Reg.KeepB w.heap.size (p :: (A.map (·.block)).toList) w w'
theorem own_ne {w : World} {m c q : Nat} {A : Option Addr} {L : List Nat} (hq : q ∉ (A.map (·.block)).toList) : ∀ a, A = some a → (some q : Option Nat) ≠ some a.block := by
  intro a e h
  injection h with h
  exact hq (by rw [e, h]; simp)
set_option maxRecDepth 100000 in
set_option maxHeartbeats 1000000 in
theorem use_new (p d lg m c g : Nat) (n : Int) (A : Option Addr) (L : List Nat) (w : World) (hP : Str w p (poolC d lg n A m c)) (hR : OwnE PtrE 44 w 0 A m c L) (hq : p ∉ (A.map (·.block)).toList) (hm : m ≤ 100) {cg : Array Value} (hg : Str w g cg) (hS : ∀ x ∈ L, ∃ cs, Str w x cs) (hn : g ∉ L) :
    Calls Try.prog 18 #[.pointer (some ⟨p, 0, none⟩), .pointer (some ⟨g, 0, none⟩)] w fun e w' => e = .returned (.tuple #[]) ∧ Used w p d lg n A (m + 1) (L ++ [g]) w' := by
  have HP0 := Lib.hid hP
  have HQ := Lib.hid hq
  have HG := Lib.hid hg
  have HS := Lib.hid hS
  have HR0 := Lib.hid hR
  have hlen := hR.len
  have g0 := str4 (show Str w p #[.pointer (some ⟨d, 0, none⟩), .iface 31 (.pointer (some ⟨lg, 0, none⟩)), .int .i64 n, .slice A m c] from hP)
  have gf0 := fun j => hP.frozen j
  have hl0 := hP.lt
  clear hP hR hq hg hS
  have hpl := place_no hn
  go_enter Try.func18, Try.ntmps18
  go_wp2_with fail
  refine (index_any m c g A L w HR0.out hm HG.out HS.out).mono ?_
  rintro e w' ⟨rfl, rfl⟩
  rw [hpl]
  have HR := HR0
  have HP : Hid (Str w p #[.pointer (some ⟨d, 0, none⟩), .iface 31 (.pointer (some ⟨lg, 0, none⟩)), .int .i64 n, .slice A m c]) := HP0
  have HK : Hid (Reg.KeepB w.heap.size (p :: (A.map (·.block)).toList) w w) := Lib.hid (Reg.KeepB.of (bsame w))
  obtain ⟨i0, hi, hz0, hz1, hz2⟩ := info_parts infoPF
  obtain ⟨V, hV⟩ : ∃ V, w.alloc (.cells #[.pointer (some ⟨g, 0, none⟩)] 44) = V := ⟨_, rfl⟩
  have hbV : Below w.heap.size w V := by rw [← hV]; exact balloc (bsame _) _
  have hlit : Str V w.heap.size #[.pointer (some ⟨g, 0, none⟩)] := by rw [← hV]; exact Str.new _ _ _
  obtain ⟨A3, c3, W3, happ, hO3, -, hg3, hA3⟩ := (HR.out.next hbV).app (P := Try.prog) 51 51 i0 _ 8 Try.underlying51 hi hz0 hz1 hz2 rfl (PtrE.lit hlit) (by unfold maxLen; omega) (by omega) (by omega)
  have hVz : V.heap.size = w.heap.size + 1 := by rw [← hV]; simp
  rw [← hV] at happ
  have hob : (Value.slice A 0 0).ownBlock = A.map (·.block) ∨ (Value.slice A 0 0).ownBlock = none := by
    cases A with
    | none => exact .inr rfl
    | some a => exact .inl rfl
  have hP3 : Str W3 p #[.pointer (some ⟨d, 0, none⟩), .iface 31 (.pointer (some ⟨lg, 0, none⟩)), .int .i64 n, .slice A m c] := (HP.out.next hbV).grownO hg3 (fun h => by rcases hob with e | e <;> rw [e] at h <;> first | exact HQ.out (Option.mem_toList.2 h) | cases h)
  have hk3 : Reg.KeepB w.heap.size (p :: (A.map (·.block)).toList) w W3 := by
    have h1 := HK.out.step hbV HK.out.size
    refine ⟨hg3.os.trans h1.os, hg3.tape.trans h1.tape, hg3.output.trans h1.output, Nat.le_trans h1.size hg3.size, fun q hq hn => (hg3.block q (by have := h1.size; omega) (fun e => ?_)).trans (h1.block q hq hn)⟩
    rcases hob with e1 | e1
    · rw [e1] at e
      exact hn (List.mem_cons_of_mem _ (by first | (rw [← e]; simp) | (simp at e; simp [e])))
    · rw [e1] at e; cases e
  have HO3 := Lib.hid hO3
  have HK3 := Lib.hid hk3
  have HP3 := Lib.hid hP3
  have HA3 : Hid (A3 = A ∨ ∃ a, A3 = some a ∧ w.heap.size ≤ a.block) := Lib.hid (hA3.imp id fun ⟨a, e, h⟩ => ⟨a, e, by have := HK.out.size; omega⟩)
  have HG3 : Hid (p ∉ (A3.map (·.block)).toList) := Lib.hid (by
    rcases HA3.out with e | ⟨a, e, h⟩
    · rw [e]; exact HQ.out
    · rw [e]; intro hm; have := HP0.out.lt; simp at hm; omega)
  have g3 := str4 HP3.out
  have gf3 := fun j => HP3.out.frozen j
  have hl3 := HP3.out.lt
  clear hbV hlit hO3 hg3 hA3 hob hP3 hk3 hi hz0 hz1 hz2 hVz hV
  go_wp2_with fail
  go_end0
  have hg4 := grown_set (grown_refl W3 p) 3 (.slice A3 (m + 1) c3)
  refine ⟨rfl, A3, c3, ?_, HO3.out.grownP ptrE_pure hg4 (own_ne (w := W3) (m := 0) (c := 0) (L := []) HG3.out), HA3.out, HK3.out.grown hg4 HK3.out.size (.inr (List.mem_cons_self ..))⟩
  have := HP3.out.set 3 (.slice A3 (m + 1) c3)
  simpa [poolC] using this
set_option maxRecDepth 100000 in
set_option maxHeartbeats 1000000 in
theorem use_in (p d lg m c g : Nat) (n : Int) (A : Option Addr) (L : List Nat) (w : World) (hP : Str w p (poolC d lg n A m c)) (hR : OwnE PtrE 44 w 0 A m c L) (hq : p ∉ (A.map (·.block)).toList) (hm : m ≤ 100) {cg : Array Value} (hg : Str w g cg) (hS : ∀ x ∈ L, ∃ cs, Str w x cs) (i : Nat) (hi : L[i]? = some g) (hd : L.Nodup) :
    Calls Try.prog 18 #[.pointer (some ⟨p, 0, none⟩), .pointer (some ⟨g, 0, none⟩)] w fun e w' => e = .returned (.tuple #[]) ∧ Used w p d lg n A m (L.eraseIdx i ++ [g]) w' := by
  have HP0 := Lib.hid hP
  have HQ := Lib.hid hq
  have HG := Lib.hid hg
  have HS := Lib.hid hS
  have HR0 := Lib.hid hR
  have hlen := hR.len
  have g0 := str4 (show Str w p #[.pointer (some ⟨d, 0, none⟩), .iface 31 (.pointer (some ⟨lg, 0, none⟩)), .int .i64 n, .slice A m c] from hP)
  have gf0 := fun j => hP.frozen j
  have hl0 := hP.lt
  clear hP hR hq hg hS
  have hpl := place_at hi hd
  have him : i < m := by have := (List.getElem?_eq_some_iff.1 hi).1; omega
  clear hd hi
  go_enter Try.func18, Try.ntmps18
  go_wp2_with fail
  refine (index_any m c g A L w HR0.out hm HG.out HS.out).mono ?_
  rintro e w' ⟨rfl, rfl⟩
  rw [hpl]
  have hd0 : decide ((0 : Int) ≤ (i : Int)) = true := by simp
  go_wp2_with fail
  refine (delete_any A m c 0 i L w HR0.out (Nat.zero_le _) him (by omega)).mono ?_
  rintro e w1 ⟨rfl, hO1, a, rfl, hg1⟩
  have hP1 := HP0.out.grownO hg1 (fun e => HQ.out (by simpa using (Option.some.inj e).symm))
  have hg2 := grown_set (grown_refl w1 p) 3 (.slice (some a) (m - 1) c)
  have HR1 := Lib.hid hO1
  have HP1 := Lib.hid hP1
  have HK1 : Hid (Reg.KeepB w.heap.size (p :: [a.block]) w w1) := Lib.hid ((Reg.KeepB.of (bsame w)).grown hg1 (Nat.le_refl _) (.inr (by simp)))
  have g1 := str4 (show Str w1 p #[.pointer (some ⟨d, 0, none⟩), .iface 31 (.pointer (some ⟨lg, 0, none⟩)), .int .i64 n, .slice (some a) m c] from hP1)
  have gf1 := fun j => hP1.frozen j
  have hl1 := hP1.lt
  clear hO1 hg1 hP1 g0 gf0
  go_wp2_with fail
  obtain ⟨W2, hW2⟩ : ∃ W, w1.setCell ⟨p, 3, none⟩ (.slice (some a) (m - 1) c) = W := ⟨_, rfl⟩
  rw [hW2] at hg2
  have HR : Hid (OwnE PtrE 44 W2 0 (some a) (m - 1) c (L.eraseIdx i)) := Lib.hid (HR1.out.grownP ptrE_pure hg2 (own_ne (w := w1) (m := 0) (c := 0) (L := []) HQ.out))
  have HP : Hid (Str W2 p #[.pointer (some ⟨d, 0, none⟩), .iface 31 (.pointer (some ⟨lg, 0, none⟩)), .int .i64 n, .slice (some a) (m - 1) c]) := Lib.hid (by rw [← hW2]; have := HP1.out.set 3 (.slice (some a) (m - 1) c); simpa [poolC] using this)
  have HK : Hid (Reg.KeepB w.heap.size (p :: [a.block]) w W2) := Lib.hid (HK1.out.grown hg2 HK1.out.size (.inr (List.mem_cons_self ..)))
  have g0 := str4 HP.out
  have gf0 := fun j => HP.out.frozen j
  have hl0' := HP.out.lt
  have hzw : W2.heap.size = w1.heap.size := by rw [← hW2]; simp
  obtain ⟨i0, hi, hz0, hz1, hz2⟩ := info_parts infoPF
  obtain ⟨V, hV⟩ : ∃ V, W2.alloc (.cells #[.pointer (some ⟨g, 0, none⟩)] 44) = V := ⟨_, rfl⟩
  have hbV : Below W2.heap.size W2 V := by rw [← hV]; exact balloc (bsame _) _
  have hlit : Str V W2.heap.size #[.pointer (some ⟨g, 0, none⟩)] := by rw [← hV]; exact Str.new _ _ _
  obtain ⟨A3, c3, W3, happ, hO3, -, hg3, hA3⟩ := (HR.out.next hbV).app (P := Try.prog) 51 51 i0 _ 8 Try.underlying51 hi hz0 hz1 hz2 rfl (PtrE.lit hlit) (by unfold maxLen; omega) (by omega) (by omega)
  have hVz : V.heap.size = W2.heap.size + 1 := by rw [← hV]; simp
  rw [← hV] at happ
  rw [hzw, ← hW2] at happ
  rw [show m - 1 + 1 = m by omega] at happ hO3
  have hob : (Value.slice (some a) 0 0).ownBlock = (some a).map (·.block) ∨ (Value.slice (some a) 0 0).ownBlock = none := by
    exact .inl rfl
  have hP3 : Str W3 p #[.pointer (some ⟨d, 0, none⟩), .iface 31 (.pointer (some ⟨lg, 0, none⟩)), .int .i64 n, .slice (some a) (m - 1) c] := (HP.out.next hbV).grownO hg3 (fun h => by rcases hob with e | e <;> rw [e] at h <;> first | exact HQ.out (Option.mem_toList.2 h) | cases h)
  have hk3 : Reg.KeepB w.heap.size (p :: [a.block]) w W3 := by
    have h1 := HK.out.step hbV HK.out.size
    refine ⟨hg3.os.trans h1.os, hg3.tape.trans h1.tape, hg3.output.trans h1.output, Nat.le_trans h1.size hg3.size, fun q hq hn => (hg3.block q (by have := h1.size; omega) (fun e => ?_)).trans (h1.block q hq hn)⟩
    rcases hob with e1 | e1
    · rw [e1] at e
      exact hn (List.mem_cons_of_mem _ (by first | (rw [← e]; simp) | (simp at e; simp [e])))
    · rw [e1] at e; cases e
  have HO3 := Lib.hid hO3
  have HK3 := Lib.hid hk3
  have HP3 := Lib.hid hP3
  have HA3 : Hid (A3 = some a ∨ ∃ a, A3 = some a ∧ w.heap.size ≤ a.block) := Lib.hid (hA3.imp id fun ⟨a, e, h⟩ => ⟨a, e, by have := HK.out.size; omega⟩)
  have HG3 : Hid (p ∉ (A3.map (·.block)).toList) := Lib.hid (by
    rcases HA3.out with e | ⟨a, e, h⟩
    · rw [e]; exact HQ.out
    · rw [e]; intro hm; have := HP0.out.lt; simp at hm; omega)
  have g3 := str4 HP3.out
  have gf3 := fun j => HP3.out.frozen j
  have hl3 := HP3.out.lt
  clear hbV hlit hO3 hg3 hA3 hob hP3 hk3 hi hz0 hz1 hz2 hVz hV
  clear hW2 hzw
  go_simp
  go_wp2_with fail
  go_end0
  have hg4 := grown_set (grown_refl W3 p) 3 (.slice A3 m c3)
  refine ⟨rfl, A3, c3, ?_, HO3.out.grownP ptrE_pure hg4 (own_ne (w := W3) (m := 0) (c := 0) (L := []) HG3.out), HA3.out, HK3.out.grown hg4 HK3.out.size (.inr (List.mem_cons_self ..))⟩
  have := HP3.out.set 3 (.slice A3 m c3)
  simpa [poolC] using this
end PoolW
end Go.Proofs.Ytcfieofcnpalgaa
end
section
namespace Go.Proofs.Ytcfieofcnpalgaa
open Go.RowKit
set_option linter.unusedVariables false
set_option linter.unusedSimpArgs false
namespace PoolW
set_option maxRecDepth 100000 in
set_option maxHeartbeats 1000000 in
theorem logForce_any (lg : Nat) (far lsn : Int) (w : World) (hL : Str w lg #[.int .i64 far]) :
    Calls Try.prog 107 #[.pointer (some ⟨lg, 0, none⟩), .int .i64 lsn] w fun e w' => e = .returned (.int .i64 0) ∧ Str w' lg #[.int .i64 (PoolP.force far lsn)] ∧ Reg.KeepB w.heap.size [lg] w w' := by
  have g0 := str1 hL
  have gf := fun j => hL.frozen j
  have hl := hL.lt
  have HL := Lib.hid hL
  clear hL
  unfold PoolP.force
  by_cases h : far < lsn
  · have hd : decide (far < lsn) = true := by simpa using h
    rw [if_pos h]
    go_enter Try.func107, Try.ntmps107
    go_wp2
    go_ret
    have hg := grown_set (grown_refl w lg) 0 (.int .i64 lsn)
    exact ⟨rfl, by simpa using HL.out.set 0 (.int .i64 lsn), (Reg.KeepB.of (bsame w)).grown hg (Nat.le_refl _) (.inr (by simp))⟩
  · have hd : decide (far < lsn) = false := by simpa using h
    rw [if_neg h]
    go_enter Try.func107, Try.ntmps107
    go_wp2
    go_ret
    exact ⟨rfl, HL.out, Reg.KeepB.of (bsame w)⟩
theorem method_force (f : Nat) (a : Addr) (w : World) : (method (f + 1) 31 (.pointer (some a)) "Force").run Try.prog w = .ok (107, .pointer (some a)) w := by kernel_rfl
theorem catch_idle (p : Addr) (w : World) :
    CallsD Try.prog 57 #[.pointer (some p)] .returning w fun e u' w' => e = .returned (.tuple #[]) ∧ u' = .returning ∧ w' = w := by
  refine callsD_of_wpS Try.func57 rfl fun c₀ cs hu => ?_
  apply wpS_seq
  apply wpS_region
  simp [wpOpsS, go_sem, recoverD, hu, Try.ntmps57, Exit.thenS]
  refine wpS_cond (t := false) (by simp [Act.eval, Array.replicate]) ?_
  simp only [Bool.false_eq_true, if_false]
  refine wpS_of_wp (wp_skip ?_)
  cases c₀
  simp_all [bodyPostS, results, Try.results57]
set_option maxRecDepth 100000 in
set_option maxHeartbeats 1000000 in
theorem force_any (p d lg m c : Nat) (n : Int) (A : Option Addr) (far lsn : Int) (w : World) (hP : Str w p (poolC d lg n A m c)) (hL : Str w lg #[.int .i64 far]) :
    Calls Try.prog 44 #[.pointer (some ⟨p, 0, none⟩), .int .i64 lsn] w fun e w' => e = .returned (.int .i64 0) ∧ Str w' lg #[.int .i64 (PoolP.force far lsn)] ∧ Reg.KeepB w.heap.size [lg] w w' := by
  have hmf : ∀ (fn : Fn) (first cap : Array Value) (w : World), (Instr.makeFunc fn first cap).run Try.prog w = .ok (.func fn first cap) w := fun _ _ _ _ => rfl
  have g0 := str4 (show Str w p #[.pointer (some ⟨d, 0, none⟩), .iface 31 (.pointer (some ⟨lg, 0, none⟩)), .int .i64 n, .slice A m c] from hP)
  have hl := hP.lt
  have HP := Lib.hid hP
  have HL := Lib.hid hL
  clear hP hL
  go_enter_defers Try.func44, Try.ntmps44
  have hL0 : Str (w.alloc (.cells #[.int .i64 0] 25)) lg #[.int .i64 far] := HL.out.alloc _
  have hE0 := Str.new w #[.int .i64 0] 25
  go_wp2_with fail
  rw [method_force]
  go_simp
  go_wp2_with fail
  refine (logForce_any lg far lsn _ hL0).mono ?_
  rintro e w1 ⟨rfl, hL1, hk1⟩
  have hE1 := hE0.keepB hk1 (by intro hm; have := HL.out.lt; simp at hm; omega)
  have gE1 := str1 hE1
  have gfE := fun j => hE1.frozen j
  have HE1 := Lib.hid hE1
  have HL1 := Lib.hid hL1
  have HK1 := Lib.hid hk1
  clear hE0 hL0 hE1 hL1 hk1
  go_wp2_with fail
  have hgF := grown_set (grown_refl w1 w.heap.size) 0 (.int .i64 0)
  have hEF := HE1.out.set 0 (.int .i64 0)
  obtain ⟨WF, hWF⟩ : ∃ WF, w1.setCell ⟨w.heap.size, 0, none⟩ (.int .i64 0) = WF := ⟨_, rfl⟩
  rw [hWF] at hgF hEF ⊢
  have gF := str1 (show Str WF w.heap.size #[.int .i64 0] by simpa using hEF)
  refine leaves_cons (f := 57) (args := #[.pointer (some ⟨w.heap.size, 0, none⟩)]) (by simp) (by simp [go_sem]) ?_
  refine (catch_idle ⟨w.heap.size, 0, none⟩ _).mono ?_
  rintro e u' w'' ⟨rfl, rfl, rfl⟩
  have hba : Below w.heap.size w (w.alloc (.cells #[.int .i64 0] 25)) := balloc (bsame w) _
  have hkA := HK1.out
  rw [show (w.alloc (.cells #[.int .i64 0] 25)).heap.size = w.heap.size + 1 by simp] at hkA
  have hkF : Reg.KeepB w.heap.size [lg] w w'' := ((Reg.KeepB.of hba).trans (hkA.less (Nat.le_succ _)) (Nat.le_refl _)).grown hgF (by have := hkA.size; have := hba.size; simp at *; omega) (.inl (Nat.le_refl _))
  have hLF : Str w'' lg #[.int .i64 (PoolP.force far lsn)] := HL1.out.grownO hgF (by intro e; injection e with e; have := HL.out.lt; omega)
  refine ⟨.int .i64 0, ?_, rfl, hLF, hkF⟩
  simp [Leaves, settle, results, Try.results44, go_sem, gF]
end PoolW
end Go.Proofs.Ytcfieofcnpalgaa
end
section
namespace Go.Proofs.Ytcfieofcnpalgaa.Same
open Go.RowKit

theorem str_beq (l l' : List UInt8) : ((strOf l).toList == (strOf l').toList) = (l == l') := by
  rw [Lib.toList_data, Lib.toList_data, strOf_data, strOf_data]

set_option maxHeartbeats 400000 in
theorem equal_any (A A' : Option Addr) (n c n' c' B B' : Nat) (l l' : List UInt8) (w : World) (h : Bytes w B A n c l) (h' : Bytes w B' A' n' c' l') :
    Calls Try.prog 89 #[.slice A n c, .slice A' n' c'] w fun e w' => e = .returned (.bool (l == l')) ∧ w = w' := by
  have h1 := run_str (P := Try.prog) 57 9 5 Try.underlying57 Try.underlying5 Try.underlying9 h
  have h2 := run_str (P := Try.prog) 57 9 5 Try.underlying57 Try.underlying5 Try.underlying9 h'
  clear h h'
  have HS := Lib.hid (str_beq l l')
  go_enter Try.func89, Try.ntmps89
  go_wp2
  go_ret
  rw [← HS.out]
  exact ⟨rfl, rfl⟩
end Go.Proofs.Ytcfieofcnpalgaa.Same
end
