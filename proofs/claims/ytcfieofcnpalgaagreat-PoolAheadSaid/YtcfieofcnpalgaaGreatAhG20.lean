/-
  Parts of the proof of PoolAhead.
-/
import Derived.Test.YtcfieofcnpalgaaGreatAhG19
import Derived.WalkMore
section
namespace Go.Proofs.YtcfieofcnpalgaaGreat
open Go.RowKit
set_option linter.unusedVariables false
set_option linter.unusedSimpArgs false
namespace PoolW
/-- a pool in memory, with its device and its log -/
def Pool (w : World) (p d lg : Nat) (bs : List Nat) (S : PoolX) : Prop := ∃ A m c L db, In w p d lg S.n A m c L S.fs ∧ DevW.Dev w d db S.D ∧ Str w lg #[.int .i64 S.far] ∧ (blocks p lg A L db).Nodup ∧ bs = blocks p lg A L db
def Told (w : World) (p d lg : Nat) (bs : List Nat) (S : PoolX) (r : Value) (e : Ending) (w' : World) : Prop :=
  e = .returned r ∧ ∃ bs', Pool w' p d lg bs' S ∧ (∀ b ∈ bs', b ∈ bs ∨ w.heap.size ≤ b) ∧ Reg.KeepB w.heap.size bs w w'
section
variable {w w' : World} {p d lg : Nat} {bs : List Nat} {S : PoolX}
theorem Pool.lt (h : Pool w p d lg bs S) : ∀ b ∈ bs, b < w.heap.size := by
  obtain ⟨A, m, c, L, db, h1, h2, h3, h4, rfl⟩ := h
  intro b hb
  unfold blocks at hb
  simp only [List.mem_cons, List.mem_append] at hb
  rcases hb with rfl | rfl | hb | hb | hb
  · exact h1.box.lt
  · exact h3.lt
  · exact row_lt h1.row b hb
  · exact h1.frs.lt b hb
  · exact h2.lt b hb
theorem Pool.at_ (h : Pool w p d lg bs S) (hb : ∀ b ∈ bs, w'.heap[b]? = w.heap[b]?) : Pool w' p d lg bs S := by
  obtain ⟨A, m, c, L, db, h1, h2, h3, h4, rfl⟩ := h
  refine ⟨A, m, c, L, db, h1.at_ fun b hm => hb b ?_, h2.at_ fun b hm => hb b ?_, ?_, h4, rfl⟩
  · unfold blocks
    simp only [List.mem_cons, List.mem_append] at hm ⊢
    rcases hm with h | h | h
    · exact .inl h
    · exact .inr (.inr (.inl h))
    · exact .inr (.inr (.inr (.inl h)))
  · unfold blocks
    simp only [List.mem_cons, List.mem_append]
    exact .inr (.inr (.inr (.inr hm)))
  · obtain ⟨t, ht⟩ := h3
    exact ⟨t, (hb lg (by unfold blocks; simp)).trans ht⟩
theorem Pool.next (h : Pool w p d lg bs S) (hb : Below w.heap.size w w') : Pool w' p d lg bs S := h.at_ fun b hm => hb.block b (h.lt b hm)
end
theorem dev_nodup {w : World} {d : Nat} {db : List Nat} {X : DevX} (h : DevW.Dev w d db X) : db.Nodup := by
  obtain ⟨sb, mb, bp, gb, A, n, c, nm, es, h, rfl⟩ := h
  exact h.nd
/-- the device's blocks are others now -/
theorem blk_dev {p lg : Nat} {A : Option Addr} {L db db' : List Nat} {k : Nat} (h : (blocks p lg A L db).Nodup) (hd : db'.Nodup) (hn : ∀ b ∈ db', b ∈ db ∨ k ≤ b) (hk : ∀ b ∈ blocks p lg A L db, b < k) : (blocks p lg A L db').Nodup := by
  have h1 : ∀ b ∈ p :: lg :: ((A.map (·.block)).toList ++ L), b ∉ db' := fun b hb hm => by
    have hb2 : b ∈ blocks p lg A L db := by
      unfold blocks
      simp only [List.mem_cons, List.mem_append] at hb ⊢
      rcases hb with h | h | h | h
      · exact .inl h
      · exact .inr (.inl h)
      · exact .inr (.inr (.inl h))
      · exact .inr (.inr (.inr (.inl h)))
    rcases hn b hm with h2 | h2
    · have e : blocks p lg A L db = (p :: lg :: ((A.map (·.block)).toList ++ L)) ++ db := by unfold blocks; simp
      rw [e] at h
      exact (List.nodup_append.1 h).2.2 b hb b h2 rfl
    · have := hk b hb2; omega
  have e : ∀ x, blocks p lg A L x = (p :: lg :: ((A.map (·.block)).toList ++ L)) ++ x := fun x => by unfold blocks; simp
  rw [e] at h ⊢
  exact List.nodup_append.2 ⟨(List.nodup_append.1 h).1, hd, fun a ha b hb e => h1 a ha (e ▸ hb)⟩
theorem blk_sub {p lg : Nat} {A : Option Addr} {L L' db : List Nat} (h : (blocks p lg A L db).Nodup) (hs : List.Sublist L' L) : (blocks p lg A L' db).Nodup := by
  refine List.Nodup.sublist ?_ h
  unfold blocks
  exact ((hs.append (List.Sublist.refl db)).append_left _).cons_cons _ |>.cons_cons _
set_option maxRecDepth 100000 in
set_option maxHeartbeats 4000000 in
theorem free_room (p d lg : Nat) (bs : List Nat) (S : PoolX) (w : World) (h : Pool w p d lg bs S) (hr : (S.fs.length : Int) < S.n) :
    Calls Tryz.prog 34 #[.pointer (some ⟨p, 0, none⟩)] w (Told w p d lg bs S (.int .i64 0)) := by
  have HP := Lib.hid h
  obtain ⟨A, m, c, L, db, h1, -⟩ := h
  obtain ⟨D, far, n, F⟩ := S
  dsimp only at *
  have hlen := h1.row.len
  have hlF := h1.frs.len
  have hm := h1.m100
  have g0 := str4 (show Str w p #[.pointer (some ⟨d, 0, none⟩), .iface 32 (.pointer (some ⟨lg, 0, none⟩)), .int .i64 n, .slice A m c] from h1.box)
  have HI := Lib.hid h1
  have hl0 := h1.box.lt
  have hd : decide ((m : Int) < n) = true := by simp; omega
  clear h1
  go_enter Tryz.func34, Tryz.ntmps34
  go_wp2_with fail
  go_step3
  go_wp2_with fail
  refine Reg.wp_region_vals (R := ext) (W := w) [Reg.eqv (.pointer (some ⟨p, 0, none⟩)), Reg.eqv (.pointer (some ⟨p, 0, none⟩)), Reg.eqv (.pointer (some ⟨p, 3, none⟩)), Reg.eqv (.slice A m c), Reg.eqv (.int .i64 (m : Int)), Reg.eqv (.pointer (some ⟨p, 0, none⟩)), Reg.eqv (.pointer (some ⟨p, 0, none⟩)), Reg.eqv (.pointer (some ⟨p, 2, none⟩)), Reg.eqv (.int .i64 n), Reg.eqv (.bool true)] 55 [[(0, none)], [(7, some 0)], [(8, some 1)], [(9, some 2)], [(10, some 3)], [(0, none)], [(12, some 5)], [(13, some 6)], [(14, some 7)], [(11, some 4), (15, some 8)]] rfl (by kernel_rfl) (by kernel_rfl) (by kernel_rfl) ?_ [some 7, some 8, some 9, some 10, some 11, some 12, some 13, some 14, some 15, some 16] (by kernel_rfl) ?_
  · refine ⟨?_, ?_, ?_, ?_, ?_, ?_, ?_, ?_, ?_, ?_, trivial⟩
    · intro ax wx hx hs
      obtain ⟨e0, -⟩ := hs
      have g0 := Reg.ev (v := .pointer (some ⟨p, 0, none⟩)) e0
      exact Reg.obl_free rfl (Reg.wp_eqv (Option.some_ne_none _) (by go_simp) rfl)
    · intro ax wx hx hs
      obtain ⟨e7, -⟩ := hs
      have g7 := Reg.ev (v := .pointer (some ⟨p, 0, none⟩)) e7
      exact Reg.obl_free rfl (Reg.wp_eqv (Option.some_ne_none _) (by go_simp) rfl)
    · intro ax wx hx hs
      obtain ⟨e8, -⟩ := hs
      have g8 := Reg.ev (v := .pointer (some ⟨p, 0, none⟩)) e8
      exact Reg.obl_free rfl (Reg.wp_eqv (Option.some_ne_none _) (by go_simp) rfl)
    · intro ax wx hx hs
      obtain ⟨e9, -⟩ := hs
      have g9 := Reg.ev (v := .pointer (some ⟨p, 3, none⟩)) e9
      have q0 := str4 (show Str wx p #[.pointer (some ⟨d, 0, none⟩), .iface 32 (.pointer (some ⟨lg, 0, none⟩)), .int .i64 n, .slice A m c] from HI.out.box.next hx)
      exact Reg.obl_free rfl (Reg.wp_eqv (Option.some_ne_none _) (by go_simp) rfl)
    · intro ax wx hx hs
      obtain ⟨e10, -⟩ := hs
      have g10 := Reg.ev (v := .slice A m c) e10
      exact Reg.obl_free rfl (Reg.wp_eqv (Option.some_ne_none _) (by go_simp) rfl)
    · intro ax wx hx hs
      obtain ⟨e0, -⟩ := hs
      have g0 := Reg.ev (v := .pointer (some ⟨p, 0, none⟩)) e0
      exact Reg.obl_free rfl (Reg.wp_eqv (Option.some_ne_none _) (by go_simp) rfl)
    · intro ax wx hx hs
      obtain ⟨e12, -⟩ := hs
      have g12 := Reg.ev (v := .pointer (some ⟨p, 0, none⟩)) e12
      exact Reg.obl_free rfl (Reg.wp_eqv (Option.some_ne_none _) (by go_simp) rfl)
    · intro ax wx hx hs
      obtain ⟨e13, -⟩ := hs
      have g13 := Reg.ev (v := .pointer (some ⟨p, 0, none⟩)) e13
      exact Reg.obl_free rfl (Reg.wp_eqv (Option.some_ne_none _) (by go_simp) rfl)
    · intro ax wx hx hs
      obtain ⟨e14, -⟩ := hs
      have g14 := Reg.ev (v := .pointer (some ⟨p, 2, none⟩)) e14
      have q0 := str4 (show Str wx p #[.pointer (some ⟨d, 0, none⟩), .iface 32 (.pointer (some ⟨lg, 0, none⟩)), .int .i64 n, .slice A m c] from HI.out.box.next hx)
      exact Reg.obl_free rfl (Reg.wp_eqv (Option.some_ne_none _) (by go_simp) rfl)
    · intro ax wx hx hs
      obtain ⟨e11, e15, -⟩ := hs
      have g11 := Reg.ev (v := .int .i64 (m : Int)) e11
      have g15 := Reg.ev (v := .int .i64 n) e15
      exact Reg.obl_free rfl (Reg.wp_eqv (Option.some_ne_none _) (by go_simp) rfl)
  · intro W1 hwf
    simp only [Reg.Fin]
    rintro _ rfl _ rfl _ rfl _ rfl _ rfl _ rfl _ rfl _ rfl _ rfl _ rfl
    go_simp
    have hwf' : Below w.heap.size w W1 := hwf
    go_wp2
    first | rw [Exit.noGoto_ret] | skip
    go_ret
    exact ⟨rfl, bs, HP.out.next hwf', fun b hb => .inl hb, Reg.KeepB.of hwf'⟩
theorem free_is {s : PoolX} (h : ¬ (s.fs.length : Int) < s.n) : PoolP.free s = match PoolP.victim s.fs with
  | none => (s, 9)
  | some i => match s.fs[i]? with
    | none => (s, 9)
    | some f => if f.dirty then (if (PoolP.write s f).2 = 0 then ({ (PoolP.write s f).1 with fs := s.fs.eraseIdx i }, 0) else PoolP.write s f) else ({ s with fs := s.fs.eraseIdx i }, 0) := by
  unfold PoolP.free
  rw [if_neg h]
  cases PoolP.victim s.fs with
  | none => rfl
  | some i =>
    dsimp only
    cases s.fs[i]? with
    | none => rfl
    | some f =>
      dsimp only
      unfold PoolP.writeAt
      by_cases he : (PoolP.write s f).2 = 0
      · simp [he]
      · simp [he]
theorem victim_at {F : List Fr} {k : Nat} {f : Fr} (hf : F[k]? = some f) (hp : ¬ 0 < f.pins) (hn : ∀ (j : Nat) g, j < k → F[j]? = some g → 0 < g.pins) : PoolP.victim F = some k := by
  unfold PoolP.victim
  rw [List.findIdx?_eq_some_iff_getElem]
  obtain ⟨h1, h2⟩ := List.getElem?_eq_some_iff.1 hf
  exact ⟨h1, by rw [h2]; simpa using hp, fun j hj => by
    have := hn j _ hj (List.getElem?_eq_getElem (by omega))
    simpa using this⟩
theorem victim_none {F : List Fr} (hn : ∀ (j : Nat) g, F[j]? = some g → 0 < g.pins) : PoolP.victim F = none := by
  unfold PoolP.victim
  rw [List.findIdx?_eq_none_iff]
  intro f hf
  obtain ⟨j, hj⟩ := List.getElem?_of_mem hf
  have := hn j f hj
  simpa using this
/-- a frame goes: behind DeleteFunc and the store -/
theorem In.gone {w W W5 : World} {p d lg m c i g : Nat} {n : Int} {A : Option Addr} {L : List Nat} {F : List Fr} {a : Addr} (h : In w p d lg n A m c L F) (hA : A = some a) (hi : L[i]? = some g) (hg : w.grownBy W (some a.block)) (hO : OwnE PtrE 73 W 0 A (m - 1) c (L.eraseIdx i)) (e : W.setCell ⟨p, 3, none⟩ (.slice A (m - 1) c) = W5) :
    In W5 p d lg n A (m - 1) c (L.eraseIdx i) (F.eraseIdx i) ∧ W.grownBy W5 (some p) := by
  have hnd := h.nd
  obtain ⟨h1, h2⟩ := List.nodup_cons.1 hnd
  have hpa : p ≠ a.block := fun e => h1 (by rw [hA, e]; simp)
  have hgp : W.grownBy W5 (some p) := by rw [← e]; exact grown_set (grown_refl W p) 3 _
  have hm := h.m100
  refine ⟨⟨?_, hO.grownP ptrE_pure hgp (fun a' e' h' => ?_), (h.frs.erase i).at_ (fun b hb => ?_), ?_, by omega⟩, hgp⟩
  · have := (h.box.grownO hg (by intro e; injection e with e; exact hpa e.symm)).set 3 (.slice A (m - 1) c)
    rw [← e]
    simpa [poolC] using this
  · rw [hA] at e'; cases e'; injection h' with h'; exact hpa h'
  · have hbL : b ∈ L := List.mem_of_mem_eraseIdx hb
    have hbw := h.frs.lt b hbL
    have h3 := List.nodup_append.1 h2
    exact (hgp.block b (by have := hg.size; omega) (by intro e; injection e with e; exact h1 (by rw [← e]; simp [hbL]))).trans (hg.block b hbw (by intro e; injection e with e; exact h3.2.2 a.block (by rw [hA]; simp) b hbL e.symm))
  · refine List.Nodup.sublist ?_ hnd
    exact ((List.eraseIdx_sublist L i).append_left _).cons_cons _
set_option maxRecDepth 100000 in
set_option maxHeartbeats 4000000 in
theorem free_full (p d lg : Nat) (bs : List Nat) (S : PoolX) (w : World) (h : Pool w p d lg bs S) (hr : ¬ (S.fs.length : Int) < S.n) (hs : DevP.Small S.D) :
    Calls Tryz.prog 34 #[.pointer (some ⟨p, 0, none⟩)] w (Told w p d lg bs (PoolP.free S).1 (.int .i64 (PoolP.free S).2)) := by
  have hfr := free_is hr
  have hbl := h.lt
  obtain ⟨A, m, c, L, db, h1, h2, h3, h4, rfl⟩ := h
  obtain ⟨D, far, n, F⟩ := S
  dsimp only at *
  have hlen := h1.row.len
  have hlF := h1.frs.len
  have hm := h1.m100
  have g0 := str4 (show Str w p #[.pointer (some ⟨d, 0, none⟩), .iface 32 (.pointer (some ⟨lg, 0, none⟩)), .int .i64 n, .slice A m c] from h1.box)
  have hl0 := h1.box.lt
  have hd : decide ((m : Int) < n) = false := by simp; omega
  have HFR := Lib.hid hfr
  have HBL := Lib.hid hbl
  have HI := Lib.hid h1
  have HD := Lib.hid h2
  have HL := Lib.hid h3
  have HN := Lib.hid h4
  have HS := Lib.hid hs
  clear h1 h2 h3 h4 hfr hbl hs hr
  go_enter Tryz.func34, Tryz.ntmps34
  go_wp2_with fail
  go_step3
  go_wp2_with fail
  refine Reg.wp_region_vals (R := ext) (W := w) [Reg.eqv (.pointer (some ⟨p, 0, none⟩)), Reg.eqv (.pointer (some ⟨p, 0, none⟩)), Reg.eqv (.pointer (some ⟨p, 3, none⟩)), Reg.eqv (.slice A m c), Reg.eqv (.int .i64 (m : Int)), Reg.eqv (.pointer (some ⟨p, 0, none⟩)), Reg.eqv (.pointer (some ⟨p, 0, none⟩)), Reg.eqv (.pointer (some ⟨p, 2, none⟩)), Reg.eqv (.int .i64 n), Reg.eqv (.bool false)] 55 [[(0, none)], [(7, some 0)], [(8, some 1)], [(9, some 2)], [(10, some 3)], [(0, none)], [(12, some 5)], [(13, some 6)], [(14, some 7)], [(11, some 4), (15, some 8)]] rfl (by kernel_rfl) (by kernel_rfl) (by kernel_rfl) ?_ [some 7, some 8, some 9, some 10, some 11, some 12, some 13, some 14, some 15, some 16] (by kernel_rfl) ?_
  · refine ⟨?_, ?_, ?_, ?_, ?_, ?_, ?_, ?_, ?_, ?_, trivial⟩
    · intro ax wx hx hs
      obtain ⟨e0, -⟩ := hs
      have g0 := Reg.ev (v := .pointer (some ⟨p, 0, none⟩)) e0
      exact Reg.obl_free rfl (Reg.wp_eqv (Option.some_ne_none _) (by go_simp) rfl)
    · intro ax wx hx hs
      obtain ⟨e7, -⟩ := hs
      have g7 := Reg.ev (v := .pointer (some ⟨p, 0, none⟩)) e7
      exact Reg.obl_free rfl (Reg.wp_eqv (Option.some_ne_none _) (by go_simp) rfl)
    · intro ax wx hx hs
      obtain ⟨e8, -⟩ := hs
      have g8 := Reg.ev (v := .pointer (some ⟨p, 0, none⟩)) e8
      exact Reg.obl_free rfl (Reg.wp_eqv (Option.some_ne_none _) (by go_simp) rfl)
    · intro ax wx hx hs
      obtain ⟨e9, -⟩ := hs
      have g9 := Reg.ev (v := .pointer (some ⟨p, 3, none⟩)) e9
      have q0 := str4 (show Str wx p #[.pointer (some ⟨d, 0, none⟩), .iface 32 (.pointer (some ⟨lg, 0, none⟩)), .int .i64 n, .slice A m c] from HI.out.box.next hx)
      exact Reg.obl_free rfl (Reg.wp_eqv (Option.some_ne_none _) (by go_simp) rfl)
    · intro ax wx hx hs
      obtain ⟨e10, -⟩ := hs
      have g10 := Reg.ev (v := .slice A m c) e10
      exact Reg.obl_free rfl (Reg.wp_eqv (Option.some_ne_none _) (by go_simp) rfl)
    · intro ax wx hx hs
      obtain ⟨e0, -⟩ := hs
      have g0 := Reg.ev (v := .pointer (some ⟨p, 0, none⟩)) e0
      exact Reg.obl_free rfl (Reg.wp_eqv (Option.some_ne_none _) (by go_simp) rfl)
    · intro ax wx hx hs
      obtain ⟨e12, -⟩ := hs
      have g12 := Reg.ev (v := .pointer (some ⟨p, 0, none⟩)) e12
      exact Reg.obl_free rfl (Reg.wp_eqv (Option.some_ne_none _) (by go_simp) rfl)
    · intro ax wx hx hs
      obtain ⟨e13, -⟩ := hs
      have g13 := Reg.ev (v := .pointer (some ⟨p, 0, none⟩)) e13
      exact Reg.obl_free rfl (Reg.wp_eqv (Option.some_ne_none _) (by go_simp) rfl)
    · intro ax wx hx hs
      obtain ⟨e14, -⟩ := hs
      have g14 := Reg.ev (v := .pointer (some ⟨p, 2, none⟩)) e14
      have q0 := str4 (show Str wx p #[.pointer (some ⟨d, 0, none⟩), .iface 32 (.pointer (some ⟨lg, 0, none⟩)), .int .i64 n, .slice A m c] from HI.out.box.next hx)
      exact Reg.obl_free rfl (Reg.wp_eqv (Option.some_ne_none _) (by go_simp) rfl)
    · intro ax wx hx hs
      obtain ⟨e11, e15, -⟩ := hs
      have g11 := Reg.ev (v := .int .i64 (m : Int)) e11
      have g15 := Reg.ev (v := .int .i64 n) e15
      exact Reg.obl_free rfl (Reg.wp_eqv (Option.some_ne_none _) (by go_simp) rfl)
  · intro W1 hwf
    simp only [Reg.Fin]
    rintro _ rfl _ rfl _ rfl _ rfl _ rfl _ rfl _ rfl _ rfl _ rfl _ rfl
    go_simp
    have hwf' : Below w.heap.size w W1 := hwf
    obtain ⟨V, hV⟩ : ∃ V, W1.alloc (.cells #[.pointer none] 73) = V := ⟨_, rfl⟩
    have hbV : Below w.heap.size w V := bstep hwf' (by rw [← hV]; exact balloc (bsame W1) _)
    have hB3 : Str V W1.heap.size #[.pointer none] := by rw [← hV]; exact Str.new _ _ _
    have hw1 := hwf'.size
    have HBV := Lib.hid hbV
    have HB3 := Lib.hid hB3
    have HIV := Lib.hid (HI.out.next hbV)
    have HDV := Lib.hid (HD.out.below hbV)
    have HLV := Lib.hid (HL.out.next hbV)
    have gB := str1 hB3
    have gfB := fun j => hB3.frozen j
    have hlB := hB3.lt
    have gP := str4 (show Str V p #[.pointer (some ⟨d, 0, none⟩), .iface 32 (.pointer (some ⟨lg, 0, none⟩)), .int .i64 n, .slice A m c] from HIV.out.box)
    have hlP := HIV.out.box.lt
    clear hwf hwf' hbV hB3 g0
    go_wp2_with fail
    go_step3
    clear hV
    go_wp2
    go_loopw [22] (fun iv wr => ∃ k : Nat, k ≤ m ∧ iv = .int .i64 (k : Int) ∧ wr = V ∧ Hid (∀ (j : Nat) f, j < k → F[j]? = some f → 0 < f.pins)) (fun iv _ => m - (intOf iv).toNat)
    case atStart => exact ⟨0, Nat.zero_le _, rfl, rfl, Lib.hid (fun j f hj => absurd hj (by omega))⟩
    case round =>
      obtain ⟨k, hk, rfl, rfl, HP⟩ := hrel
      by_cases hlt : k < m
      · have hd2 : decide ((k : Int) < (m : Int)) = true := by simp; omega
        obtain ⟨b, o, g, rfl, hb, hg, q0⟩ := ptr_at HIV.out.row.elems hlt
        obtain ⟨f, hf⟩ : ∃ f, F[k]? = some f := ⟨_, List.getElem?_eq_getElem (by omega)⟩
        have hsg := HIV.out.frs.str k g f hg hf
        have hok := HIV.out.frs.ok f (List.mem_of_getElem? hf)
        obtain ⟨q1, q2, q3⟩ := fr_cells hsg hok.x
        have HF := Lib.hid (And.intro hf hg)
        have HSG := Lib.hid hsg
        have HX := Lib.hid hok.x
        have hlg := hsg.lt
        clear hf hg hsg hok
        by_cases hpn : 0 < f.pins
        · have hdp : decide (0 < f.pins) = true := by simpa using hpn
          have HP2 : Hid (∀ (j : Nat) f, j < k + 1 → F[j]? = some f → 0 < f.pins) := Lib.hid fun j f' hj hf' => by
            by_cases e : j = k
            · subst e; rw [HF.out.1] at hf'; cases hf'; exact hpn
            · exact HP.out j f' (by omega) hf'
          clear hpn
          go_wp2
          go_roundw
          case rel => exact ⟨k + 1, by omega, by go_num, by trivial, HP2⟩
          case measure => simp [intOf]; omega
        · have hdp : decide (0 < f.pins) = false := by simpa using hpn
          have HVI := Lib.hid (victim_at HF.out.1 hpn HP.out)
          clear hpn
          have hbW : W1.heap.size < wr.heap.size := hlB
          have hof : ∀ q ∈ blocks p lg (some ⟨b, o, none⟩) L db, q ≠ W1.heap.size := fun q hq => by have := HBL.out q hq; omega
          have hg2 := grown_set (grown_refl wr W1.heap.size) 0 (.pointer (some ⟨g, 0, none⟩))
          have hB2 := HB3.out.set 0 (.pointer (some ⟨g, 0, none⟩))
          obtain ⟨W2, hW2⟩ : ∃ W2, wr.setCell ⟨W1.heap.size, 0, none⟩ (.pointer (some ⟨g, 0, none⟩)) = W2 := ⟨_, rfl⟩
          rw [hW2] at hg2 hB2
          have HB2 : Hid (Str W2 W1.heap.size #[.pointer (some ⟨g, 0, none⟩)]) := Lib.hid (by simpa using hB2)
          have HOF := Lib.hid hof
          have HI2 : Hid (In W2 p d lg n (some ⟨b, o, none⟩) m c L F) := Lib.hid (HIV.out.at_ fun q hq => hg2.block q (HIV.out.lt q hq) (fun e => HOF.out q (by unfold blocks; simp only [List.mem_cons, List.mem_append] at hq ⊢; rcases hq with h | h | h; exact .inl h; exact .inr (.inr (.inl h)); exact .inr (.inr (.inr (.inl h)))) (by injection e)))
          have HD2 : Hid (DevW.Dev W2 d db D) := Lib.hid (HDV.out.at_ fun q hq => hg2.block q (HDV.out.lt q hq) (fun e => HOF.out q (by unfold blocks; simp only [List.mem_cons, List.mem_append]; exact .inr (.inr (.inr (.inr hq)))) (by injection e)))
          have HL2 : Hid (Str W2 lg #[.int .i64 far]) := Lib.hid (HLV.out.grownO hg2 (fun e => HOF.out lg (by unfold blocks; simp) (by injection e with e; exact e.symm)))
          have HK2 : Hid (Below w.heap.size w W2) := Lib.hid (HBV.out.grown hg2 HBV.out.size (fun q e => by injection e with e; omega))
          have hG2 := HI2.out.frs.str k g f HF.out.2 HF.out.1
          have HG2 := Lib.hid hG2
          obtain ⟨r1, r2, r3⟩ := fr_cells hG2 HX.out
          have gB2 := str1 HB2.out
          have hlB2 := HB2.out.lt
          have gP2 := str4 (show Str W2 p #[.pointer (some ⟨d, 0, none⟩), .iface 32 (.pointer (some ⟨lg, 0, none⟩)), .int .i64 n, .slice (some ⟨b, o, none⟩) m c] from HI2.out.box)
          have hlP2 := HI2.out.box.lt
          have hlg2 := hG2.lt
          clear hg2 hB2 hof hG2
          have hnd := HI2.out.nd
          have hLd : L.Nodup := (List.nodup_append.1 (List.nodup_cons.1 hnd).2).2.1
          have HLD := Lib.hid hLd
          have hrow : ∀ a, (some ⟨b, o, none⟩ : Option Addr) = some a → a.block ≠ W1.heap.size ∧ a.block ∉ L := fun a e => by
            cases e
            exact ⟨HOF.out b (by unfold blocks; simp), fun hm => (List.nodup_append.1 (List.nodup_cons.1 hnd).2).2.2 b (by simp) b hm rfl⟩
          have HROW := Lib.hid hrow
          clear hnd hLd hrow
          cases hdt : f.dirty with
          | false =>
            have hres : PoolP.free ⟨D, far, n, F⟩ = (⟨D, far, n, F.eraseIdx k⟩, 0) := by rw [HFR.out, HVI.out]; simp only [HF.out.1, hdt, Bool.false_eq_true, if_false]
            have HRES := Lib.hid hres
            clear hres
            rw [hdt] at q2 r2
            go_wp2_with fail
            refine (deleteF_any m c g W1.heap.size k (some ⟨b, o, none⟩) L W2 HI2.out.row hm HB2.out HG2.out (fun x hx => ?fs) HF.out.2 HLD.out HROW.out).mono ?_
            case fs =>
              obtain ⟨q, hq⟩ := List.getElem?_of_mem hx
              obtain ⟨fq, hfq⟩ : ∃ fq, (F)[q]? = some fq := ⟨_, List.getElem?_eq_getElem (by rw [← HI2.out.frs.len]; exact (List.getElem?_eq_some_iff.1 hq).1)⟩
              exact ⟨_, HI2.out.frs.str q x fq hq hfq⟩
            rintro e W4 ⟨rfl, hO4, a, ea, hg4⟩
            cases ea
            have hP4 : Str W4 p #[.pointer (some ⟨d, 0, none⟩), .iface 32 (.pointer (some ⟨lg, 0, none⟩)), .int .i64 n, .slice (some ⟨b, o, none⟩) m c] := HI2.out.box.grownO hg4 (by intro e; injection e with e; have e' : b = p := e; exact (List.nodup_cons.1 HI2.out.nd).1 (by rw [← e']; simp))
            have gP4 := str4 hP4
            have gfP4 := fun j => hP4.frozen j
            have hlP4 := hP4.lt
            obtain ⟨W5, hW5⟩ : ∃ W5, W4.setCell ⟨p, 3, none⟩ (.slice (some ⟨b, o, none⟩) (m - 1) c) = W5 := ⟨_, rfl⟩
            obtain ⟨hI5, hg5⟩ := HI2.out.gone rfl HF.out.2 hg4 hO4 hW5
            have hoffb : ∀ q ∈ lg :: db, q ≠ b ∧ q ≠ p := fun q hq => by
              have h1 := (blk_log HN.out)
              have h2 := blk_pool HN.out
              simp only [List.mem_cons] at hq
              rcases hq with rfl | hq
              · exact ⟨h1.2 b (by simp), h1.2 p (by simp)⟩
              · exact ⟨fun e => (h2 b (by simp)).2 (e ▸ hq), fun e => (h2 p (by simp)).2 (e ▸ hq)⟩
            have HI5 := Lib.hid hI5
            have HD5 := Lib.hid ((HD2.out.grown hg4 (fun hm => (hoffb b (List.mem_cons_of_mem _ hm)).1 rfl)).grown hg5 (fun hm => (hoffb p (List.mem_cons_of_mem _ hm)).2 rfl))
            have HL5 := Lib.hid ((HL2.out.grownO hg4 (by intro e; injection e with e; exact (hoffb lg (List.mem_cons_self ..)).1 e.symm)).grownO hg5 (by intro e; injection e with e; exact (hoffb lg (List.mem_cons_self ..)).2 e.symm))
            have HK5 : Hid (Reg.KeepB w.heap.size (blocks p lg (some ⟨b, o, none⟩) L db) w W5) := Lib.hid (((Reg.KeepB.of (b0 := blocks p lg (some ⟨b, o, none⟩) L db) HK2.out).grown hg4 ((Reg.KeepB.of (b0 := blocks p lg (some ⟨b, o, none⟩) L db) HK2.out)).size (.inr (by unfold blocks; simp))).grown hg5 (Nat.le_trans ((Reg.KeepB.of (b0 := blocks p lg (some ⟨b, o, none⟩) L db) HK2.out)).size hg4.size) (.inr (by unfold blocks; simp)))
            have HN5 := Lib.hid (blk_sub HN.out (List.eraseIdx_sublist L k))
            clear hO4 hg4 hP4 hI5 hg5 hoffb
            go_wp2
            first | rw [Exit.noGoto_ret] | skip
            go_ret
            rw [HRES.out]
            refine ⟨rfl, _, ⟨_, m - 1, c, L.eraseIdx k, db, ?_, HD5.out, HL5.out, HN5.out, rfl⟩, fun q hq => ?_, HK5.out⟩
            · exact HI5.out
            unfold blocks at hq ⊢
            simp only [List.mem_cons, List.mem_append] at hq ⊢
            rcases hq with h | h | h | h | h
            · exact .inl (.inl h)
            · exact .inl (.inr (.inl h))
            · exact .inl (.inr (.inr (.inl h)))
            · exact .inl (.inr (.inr (.inr (.inl (List.mem_of_mem_eraseIdx h)))))
            · exact .inl (.inr (.inr (.inr (.inr h))))
          | true =>
            rw [hdt] at q2 r2
            go_wp2_with fail
            refine (write_any p d lg m c n (some ⟨b, o, none⟩) L F db D far k g f W2 HI2.out HD2.out HL2.out HN.out HF.out.1 HF.out.2 HS.out).mono ?_
            intro e W3 hT
            obtain ⟨he, db', hI3, hD3, hL3, hN3, hK3⟩ := hT
            subst he
            have hK3' : Reg.KeepB w.heap.size (blocks p lg (some ⟨b, o, none⟩) L db) w W3 := (Reg.KeepB.of HK2.out).trans (hK3.more (fun q hq => by
              unfold blocks
              simp only [List.mem_cons, List.mem_append] at hq ⊢
              rcases hq with h | h | h
              · exact .inr (.inl h)
              · exact .inr (.inr (.inr (.inl (by rw [h]; exact List.mem_of_getElem? HF.out.2))))
              · exact .inr (.inr (.inr (.inr h))))) HK2.out.size
            have HK3 := Lib.hid hK3'
            have HD3 := Lib.hid hD3
            have HL3 := Lib.hid hL3
            have HNN3 : Hid (∀ q ∈ db', q ∈ db ∨ w.heap.size ≤ q) := Lib.hid fun q hq => (hN3 q hq).imp id (Nat.le_trans HK2.out.size)
            have HN3 := Lib.hid (blk_dev HN.out (dev_nodup hD3) HNN3.out HBL.out)
            have hB3' := HB2.out.keepB hK3 (fun hm => by
              simp only [List.mem_cons] at hm
              rcases hm with h | h | h
              · exact HOF.out lg (by unfold blocks; simp) h.symm
              · exact HOF.out g (by unfold blocks; simp only [List.mem_cons, List.mem_append]; exact .inr (.inr (.inr (.inl (List.mem_of_getElem? HF.out.2))))) h.symm
              · exact HOF.out W1.heap.size (by unfold blocks; simp only [List.mem_cons, List.mem_append]; exact .inr (.inr (.inr (.inr h)))) rfl)
            have HB3' := Lib.hid hB3'
            by_cases hez : DevP.err D (PoolP.fits D f.no) = 0
            · rw [if_pos hez] at hI3
              have hres : PoolP.free ⟨D, far, n, F⟩ = (⟨DevP.op D (PoolP.fits D f.no) (DevP.wrote D f.no.toNat (PageP.sealed f.x)), PoolP.force far (PoolP.lsn f.x), n, F.eraseIdx k⟩, 0) := by
                rw [HFR.out, HVI.out]
                simp only [HF.out.1, hdt, if_true]
                rw [if_pos (show (PoolP.write ⟨D, far, n, F⟩ f).2 = 0 from hez)]
                rfl
              have hne : (DevP.err D (PoolP.fits D f.no) != 0) = false := by simp [hez]
              have HRES := Lib.hid hres
              have HI3 := Lib.hid hI3
              have hG3 := hI3.frs.str k g { f with dirty := false } HF.out.2 (List.getElem?_set_self (by omega))
              have HG3 := Lib.hid hG3
              have gB3 := str1 hB3'
              have hlB3 := hB3'.lt
              have gP3 := str4 (show Str W3 p #[.pointer (some ⟨d, 0, none⟩), .iface 32 (.pointer (some ⟨lg, 0, none⟩)), .int .i64 n, .slice (some ⟨b, o, none⟩) m c] from hI3.box)
              have hlP3 := hI3.box.lt
              clear hK3 hK3' hD3 hL3 hN3 hB3' hI3 hres hG3 hez gB2 gP2 r1 r2 r3 q1 q2 q3 gB gfB gP
              go_wp2_with fail
              refine (deleteF_any m c g W1.heap.size k (some ⟨b, o, none⟩) L W3 HI3.out.row hm HB3'.out HG3.out (fun x hx => ?fs) HF.out.2 HLD.out HROW.out).mono ?_
              case fs =>
                obtain ⟨q, hq⟩ := List.getElem?_of_mem hx
                obtain ⟨fq, hfq⟩ : ∃ fq, (F.set k { f with dirty := false })[q]? = some fq := ⟨_, List.getElem?_eq_getElem (by rw [← HI3.out.frs.len]; exact (List.getElem?_eq_some_iff.1 hq).1)⟩
                exact ⟨_, HI3.out.frs.str q x fq hq hfq⟩
              rintro e W4 ⟨rfl, hO4, a, ea, hg4⟩
              cases ea
              have hP4 : Str W4 p #[.pointer (some ⟨d, 0, none⟩), .iface 32 (.pointer (some ⟨lg, 0, none⟩)), .int .i64 n, .slice (some ⟨b, o, none⟩) m c] := HI3.out.box.grownO hg4 (by intro e; injection e with e; have e' : b = p := e; exact (List.nodup_cons.1 HI3.out.nd).1 (by rw [← e']; simp))
              have gP4 := str4 hP4
              have gfP4 := fun j => hP4.frozen j
              have hlP4 := hP4.lt
              obtain ⟨W5, hW5⟩ : ∃ W5, W4.setCell ⟨p, 3, none⟩ (.slice (some ⟨b, o, none⟩) (m - 1) c) = W5 := ⟨_, rfl⟩
              obtain ⟨hI5, hg5⟩ := HI3.out.gone rfl HF.out.2 hg4 hO4 hW5
              have hoffb : ∀ q ∈ lg :: db', q ≠ b ∧ q ≠ p := fun q hq => by
                have h1 := (blk_log HN3.out)
                have h2 := blk_pool HN3.out
                simp only [List.mem_cons] at hq
                rcases hq with rfl | hq
                · exact ⟨h1.2 b (by simp), h1.2 p (by simp)⟩
                · exact ⟨fun e => (h2 b (by simp)).2 (e ▸ hq), fun e => (h2 p (by simp)).2 (e ▸ hq)⟩
              have HI5 := Lib.hid hI5
              have HD5 := Lib.hid ((HD3.out.grown hg4 (fun hm => (hoffb b (List.mem_cons_of_mem _ hm)).1 rfl)).grown hg5 (fun hm => (hoffb p (List.mem_cons_of_mem _ hm)).2 rfl))
              have HL5 := Lib.hid ((HL3.out.grownO hg4 (by intro e; injection e with e; exact (hoffb lg (List.mem_cons_self ..)).1 e.symm)).grownO hg5 (by intro e; injection e with e; exact (hoffb lg (List.mem_cons_self ..)).2 e.symm))
              have HK5 : Hid (Reg.KeepB w.heap.size (blocks p lg (some ⟨b, o, none⟩) L db) w W5) := Lib.hid ((HK3.out.grown hg4 (HK3.out).size (.inr (by unfold blocks; simp))).grown hg5 (Nat.le_trans (HK3.out).size hg4.size) (.inr (by unfold blocks; simp)))
              have HN5 := Lib.hid (blk_sub HN3.out (List.eraseIdx_sublist L k))
              clear hO4 hg4 hP4 hI5 hg5 hoffb
              go_wp2
              first | rw [Exit.noGoto_ret] | skip
              go_ret
              rw [HRES.out]
              refine ⟨rfl, _, ⟨_, m - 1, c, L.eraseIdx k, db', ?_, HD5.out, HL5.out, HN5.out, rfl⟩, fun q hq => ?_, HK5.out⟩
              · have h := HI5.out; rwa [List.eraseIdx_set_eq] at h
              unfold blocks at hq ⊢
              simp only [List.mem_cons, List.mem_append] at hq ⊢
              rcases hq with h | h | h | h | h
              · exact .inl (.inl h)
              · exact .inl (.inr (.inl h))
              · exact .inl (.inr (.inr (.inl h)))
              · exact .inl (.inr (.inr (.inr (.inl (List.mem_of_mem_eraseIdx h)))))
              · exact (HNN3.out q h).imp (fun h => .inr (.inr (.inr (.inr h)))) id
            · rw [if_neg hez] at hI3
              have hres : PoolP.free ⟨D, far, n, F⟩ = (⟨DevP.op D (PoolP.fits D f.no) (DevP.wrote D f.no.toNat (PageP.sealed f.x)), PoolP.force far (PoolP.lsn f.x), n, F⟩, DevP.err D (PoolP.fits D f.no)) := by
                rw [HFR.out, HVI.out]
                simp only [HF.out.1, hdt, if_true]
                rw [if_neg (show ¬ (PoolP.write ⟨D, far, n, F⟩ f).2 = 0 from hez)]
                rfl
              have hne : (DevP.err D (PoolP.fits D f.no) != 0) = true := by simpa using hez
              have HRES := Lib.hid hres
              have HI3 := Lib.hid hI3
              clear hK3 hK3' hD3 hL3 hN3 hB3' hI3 hres hez gB2 gP2 r1 r2 r3 q1 q2 q3 gB gfB gP
              go_wp2
              first | rw [Exit.noGoto_ret] | skip
              go_ret
              rw [HRES.out]
              refine ⟨rfl, _, ⟨_, m, c, L, db', HI3.out, HD3.out, HL3.out, HN3.out, rfl⟩, fun q hq => ?_, HK3.out⟩
              unfold blocks at hq ⊢
              simp only [List.mem_cons, List.mem_append] at hq ⊢
              rcases hq with h | h | h | h | h
              · exact .inl (.inl h)
              · exact .inl (.inr (.inl h))
              · exact .inl (.inr (.inr (.inl h)))
              · exact .inl (.inr (.inr (.inr (.inl h))))
              · exact (HNN3.out q h).imp (fun h => .inr (.inr (.inr (.inr h)))) id
      · have hd2 : decide ((k : Int) < (m : Int)) = false := by simp; omega
        have hv := victim_none (F := F) (fun j f hf => HP.out j f (by have := (List.getElem?_eq_some_iff.1 hf).1; omega) hf)
        have hres : PoolP.free ⟨D, far, n, F⟩ = (⟨D, far, n, F⟩, 9) := by rw [HFR.out, hv]
        have HRES := Lib.hid hres
        clear hv hres
        go_wp2
        first | rw [Exit.noGoto_ret] | skip
        go_ret
        rw [HRES.out]
        exact ⟨rfl, _, ⟨A, m, c, L, db, HIV.out, HDV.out, HLV.out, HN.out, rfl⟩, fun q hq => .inl hq, Reg.KeepB.of HBV.out⟩
theorem free_any (p d lg : Nat) (bs : List Nat) (S : PoolX) (w : World) (h : Pool w p d lg bs S) (hs : DevP.Small S.D) :
    Calls Tryz.prog 34 #[.pointer (some ⟨p, 0, none⟩)] w (Told w p d lg bs (PoolP.free S).1 (.int .i64 (PoolP.free S).2)) := by
  by_cases hr : (S.fs.length : Int) < S.n
  · have e : PoolP.free S = (S, 0) := by unfold PoolP.free; rw [if_pos hr]
    rw [e]
    exact free_room p d lg bs S w h hr
  · exact free_full p d lg bs S w h hr hs
end PoolW
end Go.Proofs.YtcfieofcnpalgaaGreat
end
section
namespace Go.Proofs.YtcfieofcnpalgaaGreat
open Go.RowKit
set_option linter.unusedVariables false
set_option linter.unusedSimpArgs false
namespace PoolW
section
variable {w w' : World} {p d lg m c m' : Nat} {n far : Int} {A : Option Addr} {L L' db : List Nat} {F F' : List Fr} {X X' : DevX} {bs : List Nat} {S S' : PoolX}
theorem mem_blocks {A : Option Addr} {L db : List Nat} {b : Nat} : b ∈ blocks p lg A L db ↔ b = p ∨ b = lg ∨ b ∈ (A.map (·.block)).toList ∨ b ∈ L ∨ b ∈ db := by
  unfold blocks
  simp only [List.mem_cons, List.mem_append]
/-- what a method leaves -/
def Gone (w : World) (p d lg : Nat) (bs : List Nat) (S : PoolX) (w' : World) : Prop := ∃ bs', Pool w' p d lg bs' S ∧ (∀ b ∈ bs', b ∈ bs ∨ w.heap.size ≤ b) ∧ Reg.KeepB w.heap.size bs w w'
theorem Gone.told {r : Value} {e : Ending} (h : Gone w p d lg bs S w') (he : e = .returned r) : Told w p d lg bs S r e w' := ⟨he, h⟩
theorem Gone.same (h : Pool w p d lg bs S) (hb : Below w.heap.size w w') : Gone w p d lg bs S w' := ⟨bs, h.next hb, fun b hb => .inl hb, Reg.KeepB.of hb⟩
theorem Gone.trans {w1 : World} (h : Gone w p d lg bs S w1) (k : ∀ bs', Pool w1 p d lg bs' S → Gone w1 p d lg bs' S' w') : Gone w p d lg bs S' w' := by
  obtain ⟨b1, hP, hn, hk⟩ := h
  obtain ⟨b2, hP2, hn2, hk2⟩ := k b1 hP
  refine ⟨b2, hP2, fun b hb => ?_, ?_⟩
  · rcases hn2 b hb with h | h
    · exact hn b h
    · have := hk.size; exact .inr (by omega)
  · refine ⟨hk2.os.trans hk.os, hk2.tape.trans hk.tape, hk2.output.trans hk.output, Nat.le_trans hk.size hk2.size, fun i hi hb => ?_⟩
    have hsz := hk.size
    refine (hk2.block i (by omega) (fun hm => ?_)).trans (hk.block i hi hb)
    rcases hn i hm with h | h
    · exact hb h
    · omega
theorem Gone.below {W : World} (h : Gone W p d lg bs S w') (hb : Below w.heap.size w W) : Gone w p d lg bs S w' := by
  obtain ⟨b1, hP, hn, hk⟩ := h
  have := hb.size
  exact ⟨b1, hP, fun b hm => (hn b hm).imp id (by omega), (Reg.KeepB.of hb).trans hk hb.size⟩
theorem Gone.after {W : World} (h : Gone w p d lg bs S W) (hb : Below W.heap.size W w') : Gone w p d lg bs S w' := by
  obtain ⟨b1, hP, hn, hk⟩ := h
  exact ⟨b1, hP.next hb, hn, hk.step hb hk.size⟩
theorem Pool.grown {g : Nat} (h : Pool w p d lg bs S) (hg : w.grownBy w' (some g)) (hn : g ∉ bs) : Pool w' p d lg bs S := h.at_ fun b hb => hg.block b (h.lt b hb) (by intro e; injection e with e; exact hn (e ▸ hb))
/-- a block that is none of the pool's, and was new, turns behind it -/
theorem Gone.turn {W0 W : World} {g : Nat} (h : Gone W0 p d lg bs S W) (hg : W.grownBy w' (some g)) (hl : g < W0.heap.size) (hn : g ∉ bs) (hb : Below w.heap.size w W0) (hw : w.heap.size ≤ g) : Gone w p d lg bs S w' := by
  obtain ⟨b1, hP, hnn, hk⟩ := h
  have hsz := hb.size
  refine ⟨b1, hP.grown hg (fun hm => ?_), fun b hm => (hnn b hm).imp id (by omega), ((Reg.KeepB.of hb).trans hk hsz).grown hg (Nat.le_trans hsz hk.size) (.inl hw)⟩
  rcases hnn g hm with h | h
  · exact hn h
  · omega
theorem Pool.dev (h1 : In w p d lg n A m c L F) (h2 : DevW.Dev w d db X) (h3 : Str w lg #[.int .i64 far]) (h4 : (blocks p lg A L db).Nodup) (hT : ∃ db', DevW.Dev w' d db' X' ∧ (∀ b ∈ db', b ∈ db ∨ w.heap.size ≤ b) ∧ Reg.KeepB w.heap.size db w w') :
    Gone w p d lg (blocks p lg A L db) ⟨X', far, n, F⟩ w' := by
  obtain ⟨db', hD, hn, hk⟩ := hT
  have hlt : ∀ b ∈ blocks p lg A L db, b < w.heap.size := Pool.lt (S := ⟨X, far, n, F⟩) ⟨A, m, c, L, db, h1, h2, h3, h4, rfl⟩
  refine ⟨blocks p lg A L db', ⟨A, m, c, L, db', h1.at_ fun b hb => hk.block b (h1.lt b hb) (blk_pool h4 b hb).2, hD, h3.keepB hk (blk_log h4).1, blk_dev h4 (dev_nodup hD) hn hlt, rfl⟩, fun b hb => ?_, hk.more fun b hb => mem_blocks.2 (.inr (.inr (.inr (.inr hb))))⟩
  rcases mem_blocks.1 hb with h | h | h | h | h
  · exact .inl (mem_blocks.2 (.inl h))
  · exact .inl (mem_blocks.2 (.inr (.inl h)))
  · exact .inl (mem_blocks.2 (.inr (.inr (.inl h))))
  · exact .inl (mem_blocks.2 (.inr (.inr (.inr (.inl h)))))
  · exact (hn b h).imp (fun h => mem_blocks.2 (.inr (.inr (.inr (.inr h))))) id
/-- behind use -/
theorem Pool.used (h1 : In w p d lg n A m c L F) (h2 : DevW.Dev w d db X) (h3 : Str w lg #[.int .i64 far]) (h4 : (blocks p lg A L db).Nodup) (hU : Used w p d lg n A m' L' w') (hF : Frs w L' F') (hL : ∀ b ∈ L', b ∈ L ∨ b ∉ blocks p lg A L db) (hd : L'.Nodup) (hm : m' ≤ 100) :
    ∃ A', Pool w' p d lg (blocks p lg A' L' db) ⟨X, far, n, F'⟩ ∧ (∀ b ∈ blocks p lg A' L' db, b ∈ blocks p lg A L db ∨ b ∈ L' ∨ w.heap.size ≤ b) ∧ Reg.KeepB w.heap.size (blocks p lg A L db) w w' := by
  obtain ⟨A', c', hB, hR, hA, hk⟩ := hU
  have hlt : ∀ b ∈ blocks p lg A L db, b < w.heap.size := Pool.lt (S := ⟨X, far, n, F⟩) ⟨A, m, c, L, db, h1, h2, h3, h4, rfl⟩
  have hrow : ∀ b ∈ (A'.map (·.block)).toList, b ∈ (A.map (·.block)).toList ∨ w.heap.size ≤ b := fun b hb => by
    rcases hA with rfl | ⟨a, rfl, h⟩
    · exact .inl hb
    · simp at hb; exact .inr (by omega)
  have hbp := blk_pool h4
  have hbl := blk_log h4
  have hrr : ∀ b ∈ (A.map (·.block)).toList, b ∈ p :: ((A.map (·.block)).toList ++ L) := fun b hb => by simp only [List.mem_cons, List.mem_append]; exact .inr (.inl hb)
  have hll : ∀ b ∈ L, b ∈ p :: ((A.map (·.block)).toList ++ L) := fun b hb => by simp only [List.mem_cons, List.mem_append]; exact .inr (.inr hb)
  have hpp : p ∈ p :: ((A.map (·.block)).toList ++ L) := List.mem_cons_self ..
  have hF2 := hF.lt
  have hnd := List.nodup_cons.1 h1.nd
  have hnd2 := List.nodup_append.1 hnd.2
  have hp_nl : p ∉ L' := fun hm => by
    rcases hL p hm with h | h
    · exact hnd.1 (List.mem_append.2 (.inr h))
    · exact h (mem_blocks.2 (.inl rfl))
  have hp_nr : p ∉ (A'.map (·.block)).toList := fun hm => by
    rcases hrow p hm with h | h
    · exact hnd.1 (List.mem_append.2 (.inl h))
    · have := h1.box.lt; omega
  have hr_nl : ∀ b ∈ (A'.map (·.block)).toList, b ∉ L' := fun b hb hm => by
    rcases hrow b hb with h | h
    · rcases hL b hm with h5 | h5
      · exact hnd2.2.2 b h b h5 rfl
      · exact h5 (mem_blocks.2 (.inr (.inr (.inl h))))
    · have := hF2 b hm; omega
  have hnew : (blocks p lg A' L' db).Nodup := by
    unfold blocks
    refine List.nodup_cons.2 ⟨?_, List.nodup_cons.2 ⟨?_, List.nodup_append.2 ⟨?_, List.nodup_append.2 ⟨hd, dev_nodup h2, ?_⟩, ?_⟩⟩⟩
    · simp only [List.mem_cons, List.mem_append, not_or]
      exact ⟨(hbp p hpp).1, hp_nr, hp_nl, (hbp p hpp).2⟩
    · simp only [List.mem_append, not_or]
      refine ⟨fun hm => ?_, fun hm => ?_, hbl.1⟩
      · rcases hrow lg hm with h | h
        · exact hbl.2 lg (hrr lg h) rfl
        · have := h3.lt; omega
      · rcases hL lg hm with h | h
        · exact hbl.2 lg (hll lg h) rfl
        · exact h (mem_blocks.2 (.inr (.inl rfl)))
    · cases A' with
      | none => exact List.nodup_nil
      | some a => simp
    · intro a ha b hb e
      subst e
      rcases hL a ha with h | h
      · exact (hbp a (hll a h)).2 hb
      · exact h (mem_blocks.2 (.inr (.inr (.inr (.inr hb)))))
    · intro a ha b hb e
      subst e
      rcases List.mem_append.1 hb with h | h
      · exact hr_nl a ha h
      · rcases hrow a ha with h5 | h5
        · exact (hbp a (hrr a h5)).2 h
        · have := h2.lt a h; omega
  have hkp : ∀ b, b ∉ p :: (A.map (·.block)).toList → b < w.heap.size → w'.heap[b]? = w.heap[b]? := fun b hb hl => hk.block b hl hb
  have hI : In w' p d lg n A' m' c' L' F' := by
    refine ⟨hB, hR, hF.at_ fun b hb => hkp b (fun hm => ?_) (hF2 b hb), List.nodup_cons.2 ⟨?_, List.nodup_append.2 ⟨?_, hd, ?_⟩⟩, hm⟩
    · rcases List.mem_cons.1 hm with e | hm
      · exact hp_nl (e ▸ hb)
      · rcases hL b hb with h5 | h5
        · exact hnd2.2.2 b hm b h5 rfl
        · exact h5 (mem_blocks.2 (.inr (.inr (.inl hm))))
    · simp only [List.mem_append, not_or]; exact ⟨hp_nr, hp_nl⟩
    · cases A' with
      | none => exact List.nodup_nil
      | some a => simp
    · intro a ha b hb e; subst e; exact hr_nl a ha hb
  refine ⟨A', ⟨A', m', c', L', db, hI, h2.at_ fun b hb => hkp b (fun hm => ?_) (h2.lt b hb), ?_, hnew, rfl⟩, fun b hb => ?_, hk.more fun b hb => ?_⟩
  · rcases List.mem_cons.1 hm with e | hm
    · exact (hbp p hpp).2 (e ▸ hb)
    · exact (hbp b (hrr b hm)).2 hb
  · obtain ⟨t, ht⟩ := h3
    exact ⟨t, (hkp lg (fun hm => by
      rcases List.mem_cons.1 hm with e | hm
      · exact hbl.2 p hpp e
      · exact hbl.2 lg (hrr lg hm) rfl) (Array.getElem?_eq_some_iff.1 ht).1).trans ht⟩
  · rcases mem_blocks.1 hb with h | h | h | h | h
    · exact .inl (mem_blocks.2 (.inl h))
    · exact .inl (mem_blocks.2 (.inr (.inl h)))
    · rcases hrow b h with h5 | h5
      · exact .inl (mem_blocks.2 (.inr (.inr (.inl h5))))
      · exact .inr (.inr h5)
    · exact .inr (.inl h)
    · exact .inl (mem_blocks.2 (.inr (.inr (.inr (.inr h)))))
  · rcases List.mem_cons.1 hb with h | h
    · exact mem_blocks.2 (.inl h)
    · exact mem_blocks.2 (.inr (.inr (.inl h)))
end
end PoolW
end Go.Proofs.YtcfieofcnpalgaaGreat
end
