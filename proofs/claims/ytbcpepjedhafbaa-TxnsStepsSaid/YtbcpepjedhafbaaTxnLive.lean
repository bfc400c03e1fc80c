/-
  The walk of (*Table).Live: the numbers of those that are under way, rising, in whatever order the map is gone through.
-/
import Derived.Test.YtbcpepjedhafbaaTxnOld
import Derived.Test.YtbcpepjedhafbaaElem
import Derived.Test.YtbcpepjedhafbaaElem6
import Derived.Test.YtbcpepjedhafbaaLayI
import Derived.Sort.OwnSortedInts
import Derived.Lib.OwnBridge
import Derived.Deep.OwnRows
import Derived.Lib.RowBridge
namespace Go.Proofs.Ytbcpepjedhafbaa
open Go.RowKit Go.Maps Go.Shelf Go.Sort
set_option linter.unusedVariables false
set_option linter.unusedSimpArgs false
/-- a number in a slice -/
def IntE : El Int where
  size := 1
  pos := by decide
  rel w B vs x := vs = [.int .i64 x]
  len := by rintro w B vs p rfl; rfl
  one := by rintro w B vs p rfl v hv; simp only [List.mem_singleton] at hv; subst hv; rfl
  sub := by rintro w w' B vs p hs h; exact h
  more := by rintro w B B' vs p hB h; exact h
theorem intE_flat {w : World} {B : Nat} : ∀ {vs : List (List Value)} {l : List Int}, Rel2 (IntE.rel w B) vs l → vs.flatten = l.map (Value.int .i64)
  | [], [], _ => rfl
  | [], _ :: _, h => h.elim
  | _ :: _, [], h => h.elim
  | v :: vs, x :: l, h => by
    have h1 : v = [.int .i64 x] := h.1
    rw [List.flatten_cons, h1, intE_flat h.2]
    rfl
theorem intE_rel (w : World) (B : Nat) : ∀ l : List Int, Rel2 (IntE.rel w B) (l.map fun x => [.int .i64 x]) l
  | [] => trivial
  | x :: l => ⟨rfl, intE_rel w B l⟩
theorem intE_map (l : List Int) : (l.map fun x => [Value.int .i64 x]).flatten = l.map (Value.int .i64) := by
  induction l with
  | nil => rfl
  | cons x l ih => rw [List.map_cons, List.flatten_cons, ih]; rfl
theorem IntE.own {w : World} {T : TypeId} {base n c : Nat} {A : Option Addr} {l : List Int} (h : OwnE IntE T w base A n c l) : w.ownsRow base T 1 (.slice A n c) n (l.map (Value.int .i64)) := by
  obtain ⟨vs, h1, h2⟩ := h
  rw [← intE_flat h2]
  exact h1
theorem IntE.mk' {w : World} {T : TypeId} {base n c : Nat} {A : Option Addr} {l : List Int} (h : w.ownsRow base T 1 (.slice A n c) n (l.map (Value.int .i64))) : OwnE IntE T w base A n c l :=
  ⟨l.map fun x => [.int .i64 x], by rw [intE_map]; exact h, intE_rel _ _ l⟩
theorem IntE.grown {w w' : World} {T : TypeId} {base n c g : Nat} {A : Option Addr} {l : List Int} (h : OwnE IntE T w base A n c l) (hg : w.grownBy w' (some g)) (hne : g < base) : OwnE IntE T w' base A n c l :=
  IntE.mk' (own_grown (IntE.own h) hg (fun a e => by have := h.ge a e; omega))
/-- a number typed out, as a source -/
theorem IntE.lit {w wr : World} {b : Nat} {x : Int} (hs : Str w b #[.int .i64 x]) : ElemsIn IntE wr w w.heap.size (some ⟨b, 0, none⟩) 1 1 [x] :=
  ⟨[[.int .i64 x]], ⟨rfl, trivial⟩, rfl, Nat.le_refl _, by unfold maxLen; omega, fun _ => ⟨b, 0, rfl, hs.lt, fun j v hv => by
    have hj : j = 0 := by have := (List.getElem?_eq_some_iff.1 hv).1; simp at this; omega
    subst hj
    simp at hv
    subst hv
    exact hs.cell 0⟩⟩
theorem infoI : (Try.prog.info? 3).map (fun i => (i.zero, i.size, i.bytes)) = some (some (.int .i64 0), 1, 8) := by kernel_rfl
namespace TxnP
def ids (L : List TxnX) : List Int := L.map (·.id)
theorem ids_rises {L : List TxnX} (h : Rises L) : (ids L).Pairwise (· < ·) := List.pairwise_map.2 h
theorem ids_nodup {L : List TxnX} (h : Rises L) : (ids L).Nodup := (ids_rises h).imp (fun h => by omega)
theorem mem_ids {L : List TxnX} {x : Int} : x ∈ ids L ↔ ∃ t ∈ L, t.id = x := by simp [ids]
/-- what was collected -/
def Col (L : List TxnX) (left : Lit → Bool) (ss : List Int) : Prop := ss.Nodup ∧ ∀ x, x ∈ ss ↔ ∃ t ∈ L, t.id = x ∧ seen left t
theorem col_step {L : List TxnX} {left : Lit → Bool} {ss : List Int} {c : TxnX} (hc : c ∈ L) (hl : left (key c.id) = true) (h : Col L left ss) : Col L (fun z => left z && !z.sameKey (key c.id)) (ss ++ [c.id]) := by
  have hn : c.id ∉ ss := fun hm => by
    obtain ⟨t, ht, e, hs⟩ := (h.2 c.id).1 hm
    unfold seen at hs
    rw [e, hl] at hs
    cases hs
  refine ⟨List.nodup_append.2 ⟨h.1, by simp, fun a ha b hb => ?_⟩, fun x => ?_⟩
  · simp only [List.mem_singleton] at hb
    subst hb
    rintro rfl
    exact hn ha
  · rw [List.mem_append, h.2 x, List.mem_singleton]
    constructor
    · rintro (⟨t, ht, e, hs⟩ | rfl)
      · exact ⟨t, ht, e, seen_step.2 (.inl hs)⟩
      · exact ⟨c, hc, rfl, seen_step.2 (.inr rfl)⟩
    · rintro ⟨t, ht, e, hs⟩
      rcases seen_step.1 hs with hs | hs
      · exact .inl ⟨t, ht, e, hs⟩
      · exact .inr (by rw [← e, hs])
theorem col_end {L : List TxnX} {left : Lit → Bool} {ss : List Int} (hr : Rises L) (h : Col L left ss) (hl : ∀ kl, left kl = false) : ss.mergeSort (fun x y => decide (x ≤ y)) = ids L := by
  have hp : ss.Perm (ids L) := (List.perm_ext_iff_of_nodup h.1 (ids_nodup hr)).2 fun x => by
    rw [h.2 x, mem_ids]
    exact ⟨fun ⟨t, ht, e, _⟩ => ⟨t, ht, e⟩, fun ⟨t, ht, e⟩ => ⟨t, ht, e, hl _⟩⟩
  have tr : ∀ a b c : Int, decide (a ≤ b) = true → decide (b ≤ c) = true → decide (a ≤ c) = true := fun a b c h1 h2 => by simp only [decide_eq_true_eq] at *; omega
  have to : ∀ a b : Int, (decide (a ≤ b) || decide (b ≤ a)) = true := fun a b => by simp only [Bool.or_eq_true, decide_eq_true_eq]; omega
  refine List.Perm.eq_of_pairwise (le := fun a b : Int => decide (a ≤ b) = true) (fun a b _ _ h1 h2 => ?_) (List.pairwise_mergeSort tr to ss) ((ids_rises hr).imp fun h => by simp; omega) ((List.mergeSort_perm ss _).trans hp)
  simp only [decide_eq_true_eq] at h1 h2
  omega
end TxnP
namespace TxnW
variable {tb bm n : Nat} {nx : Int} {L : List TxnX}
/-- the call hands back a slice of numbers -/
def GivesInts (w : World) (l : List Int) (e : Ending) (w' : World) : Prop := ∃ A n c, e = .returned (.slice A n c) ∧ Elems IntE w' w'.heap.size A n c l ∧ Below w.heap.size w w'
set_option maxRecDepth 100000 in
/-- slices.Sort at a row of the call's own -/
theorem sort_own (A : Option Addr) (m c base : Nat) (ss : List Int) (w : World) (h : OwnE IntE 3 w base A m c ss) (hm : m ≤ 100000) :
    Calls Try.prog 21 #[.slice A m c] w fun e w' => e = .returned (.tuple #[]) ∧ OwnE IntE 3 w' base A m c (ss.mergeSort fun x y => decide (x ≤ y)) ∧ w.grownBy w' ((Value.slice A 0 0).ownBlock) := by
  have hlen := h.len
  have ho := IntE.own h
  have hml : (ss.mergeSort fun x y => decide (x ≤ y)).length = m := by rw [List.length_mergeSort]; exact hlen
  by_cases h0 : m = 0
  · subst h0
    have hs : ss = [] := List.eq_nil_of_length_eq_zero hlen
    subst hs
    have := Any.slices_Sort_int_none lays189 A c w
    rw [show lays189_ren.f 189 = 21 from rfl] at this
    refine this.mono ?_
    rintro e w' ⟨rfl, rfl⟩
    exact ⟨rfl, by rw [List.mergeSort_nil]; exact h, World.grownBy.refl _ _⟩
  · rcases ho.2 with ⟨e, hn⟩ | ⟨g, cap, cur, e, hg, hb, hnc, hm2, hcs, hx⟩
    · omega
    · cases e
      rw [Nat.mul_one, ← hlen] at hx
      have hH := holds_of_blockI hb hx
      have hs := Any.slices_Sort_int lays189 g 0 c ss w hH (Array.getElem?_eq_some_iff.1 hb).1 (by omega)
      rw [hlen, show lays189_ren.f 189 = 21 from rfl] at hs
      refine hs.mono ?_
      rintro e w' ⟨rfl, nn, os, rfl⟩
      refine ⟨rfl, IntE.mk' ?_, grownBy_sortedI _⟩
      have := ownsRow_sortedI (ss := ss) (n := nn) (os := os) (ts := ss.mergeSort fun x y => decide (x ≤ y)) (by rw [List.length_mergeSort]) hg hb (by rw [hlen]; exact hnc) hm2 hcs
      rw [hlen] at this
      exact this
section
attribute [local go_sem ↓] app_fold
set_option maxRecDepth 100000 in
set_option maxHeartbeats 1000000 in
theorem live_any (w : World) (hT : Tab w tb bm n nx L) (hr : TxnP.Rises L) (hL : L.length ≤ 1000) :
    Calls Try.prog 14 #[.pointer (some ⟨tb, 0, none⟩)] w (GivesInts w (TxnP.ids L)) := by
  obtain ⟨i0, hi0, hz0, hz1, hz2⟩ := info_parts infoI
  have HI0 := Lib.hid hi0
  have HT := Lib.hid hT
  have HR := Lib.hid hr
  have hlt := hT.mlt
  obtain ⟨c0, c1⟩ := str2 hT.box
  clear hT hr hi0
  go_enter Try.func14, Try.ntmps14
  go_wp2_with (first
    | (at_range; refine wpList_range_own _ rfl _ 50 rfl 3 38 law Try.underlying50 TxnP.rd bm n (TxnP.dat L) rfl HT.out.map ?_; intro w0 hrg0 hg0 hs0)
    | go_in)
  go_frame
  have HRG := Lib.hid hrg0
  have HB0 := Lib.hid (below_none (B := w.heap.size) hg0 (Nat.le_refl _))
  have HS0 := Lib.hid hs0
  have HLN := Lib.hid hL
  clear hrg0 hg0 hs0 c0 c1 hL
  go_loopw [3] (fun sv wr => ∃ (left : Lit → Bool) (cnt m c : Nat) (A : Option Addr) (ss : List Int), sv = .slice A m c ∧ Hid (wr.ranges Try.prog 3 TxnP.rd bm w.heap.size n (TxnP.dat L) left cnt ∧ TxnP.Col L left ss ∧ m + cnt ≤ L.length ∧ OwnE IntE 3 wr (w.heap.size + 1) A m c ss ∧ Below w.heap.size w wr ∧ w.heap.size + 1 ≤ wr.heap.size))
    (fun _ wr => wr.rangeLeft bm w.heap.size)
  case atStart =>
    refine ⟨_, _, 0, 0, none, [], rfl, Lib.hid ⟨HRG.out, ⟨List.nodup_nil, fun x => ⟨fun h => (by cases h), fun ⟨t, ht, e, hs⟩ => ?_⟩⟩, by rw [TxnP.size_dat]; omega, OwnE.none_ _ _ _ _, HB0.out, by have := HS0.out; omega⟩⟩
    unfold TxnP.seen at hs
    rw [TxnP.has_dat, TxnP.has_false] at hs
    exact absurd rfl (hs t ht)
  case round =>
    obtain ⟨left, cnt, m, c, A, ss, rfl, HK⟩ := hrel
    have hwr := HK.out.2.2.2.2.2
    have hmc := HK.out.2.2.1
    have hml : m ≤ 1000 := by have := HLN.out; omega
    go_wp2_with (first
      | (at_next; refine wpList_next_ranges _ rfl _ rfl 3 law TxnP.rd (fun x : Int => Value.int .i64 x) (fun t : TxnX => .agg #[.int .i64 t.id, .int .i64 t.first, .int .i64 t.last, .int .i64 t.kept]) (fun key kl hk => by obtain ⟨x, rfl, _⟩ := Maps.keyOf_int_inv Try.underlying3 hk; exact ⟨x, rfl⟩) (fun v y hv => by obtain ⟨t, rfl, _⟩ := TxnP.rd_inv hv; exact ⟨t, rfl⟩) bm w.heap.size n _ _ _ rfl HK.out.1 ?_ ?_)
      | go_in)
    · intro _ hl0
      have HE := Lib.hid (TxnP.col_end HR.out HK.out.2.1 hl0)
      clear hl0
      go_wp2_with fail
      refine (sort_own A m c _ ss _ HK.out.2.2.2.1 (by omega)).mono ?_
      rintro e W2 ⟨rfl, hO, hg⟩
      rw [HE.out] at hO
      have HO := Lib.hid hO
      have HB := Lib.hid (below_grownO HK.out.2.2.2.2.1 hg (by omega) (by
        intro j hj
        cases A with
        | none => cases hj
        | some a => cases hj; have := HK.out.2.2.2.1.ge a rfl; omega))
      clear hO hg
      go_wp2
      go_ret
      exact ⟨A, m, c, rfl, HO.out.elems, HB.out⟩
    · intro x t kl yd yp w1 cnt1 hkey hlk hv hat hrg1 hcl hg1 hs1 hen
      obtain ⟨x', ex, rfl, -⟩ := Maps.keyOf_int_inv Try.underlying3 hkey
      cases ex
      obtain ⟨u, hu, rfl, he⟩ := TxnP.at_ent (L := L) (k := x) hat
      obtain rfl : t = u := by
        have h1 : some (yd, yp) = some (TxnP.enc t, []) := hv.symm.trans (TxnP.rd_val t)
        simp only [Option.some.injEq, Prod.mk.injEq] at h1
        exact TxnP.enc_inj (h1.1.symm.trans he)
      have HC := Lib.hid (TxnP.col_step hu hlk HK.out.2.1)
      have hsz1 := hg1.size
      have hO1 := IntE.grown HK.out.2.2.2.1 hg1 (by omega)
      have hB1 := below_grown HK.out.2.2.2.2.1 hg1 (Nat.le_refl _)
      have hba : Below w1.heap.size w1 (w1.alloc (.cells #[.int .i64 t.id] 3)) := balloc (bsame w1) _
      have hO2 := hO1.next hba
      obtain ⟨A', c', w3, happ, hO3, hb3, hg3, hA3⟩ := hO2.app (P := Try.prog) 41 41 i0 _ 8 Try.underlying41 HI0.out hz0 hz1 hz2 rfl (IntE.lit (wr := hid A (w1.alloc (.cells #[.int .i64 t.id] 3))) (x := t.id) (Str.new w1 _ _)) (by unfold maxLen; omega) (by omega) (by simp; omega)
      have hrgA := World.ranges.alloc hrg1 (.cells #[.int .i64 t.id] 3)
      have HRG1 := Lib.hid (hrgA.kept hg3 (by
        intro e
        cases A with
        | none => cases e
        | some a => injection e with e2; have := HK.out.2.2.2.1.ge a rfl; omega) (by
        intro e
        cases A with
        | none => cases e
        | some a => injection e with e2; have := HK.out.2.2.2.1.ge a rfl; omega))
      have HB3 := Lib.hid ((hB1.trans (hba.mono (by omega))).trans (hb3.mono (by omega)))
      have HO3 := Lib.hid hO3
      have hsz3 : w.heap.size + 1 ≤ w3.heap.size := by have := hb3.size; have := hba.size; omega
      have HCL := Lib.hid hcl
      clear hkey hlk hv hat hrg1 hcl hg1 hs1 he hu hO1 hB1 hba hO2 hO3 hb3 hg3 hA3 hrgA hsz1
      go_wp2
      go_roundw
      case rel => exact ⟨_, cnt1, m + 1, c', A', _, rfl, Lib.hid ⟨HRG1.out, HC.out, by have := HCL.out; omega, HO3.out, HB3.out, hsz3⟩⟩
      case measure => rw [HRG1.out.left_eq, HK.out.1.left_eq]; exact HCL.out
end
end TxnW
end Go.Proofs.Ytbcpepjedhafbaa
