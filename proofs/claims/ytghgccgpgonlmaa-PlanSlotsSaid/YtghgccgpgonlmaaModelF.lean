/-
  The walks of slices.Delete and slices.Insert of pairs, on a row of the call's own.
-/
import Derived.Test.YtghgccgpgonlmaaModelE
import Derived.Test.YtghgccgpgonlmaaElem4
import Derived.RegionTactic
namespace Go.Proofs.Ytghgccgpgonlmaa.ModelW
open Go.RowKit
set_option linter.unusedVariables false
attribute [local go_sem ↓] app_fold cut_fold cl_fold cp_fold
abbrev TPr : TypeId := 103
theorem own_drew1 {w : World} {base n c : Nat} {A : Option Addr} {l : List Pair} (h : OwnE PairE TPr w base A n c l) : OwnE PairE TPr w.drew base A n c l := h.next ((bsame w).drew)
set_option maxRecDepth 100000 in
set_option maxHeartbeats 1000000 in
theorem delete_any (A : Option Addr) (n c base k : Nat) (l : List Pair) (w : World) (h : OwnE PairE TPr w base A n c l) (hb : base ≤ w.heap.size) (hk : k < n) (hn : n ≤ 100000) :
    Calls Try.prog 86 #[.slice A n c, .int .i64 (k : Int), .int .i64 ((k + 1 : Nat) : Int)] w fun e w' => e = .returned (.slice A (n - 1) c) ∧ OwnE PairE TPr w' base A (n - 1) c (l.eraseIdx k) ∧ w.grownBy w' ((Value.slice A 0 0).ownBlock) := by
  obtain ⟨i0, hi, hz0, hz1, hz2⟩ := info_parts infoP
  have hcap := h.elemsIn.cap
  obtain ⟨g, w1, rfl, hbg, hgl, hrun, hO1, hg1, hs1⟩ := (own_drew1 h).del (P := Try.prog) 34 34 i0 Try.underlying34 hi hz1 k hk
  obtain ⟨g', w2, e, hrun2, hO2, hg2, hs2⟩ := hO1.wipe (P := Try.prog) 34 0 i0 _ Try.underlying34 hi hz0 rfl (by intro v hv; simp only [Value.cells, List.mem_cons, List.not_mem_nil, or_false] at hv; rcases hv with rfl | rfl | rfl | rfl | rfl | rfl <;> rfl) (by omega) (n - (n - 1)) (by omega)
  cases e
  have HO2 := Lib.hid hO2
  have HB2 : Hid (w.grownBy w2 (some g)) := Lib.hid (((⟨rfl, rfl, rfl, Nat.le_refl _, fun _ _ _ => rfl⟩ : w.grownBy w.drew (some g)).trans hg1).trans hg2)
  rw [show PairE.size = 6 from rfl] at hrun hrun2
  have hcm := hcap.2
  have hcn := hcap.1
  unfold maxLen at hcm
  clear h hO1 hO2 hg1 hg2 hi hz0 hz1 hz2 hcap
  go_enter Try.func86, Try.ntmps86
  go_wp2
  go_region
  go_wp2
  go_ret
  exact ⟨rfl, HO2.out, HB2.out⟩

set_option maxRecDepth 100000 in
set_option maxHeartbeats 1000000 in
theorem insert_end (A : Option Addr) (n c base : Nat) (l : List Pair) (b o cv : Nat) (x : Pair) (w : World) (h : OwnE PairE TPr w base A n c l) (hv : ElemsIn PairE (hid A w) w w.heap.size (some ⟨b, o, none⟩) 1 cv [x]) (hb : base ≤ w.heap.size) (hn : n ≤ 100000) :
    Calls Try.prog 85 #[.slice A n c, .int .i64 (n : Int), .slice (some ⟨b, o, none⟩) 1 cv] w fun e w' => ∃ A' c', e = .returned (.slice A' (n + 1) c') ∧ OwnE PairE TPr w' base A' (n + 1) c' (l ++ [x]) ∧ w.grownBy w' ((Value.slice A 0 0).ownBlock) ∧ (A' = A ∨ ∀ a, A' = some a → w.heap.size ≤ a.block) := by
  obtain ⟨i0, hi, hz0, hz1, hz2⟩ := info_parts infoP
  have hcap := h.elemsIn.cap
  obtain ⟨A', c', w1, happ, hO, -, hB, hA⟩ := h.app (P := Try.prog) 34 34 i0 _ 72 Try.underlying34 hi hz0 hz1 hz2 rfl hv (by unfold maxLen; omega) (by omega) hb
  have HO := Lib.hid hO
  have HB := Lib.hid hB
  have hcm := hcap.2
  have hcn := hcap.1
  unfold maxLen at hcm
  have hcn' : (n : Int) ≤ (c : Int) := by omega
  clear h hv hO hB hi hz0 hz1 hz2 hcap
  go_enter Try.func85, Try.ntmps85
  go_wp2
  go_ret
  exact ⟨A', c', rfl, HO.out, HB.out, hA.imp id fun ⟨a, e, ha⟩ a' e' => by rw [e] at e'; cases e'; omega⟩
set_option maxRecDepth 100000 in
set_option maxHeartbeats 1000000 in
theorem insert_mid (A : Option Addr) (n base k : Nat) (l : List Pair) (b o cv : Nat) (x : Pair) (w : World) (h : OwnE PairE TPr w base A n n l) (hv : ElemsIn PairE (hid A w) w w.heap.size (some ⟨b, o, none⟩) 1 cv [x]) (hk : k < n) (hn : n ≤ 100000) :
    Calls Try.prog 85 #[.slice A n n, .int .i64 (k : Int), .slice (some ⟨b, o, none⟩) 1 cv] w fun e w' => ∃ A' c', e = .returned (.slice A' (n + 1) c') ∧ OwnE PairE TPr w' w.heap.size A' (n + 1) c' (l.take k ++ x :: l.drop k) ∧ Below w.heap.size w w' := by
  obtain ⟨i0, hi, hz0, hz1, hz2⟩ := info_parts infoP
  obtain ⟨cap, wA, wB, wC, h1, h2, happ, hcp1, hcp2, hO, hB, hs⟩ := h.ins (P := Try.prog) 34 3 34 3 i0 _ 72 Try.underlying34 Try.underlying3 hi hz0 hz1 hz2 rfl k hk rfl hn (by decide) hv
  have HO := Lib.hid hO
  have HB := Lib.hid hB
  unfold maxLen at h2
  rw [show PairE.size = 6 from rfl] at happ hcp1 hcp2
  rw [show ((n + 1 - k : Nat) : Int) = (n : Int) + 1 - (k : Int) by omega] at happ
  clear h hv hO hB hi hz0 hz1 hz2 hs
  have hne : ((k : Int) == (n : Int)) = false := by simp; omega
  go_enter Try.func85, Try.ntmps85
  go_wp2
  have q1 : IntKind.i64.wrap ((k : Int) + 1) = (k : Int) + 1 := IntWalk.i64_in _ (by omega)
  have q2 : (0 : Int) ≤ (k : Int) + 1 := by omega
  have q3 : ((k : Int) + 1).toNat = k + 1 := by omega
  have q4 : (k : Int) + 1 ≤ (n : Int) + 1 := by omega
  have q5 : (k : Int) ≤ (n : Int) := by omega
  have q6 : (n : Int) + 1 ≤ (cap : Int) := by omega
  clear hcp1 happ
  go_region
  go_wp2
  go_ret
  exact ⟨_, cap, rfl, HO.out, HB.out⟩
end Go.Proofs.Ytghgccgpgonlmaa.ModelW
