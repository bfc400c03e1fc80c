/-
  The walk of slices.Insert of pairs where there is room; Insert in one word.
-/
import Derived.Test.YtghgccgpgonlmaaModelF
import Derived.Test.YtghgccgpgonlmaaElem6
namespace Go.Proofs.Ytghgccgpgonlmaa.ModelW
open Go.RowKit
set_option linter.unusedVariables false
attribute [local go_sem ↓] app_fold cut_fold cl_fold cp_fold
theorem frozen_row {w : World} {b : Nat} {cs : Array Value} {t : TypeId} (h : w.heap[b]? = some (.cells cs t (0, 0))) (i : Nat) : w.frozen? ⟨b, i, none⟩ = false := by simp [World.frozen?, h]
theorem shape_row {w : World} {b : Nat} {cs : Array Value} {t : TypeId} (h : w.heap[b]? = some (.cells cs t (0, 0))) : w.shape? b = some (t, cs.size) := by simp [World.shape?, h]
def overlapsEntry : Array Value → Sem Value := fun args => Extern.SlicesOverlaps.overlaps #[34, 34] #[4] args
theorem overlaps_any (b o cv g q n c : Nat) (cs cur : Array Value) (t t' : TypeId) (w : World) (hb : w.heap[b]? = some (.cells cs t (0, 0))) (hg : w.heap[g]? = some (.cells cur t' (0, 0))) (hne : b ≠ g) (hk : cur.size ≠ 0) :
    (callFunc 107 #[.slice (some ⟨b, o, none⟩) 1 cv, .slice (some ⟨g, q, none⟩) n c]).run Try.prog w = .ok (.value (.bool false)) w := by
  have hz : ∀ w, (Go.sizeOf 103).run Try.prog w = .ok 6 w := fun w => by
    obtain ⟨i0, hi, hz0, hz1, hz2⟩ := info_parts infoP
    simp [sizeOf, typeInfo, hi, hz1]
  have hrun := Lib.run_overlaps_apart (P := Try.prog) w 34 4 103 Try.underlying34 6 hz ⟨b, o, none⟩ ⟨g, q, none⟩ 1 cv n c hne t t' cs.size cur.size (shape_row hb) (shape_row hg) hk (frozen_row hb _) (frozen_row hb _)
  rw [run_callFunc_extern Try.func107 (by kernel_rfl) (by kernel_rfl) (by kernel_rfl) (e := overlapsEntry) (by kernel_rfl)]
  unfold overlapsEntry
  rw [hrun]
  rfl
set_option maxRecDepth 100000 in
set_option maxHeartbeats 1000000 in
theorem insert_room (A : Option Addr) (n c base k : Nat) (l : List Pair) (b o cv : Nat) (x : Pair) (w : World) (h : OwnE PairE TPr w base A n c l) (hv : ElemsIn PairE (hid A w) w w.heap.size (some ⟨b, o, none⟩) 1 cv [x]) (hk : k < n) (hc : n < c) (hn : n ≤ 100000) (hb : base ≤ w.heap.size)
    (cs : Array Value) (hs : Str w b cs) (hne : ∀ a, A = some a → b ≠ a.block) :
    Calls Try.prog 85 #[.slice A n c, .int .i64 (k : Int), .slice (some ⟨b, o, none⟩) 1 cv] w fun e w' => e = .returned (.slice A (n + 1) c) ∧ OwnE PairE TPr w' base A (n + 1) c (l.take k ++ x :: l.drop k) ∧ w.grownBy w' ((Value.slice A 0 0).ownBlock) := by
  obtain ⟨i0, hi, hz0, hz1, hz2⟩ := info_parts infoP
  have hcap := h.elemsIn.cap
  obtain ⟨g, wA, wB, rfl, hg, hgl, hcp1, hcp2, hO, hgr, hsz, cells, hh, hcs⟩ := h.insRoom (P := Try.prog) 34 3 i0 Try.underlying34 hi hz1 k hk hc hv hne
  obtain ⟨tb, hbb⟩ := hs
  rw [show PairE.size = 6 from rfl] at hcp1 hcp2 hcs
  have hov := overlaps_any b o cv g ((k + 1) * 6) (n + 1 - (k + 1)) (c - (k + 1)) cs cells tb _ w hbb hh (hne _ rfl) (by omega)
  have hcut : cutA (cutA (some ⟨g, 0, none⟩) 0 c 6) (k + 1) c 6 = some ⟨g, (k + 1) * 6, none⟩ := by rw [cutA_zero, cutA_pos (by omega), Nat.zero_add]
  rw [← hcut] at hov
  rw [cutA_zero] at hov hcp1 hcp2
  rw [show n + 1 - (k + 1) = n - k by omega] at hov hcp1
  have hlast := cutA_zero g 0 c 6
  have HO := Lib.hid hO
  have HB : Hid (w.grownBy wB (some g)) := Lib.hid hgr
  have hcm := hcap.2
  unfold maxLen at hcm
  clear h hv hO hgr hi hz0 hz1 hz2 hcap hbb hh hcut hne
  have hne : ((k : Int) == (n : Int)) = false := by simp; omega
  have hnc : decide ((c : Int) < (n : Int) + 1) = false := by simp; omega
  have p1 : (0 : Int) ≤ (n : Int) + 1 := by omega
  have p2 : (n : Int) + 1 ≤ (c : Int) := by omega
  have p3 : ((n : Int) + 1).toNat = n + 1 := by omega
  have q2 : (0 : Int) ≤ (k : Int) + 1 := by omega
  have q3 : ((k : Int) + 1).toNat = k + 1 := by omega
  have q4 : (k : Int) + 1 ≤ ((n + 1 : Nat) : Int) := by omega
  have q5 : (k : Int) ≤ ((n + 1 : Nat) : Int) := by omega
  have q6 : (k : Int) ≤ (n : Int) := by omega
  have q7 : (k : Int) ≤ (n : Int) + 1 := by omega
  have q8 : (k : Int) + 1 ≤ (n : Int) + 1 := by omega
  go_enter Try.func85, Try.ntmps85
  go_wp2
  clear hov
  go_region
  go_wp2
  go_ret
  exact ⟨rfl, HO.out, HB.out⟩
/-- slices.Insert of one pair -/
theorem insert_any (A : Option Addr) (n c base k : Nat) (l : List Pair) (b o cv : Nat) (x : Pair) (w : World) (h : OwnE PairE TPr w base A n c l) (hv : ElemsIn PairE (hid A w) w w.heap.size (some ⟨b, o, none⟩) 1 cv [x]) (hk : k ≤ n) (hn : n ≤ 100000) (hb : base ≤ w.heap.size)
    (cs : Array Value) (hs : Str w b cs) (hne : ∀ a, A = some a → b ≠ a.block) :
    Calls Try.prog 85 #[.slice A n c, .int .i64 (k : Int), .slice (some ⟨b, o, none⟩) 1 cv] w fun e w' => ∃ A' c', e = .returned (.slice A' (n + 1) c') ∧ OwnE PairE TPr w' base A' (n + 1) c' (l.take k ++ x :: l.drop k) ∧ w.grownBy w' ((Value.slice A 0 0).ownBlock) ∧ (A' = A ∨ ∀ a, A' = some a → w.heap.size ≤ a.block) := by
  have hlen := h.len
  have hcap := h.elemsIn.cap
  by_cases hkn : k = n
  · subst hkn
    have e : l.take k ++ x :: l.drop k = l ++ [x] := by rw [List.take_of_length_le (by omega), List.drop_of_length_le (by omega)]
    rw [e]
    exact insert_end A k c base l b o cv x w h hv hb hn
  · by_cases hc : n < c
    · exact (insert_room A n c base k l b o cv x w h hv (by omega) hc hn hb cs hs hne).mono fun e w' ⟨h1, h2, h3⟩ => ⟨A, c, h1, h2, h3, .inl rfl⟩
    · have e : c = n := by omega
      subst e
      exact (insert_mid A c base k l b o cv x w h hv (by omega) hn).mono fun e w' ⟨A', c', h1, h2, h3⟩ => ⟨A', c', h1, h2.less hb, grown_below h3 _, .inr h2.ge⟩
end Go.Proofs.Ytghgccgpgonlmaa.ModelW
