/-
  Texts in order: the walk of the reference's Same.
-/
import Derived.Test.YtcagflakmokoiaaOpenS
import Derived.Test.YtcagflakmokoiaaKey
import Derived.Test.YtcagflakmokoiaaPUndo
namespace Go.Proofs.Ytcagflakmokoiaa
open Go.RowKit
theorem Strs.at_ {w : World} {B n c k : Nat} {A : Option Addr} {l : List ByteArray} (h : Strs w B A n c l) (hk : k < n) : ∃ b o, A = some ⟨b, o, none⟩ ∧ b < B ∧ w.cell? ⟨b, o + k, none⟩ = some (.string (l[k]'(by rw [h.1]; exact hk))) := by
  obtain ⟨b, o, e, hb, hc⟩ := h.2.2.2.2 (by omega)
  exact ⟨b, o, e, hb, hc k _ (List.getElem?_eq_getElem _)⟩
namespace KeyS
/-- the same texts, in order? -/
def same (l l' : List ByteArray) : Bool := l.map (·.toList) == l'.map (·.toList)
theorem same_iff (l l' : List ByteArray) : same l l' = true ↔ l = l' := by
  unfold same
  rw [beq_iff_eq]
  constructor
  · intro h
    induction l generalizing l' with
    | nil => cases l' with
      | nil => rfl
      | cons y l' => simp at h
    | cons x l ih => cases l' with
      | nil => simp at h
      | cons y l' =>
        simp only [List.map_cons, List.cons.injEq] at h
        rw [key_inj h.1, ih l' h.2]
  · rintro rfl; rfl
set_option maxRecDepth 100000 in
set_option maxHeartbeats 1000000 in
theorem same_any (A A' : Option Addr) (n c n' c' B B' : Nat) (l l' : List ByteArray) (w : World) (h : Strs w B A n c l) (h' : Strs w B' A' n' c' l') :
    Calls Try.prog 54 #[.slice A n c, .slice A' n' c'] w fun e w' => e = .returned (.bool (same l l')) ∧ Below w.heap.size w w' := by
  have hn := Nat.le_trans h.2.1 h.2.2.1
  have hn' := Nat.le_trans h'.2.1 h'.2.2.1
  unfold maxLen at hn hn'
  by_cases hlen : n = n'
  case neg =>
    have HE : Hid (same l l' = false) := Lib.hid (by
      cases hs : same l l' with
      | false => rfl
      | true =>
        have := (same_iff l l').1 hs
        subst this
        exact absurd (h.1.symm.trans h'.1) hlen)
    rw [HE.out]
    have hne : ((n : Int) != (n' : Int)) = true := by simp; omega
    clear h h'
    go_enter Try.func54, Try.ntmps54
    go_wp2
    go_ret
    exact ⟨rfl, bsame w⟩
  subst hlen
  have H := Lib.hid h
  have H' := Lib.hid h'
  clear h h'
  go_enter Try.func54, Try.ntmps54
  go_wp2
  go_loopw [5] (fun i wr => ∃ k m : Nat, k ≤ n ∧ i = .int .i64 (k : Int) ∧ l.take k = l'.take k ∧ wr = w.drewN m) (fun i _ => n - (intOf i).toNat)
  case atStart => exact ⟨0, 0, Nat.zero_le _, rfl, rfl, rfl⟩
  case round =>
    obtain ⟨k, m, hk, rfl, hT, rfl⟩ := hrel
    have HT := Lib.hid hT
    clear hT
    by_cases hlt : k < n
    · obtain ⟨b, o, rfl, hb, hc⟩ := H.out.at_ hlt
      obtain ⟨b', o', rfl, hb', hc'⟩ := H'.out.at_ hlt
      have hl1 : k < l.length := by rw [H.out.1]; exact hlt
      have hl2 : k < l'.length := by rw [H'.out.1]; exact hlt
      have HS : Hid (l[k] = l'[k] → l.take (k + 1) = l'.take (k + 1)) := Lib.hid (fun e => by rw [List.take_succ_eq_append_getElem hl1, List.take_succ_eq_append_getElem hl2, HT.out, e])
      have HN : Hid (¬ l[k] = l'[k] → same l l' = false) := Lib.hid (fun e => by
        cases hs : same l l' with
        | false => rfl
        | true =>
          have := (same_iff l l').1 hs
          subst this
          exact absurd rfl e)
      generalize l[k] = x at *
      generalize l'[k] = y at *
      by_cases hxy : x = y
      · subst hxy
        go_wp2
        go_region
        go_wp2
        go_roundw
        case rel => exact ⟨k + 1, _, by omega, by go_num, HS.out trivial, rfl⟩
        case measure => simp [intOf]; omega
      · have HF := Lib.hid (HN.out hxy)
        replace hxy := key_ne hxy
        go_wp2
        go_region
        go_wp2
        go_ret
        exact ⟨by rw [HF.out]; rfl, bdrewN (bsame w) _⟩
    · have HE : Hid (same l l' = true) := Lib.hid ((same_iff l l').2 (by
        have h1 := HT.out
        rwa [List.take_of_length_le (by rw [H.out.1]; omega), List.take_of_length_le (by rw [H'.out.1]; omega)] at h1))
      go_wp2
      go_ret
      exact ⟨by rw [HE.out]; rfl, bdrewN (bsame w) _⟩
end KeyS
end Go.Proofs.Ytcagflakmokoiaa
