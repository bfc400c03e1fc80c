/-
  What holds of a table of transactions behind so many steps of a script. No program in sight.
-/
import Derived.Test.YtbcpepjedhafbaaRefTxnAny
import Derived.Test.YtbcpepjedhafbaaOpenST
namespace Go.Proofs.Ytbcpepjedhafbaa
open Go.RowKit
set_option linter.unusedVariables false
namespace TxnP
structure InvS (L : List TxnX) (nx : Int) (k : Nat) : Prop where
  rises : Rises L
  below : Below L nx
  len : L.length ≤ k
  lo : 1 ≤ nx
  hi : nx ≤ 281474976710656 + (k : Int)
  kept : ∀ t ∈ L, -1099511627776 ≤ t.kept ∧ t.kept ≤ 1099511627776 * ((k : Int) + 1)
theorem invS_nil {nx : Int} (h1 : 1 ≤ nx) (h2 : nx ≤ 281474976710656) : InvS [] nx 0 := ⟨List.Pairwise.nil, fun t h => (by cases h), Nat.le_refl _, h1, by simpa using h2, fun t h => (by cases h)⟩
theorem ins_len (t : TxnX) : ∀ L : List TxnX, (ins t L).length = L.length + 1
  | [] => rfl
  | y :: L => by
    unfold ins
    split
    · rfl
    · rw [List.length_cons, ins_len t L, List.length_cons]
theorem put_len {L : List TxnX} {t : TxnX} : (put L t).length ≤ L.length + 1 := by
  rw [put, ins_len]
  have := List.length_filter_le (fun y : TxnX => decide (y.id ≠ t.id)) L
  unfold del
  omega
theorem invS_put {L : List TxnX} {nx nx' : Int} {k : Nat} {t : TxnX} (h : InvS L nx k) (h1 : 1 ≤ t.id) (h2 : t.id < nx') (h3 : nx ≤ nx') (h4 : nx' ≤ nx + 1) (h5 : -1099511627776 ≤ t.kept ∧ t.kept ≤ 1099511627776 * ((k : Int) + 1 + 1)) : InvS (put L t) nx' (k + 1) := by
  have hl := h.len
  have hlo := h.lo
  have hhi := h.hi
  refine ⟨rises_put h.rises t, fun x hx => ?_, Nat.le_trans put_len (by omega), by omega, by omega, fun x hx => ?_⟩
  · rcases mem_put.1 hx with rfl | ⟨hx, _⟩
    · exact ⟨h1, h2⟩
    · have := h.below x hx; omega
  · rcases mem_put.1 hx with rfl | ⟨hx, _⟩
    · simpa using h5
    · have := h.kept x hx; omega
theorem invS_del {L : List TxnX} {nx : Int} {k : Nat} {id : Int} (h : InvS L nx k) : InvS (del L id) nx (k + 1) := by
  have hl := h.len
  have hlo := h.lo
  have hhi := h.hi
  refine ⟨rises_del h.rises id, fun x hx => h.below x (mem_del.1 hx).1, Nat.le_trans (List.length_filter_le _ _) (by omega), by omega, by omega, fun x hx => ?_⟩
  have := h.kept x (mem_del.1 hx).1; omega
theorem invS_more {L : List TxnX} {nx : Int} {k : Nat} (h : InvS L nx k) : InvS L nx (k + 1) := by
  have hl := h.len
  have hlo := h.lo
  have hhi := h.hi
  refine ⟨h.rises, h.below, by omega, by omega, by omega, fun x hx => ?_⟩
  have := h.kept x hx; omega
theorem invS_begin {L : List TxnX} {nx : Int} {k : Nat} (h : InvS L nx k) : InvS (put L ⟨nx, 0, 0, 0⟩) (nx + 1) (k + 1) := by
  have hlo := h.lo
  exact invS_put h hlo (by dsimp only; omega) (by omega) (Int.le_refl _) (by dsimp only; omega)
theorem invS_note {L : List TxnX} {nx : Int} {k : Nat} {id first last keep : Int} (h : InvS L nx k) (hk : -1099511627776 ≤ keep ∧ keep ≤ 1099511627776) : InvS (TxnW.noteL L id first last keep) nx (k + 1) := by
  unfold TxnW.noteL
  split
  · rename_i hh
    obtain ⟨h1, h2⟩ := get_mem hh
    have h3 := h.below _ h1
    have h4 := h.kept _ h1
    exact invS_put h (by dsimp only; omega) (by dsimp only; omega) (Int.le_refl _) (by omega) (by dsimp only; omega)
  · exact invS_more h
theorem invS_add {L : List TxnX} {nx : Int} {k : Nat} {id first last keep : Int} (h : InvS L nx k) (hk : -1099511627776 ≤ keep ∧ keep ≤ 1099511627776) : InvS (if TxnW.mayPut L nx id = true then put L ⟨id, first, last, keep⟩ else L) nx (k + 1) := by
  split
  · rename_i hh
    unfold TxnW.mayPut at hh
    simp only [Bool.and_eq_true, decide_eq_true_eq] at hh
    exact invS_put h hh.1.1 hh.1.2 (Int.le_refl _) (by omega) (by dsimp only; omega)
  · exact invS_more h
theorem invS_kept {L : List TxnX} {nx : Int} {k : Nat} {id : Int} (h : InvS L nx k) (hk : k ≤ 60) {keep : Int} (hb : -1099511627776 ≤ keep ∧ keep ≤ 1099511627776) : has L id = true → (-1000000000000000 ≤ (get L id).kept ∧ (get L id).kept ≤ 1000000000000000) ∧ (-1000000000000000 ≤ keep ∧ keep ≤ 1000000000000000) := fun hh => by
  have := h.kept _ (get_mem hh).1
  omega
theorem invS_in {L : List TxnX} {nx : Int} {k : Nat} {x : TxnX} (h : InvS L nx k) (hk : k ≤ 60) (hx : x ∈ L) : In64 x.id := by
  have h1 := h.below x hx
  have h2 := h.hi
  unfold In64
  omega
end TxnP
/-- a slice of numbers, as a word that stays true -/
def Reg.intS (l : List Int) : SP ext := ⟨fun v w => ∃ A n c, v = .slice A n c ∧ Elems IntE w w.heap.size A n c l, fun v w w' hb ⟨A, n, c, e, h⟩ => ⟨A, n, c, e, h.next hb⟩⟩
end Go.Proofs.Ytbcpepjedhafbaa
