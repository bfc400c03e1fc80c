/-
  The reference's Go, each step as one contract; what stays of a list of transactions when other boxes turn.
-/
import Derived.Test.YtbcpepjedhafbaaRefTxnGo2
import Derived.Test.YtbcpepjedhafbaaRefTxnGo3
namespace Go.Proofs.Ytbcpepjedhafbaa
open Go.RowKit
set_option linter.unusedVariables false
/-- a list of transactions lies in no box of less than four cells, and in no map -/
theorem TxnE.keepS {w w' : World} {B n c : Nat} {b0 : List Nat} {A : Option Addr} {l : List TxnX} (h : Elems TxnE w B A n c l) (k : Reg.KeepB B b0 w w') (hb : ∀ g ∈ b0, ∀ i, 3 ≤ i → w.cell? ⟨g, i, none⟩ = none) : Elems TxnE w' B A n c l := by
  by_cases h0 : 0 < n
  · obtain ⟨b, o, x, e, hbB, hx, q0, q1, q2, q3⟩ := txn_at h h0
    refine TxnE.keepE h (fun a ea hm => ?_) k
    rw [e] at ea; cases ea
    have := hb b hm (o + 0 * 4 + 3) (by omega)
    rw [q3] at this; cases this
  · obtain ⟨vs, hr, hl, hc, hm, hx⟩ := h
    exact ⟨vs, hr, hl, hc, hm, fun hn => absurd hn h0⟩
theorem Str.short {w : World} {g : Nat} {cs : Array Value} (h : Str w g cs) (hs : cs.size ≤ 3) : ∀ i, 3 ≤ i → w.cell? ⟨g, i, none⟩ = none := fun i hi => by rw [h.cell]; simp; omega
theorem TxnW.Tab.short {w : World} {tb bm n : Nat} {nx : Int} {L : List TxnX} (h : TxnW.Tab w tb bm n nx L) : ∀ g ∈ [tb, bm], ∀ i, 3 ≤ i → w.cell? ⟨g, i, none⟩ = none := fun g hg => by
  simp only [List.mem_cons, List.not_mem_nil, or_false] at hg
  rcases hg with rfl | rfl
  · exact h.box.short (by simp)
  · obtain ⟨es, clock, hb, _⟩ := h.map
    intro i _
    simp [World.cell?, hb]
theorem TxnE.grownS {w w' : World} {n c g : Nat} {A : Option Addr} {l : List TxnX} {cs : Array Value} (h : Elems TxnE w w.heap.size A n c l) (hg : w.grownBy w' (some g)) (hs : Str w g cs) (hz : cs.size ≤ 3) : Elems TxnE w' w'.heap.size A n c l :=
  (TxnE.keepS h (b0 := [g]) ⟨hg.os, hg.tape, hg.output, hg.size, fun i hi hb => hg.block i hi (by intro e; injection e with e; exact hb (by simp [e]))⟩ (fun g' hg' => by simp only [List.mem_cons, List.not_mem_nil, or_false] at hg'; subst hg'; exact hs.short hz)).more hg.size
theorem TxnE.nextK {w w' : World} {tb bm m n c : Nat} {nx : Int} {A : Option Addr} {l L : List TxnX} (h : Elems TxnE w w.heap.size A n c l) (k : Reg.KeepB w.heap.size [tb, bm] w w') (ht : TxnW.Tab w tb bm m nx L) : Elems TxnE w' w'.heap.size A n c l :=
  (TxnE.keepS h k ht.short).more k.size
end Go.Proofs.Ytbcpepjedhafbaa
namespace Go.Proofs.Ytbcpepjedhafbaa.RefTxn
open Go.RowKit Go.Maps TxnW
set_option linter.unusedVariables false
variable {A : Option Addr} {n c : Nat} {nx : Int} {L : List TxnX}
theorem go_end_any (first last keep id : Int) (w : World) (hE : Elems TxnE w w.heap.size A n c L) (hn : n ≤ 1000) (hx1 : 1 ≤ nx) (hx2 : nx ≤ 1000000000000000) (hr : TxnP.Rises L) :
    Calls Try.prog 7 #[.agg #[.slice A n c, .int .i64 nx], .agg #[.int .i64 2, .int .i64 id, .int .i64 first, .int .i64 last, .int .i64 keep]] w (GivesGo w nx (TxnP.del L id) 0 (TxnP.has L id)) := by
  cases hh : TxnP.has L id with
  | true => exact go_end first last keep id w hE hn hx1 hx2 hr hh
  | false =>
    rw [TxnP.del_none hh]
    exact go_end_no first last keep id w hE hn hx1 hx2 hh
theorem go_note_any (first last keep id : Int) (w : World) (hE : Elems TxnE w w.heap.size A n c L) (hn : n ≤ 1000) (hx1 : 1 ≤ nx) (hx2 : nx ≤ 1000000000000000) (hr : TxnP.Rises L) (hb : TxnP.has L id = true → (-1000000000000000 ≤ (TxnP.get L id).kept ∧ (TxnP.get L id).kept ≤ 1000000000000000) ∧ (-1000000000000000 ≤ keep ∧ keep ≤ 1000000000000000)) :
    Calls Try.prog 7 #[.agg #[.slice A n c, .int .i64 nx], .agg #[.int .i64 1, .int .i64 id, .int .i64 first, .int .i64 last, .int .i64 keep]] w (GivesGo w nx (noteL L id first last keep) 0 (TxnP.has L id)) := by
  unfold noteL
  cases hh : TxnP.has L id with
  | false =>
    rw [if_neg (by simp)]
    exact go_note_no first last keep id w hE hn hx1 hx2 hh
  | true =>
    rw [if_pos rfl]
    have hbb := hb hh
    by_cases hz : (TxnP.get L id).last = 0
    · rw [if_pos hz]
      by_cases hk : (TxnP.get L id).kept + keep < 0
      · rw [show max ((TxnP.get L id).kept + keep) 0 = 0 by omega]
        exact go_note_newNeg first last keep id w hE hn hx1 hx2 hr _ rfl hh hz hk hbb
      · rw [show max ((TxnP.get L id).kept + keep) 0 = (TxnP.get L id).kept + keep by omega]
        exact go_note_new first last keep id w hE hn hx1 hx2 hr _ rfl hh hz hk hbb
    · rw [if_neg hz]
      by_cases hk : (TxnP.get L id).kept + keep < 0
      · rw [show max ((TxnP.get L id).kept + keep) 0 = 0 by omega]
        exact go_note_oldNeg first last keep id w hE hn hx1 hx2 hr _ rfl hh hz hk hbb
      · rw [show max ((TxnP.get L id).kept + keep) 0 = (TxnP.get L id).kept + keep by omega]
        exact go_note_old first last keep id w hE hn hx1 hx2 hr _ rfl hh hz hk hbb
theorem go_put_any (first last keep id : Int) (w : World) (hE : Elems TxnE w w.heap.size A n c L) (hn : n ≤ 1000) (hx1 : 1 ≤ nx) (hx2 : nx ≤ 1000000000000000) :
    Calls Try.prog 7 #[.agg #[.slice A n c, .int .i64 nx], .agg #[.int .i64 3, .int .i64 id, .int .i64 first, .int .i64 last, .int .i64 keep]] w (GivesGo w nx (if mayPut L nx id = true then TxnP.put L ⟨id, first, last, keep⟩ else L) 0 (mayPut L nx id)) := by
  unfold mayPut
  cases hh : TxnP.has L id with
  | true =>
    simp only [Bool.not_true, Bool.and_false, Bool.false_eq_true, if_false]
    exact go_put_has first last keep id w hE hn hx1 hx2 hh
  | false =>
    by_cases hl : id < 1
    · rw [show decide (1 ≤ id) = false from by simp; omega]
      simp only [Bool.false_and, Bool.false_eq_true, if_false]
      exact go_put_low first last keep id w hE hn hx1 hx2 hh hl
    · by_cases hl2 : nx ≤ id
      · rw [show decide (id < nx) = false from by simp; omega]
        simp only [Bool.false_and, Bool.and_false, Bool.false_eq_true, if_false]
        exact go_put_high first last keep id w hE hn hx1 hx2 hh (by omega) hl2
      · rw [show decide (id < nx) = true from by simp; omega, show decide (1 ≤ id) = true from by simp; omega]
        simp only [Bool.not_false, Bool.and_true, if_true]
        exact go_put_new first last keep id w hE hn hx1 hx2 hh (by omega) (by omega)
theorem go_begin_any (first last keep id : Int) (w : World) (hE : Elems TxnE w w.heap.size A n c L) (hn : n ≤ 1000) (hx1 : 1 ≤ nx) (hx2 : nx ≤ 1000000000000000) (hL : TxnP.Below L nx) :
    Calls Try.prog 7 #[.agg #[.slice A n c, .int .i64 nx], .agg #[.int .i64 0, .int .i64 id, .int .i64 first, .int .i64 last, .int .i64 keep]] w (GivesGo w (nx + 1) (TxnP.put L ⟨nx, 0, 0, 0⟩) nx true) := by
  rw [← TxnP.put_last (t := ⟨nx, 0, 0, 0⟩) (fun x hx => (hL x hx).2)]
  exact go_begin first last keep id w hE hn hx1 hx2
end Go.Proofs.Ytbcpepjedhafbaa.RefTxn
