/-
  The walk of cell.Set.
-/
import Derived.Test.YtghgccgpgonlmaaProg
import Derived.Test.YtghgccgpgonlmaaSame
import Derived.Test.YtghgccgpgonlmaaBe
import Derived.Test.YtghgccgpgonlmaaPCell
import Derived.Test.YtghgccgpgonlmaaCell
namespace Go.Proofs.Ytghgccgpgonlmaa.CellW
open Go.RowKit

/-- what Set and its reference hand back: a cell, whose bytes are none, and the error's number -/
theorem set_no (c : Cell) (v : Int) (h : c.kind ≠ 2 ∨ CellP.right c = false) : CellP.set c v = (CellP.none, 6) := by
  unfold CellP.set
  rw [if_neg]
  rintro ⟨h1, h2⟩
  rcases h with h | h
  · exact h h1
  · rw [h] at h2; cases h2

/-- the call hands back this cell, and this error's number -/
def GivesCell (w : World) (c : Cell) (k : Int) (e : Ending) (w' : World) : Prop := ∃ A n cap, e = .returned (.tuple #[.agg #[.int .i64 c.kind, .slice A n cap, .int .i64 c.lo, .int .i64 c.hi, .int .i64 c.val], .int .i64 k]) ∧ Bytes w' w'.heap.size A n cap c.data ∧ Below w.heap.size w w'

set_option maxHeartbeats 1000000 in
theorem set_any (A : Option Addr) (n cap : Nat) (c : Cell) (v : Int) (w : World) (hl : c.data.length = n) (hn : n ≤ maxLen) :
    Calls Try.prog 77 #[.agg #[.int .i64 c.kind, .slice A n cap, .int .i64 c.lo, .int .i64 c.hi, .int .i64 c.val], .int .i64 v] w (GivesCell w (CellP.set c v).1 (CellP.set c v).2) := by
  have hc := fun W => check_any A n cap c W hl hn
  have HC := Lib.hid hc
  clear hc hl hn
  by_cases hk : c.kind = 2
  · cases hr : CellP.right c
    · have HS := Lib.hid (set_no c v (.inr hr))
      rw [HS.out]
      obtain ⟨kind, data, lo, hi, val⟩ := c
      dsimp only at *
      subst hk
      have hcf : CellP.code false = 1 := rfl
      go_enter Try.func77, Try.ntmps77
      go_wp2_with (go_at_call 68; refine (HC.out _).mono ?_; rintro e w1 ⟨rfl, hb⟩; rw [hr]; obtain ⟨hc1, hf1⟩ := bcell hb; have hsz := hb.size)
      exact bodyPost_ret (v := .tuple #[.agg #[.int .i64 0, .slice none 0 0, .int .i64 0, .int .i64 0, .int .i64 0], .int .i64 6]) (by simp [results, Try.results77, go_sem, hc1]) rfl ⟨none, 0, 0, rfl, Bytes.none_ _ _, by repeat (first | refine Below.setCell ?_ (by simp) _ | exact bstep (balloc (balloc (bsame _) _) _) hb)⟩
    · obtain ⟨kind, data, lo, hi, val⟩ := c
      dsimp only at *
      subst hk
      have hcf : CellP.code true = 0 := rfl
      by_cases hv : v < lo ∨ hi < v
      · have HS : Hid (CellP.set ⟨2, data, lo, hi, val⟩ v = (CellP.none, 8)) := Lib.hid (by simp only [CellP.set, hr]; simp [hv])
        rw [HS.out]
        by_cases h1 : v < lo
        · clear hv
          go_enter Try.func77, Try.ntmps77
          go_wp2_with (go_at_call 68; refine (HC.out _).mono ?_; rintro e w1 ⟨rfl, hb⟩; rw [hr]; obtain ⟨hc1, hf1⟩ := bcell hb; have hsz := hb.size)
          exact bodyPost_ret (v := .tuple #[.agg #[.int .i64 0, .slice none 0 0, .int .i64 0, .int .i64 0, .int .i64 0], .int .i64 8]) (by simp [results, Try.results77, go_sem, hc1]) rfl ⟨none, 0, 0, rfl, Bytes.none_ _ _, by repeat (first | refine Below.setCell ?_ (by simp) _ | exact bstep (balloc (balloc (bsame _) _) _) hb)⟩
        · have h2 : hi < v := by omega
          clear hv
          go_enter Try.func77, Try.ntmps77
          go_wp2_with (go_at_call 68; refine (HC.out _).mono ?_; rintro e w1 ⟨rfl, hb⟩; rw [hr]; obtain ⟨hc1, hf1⟩ := bcell hb; have hsz := hb.size)
          exact bodyPost_ret (v := .tuple #[.agg #[.int .i64 0, .slice none 0 0, .int .i64 0, .int .i64 0, .int .i64 0], .int .i64 8]) (by simp [results, Try.results77, go_sem, hc1]) rfl ⟨none, 0, 0, rfl, Bytes.none_ _ _, by repeat (first | refine Below.setCell ?_ (by simp) _ | exact bstep (balloc (balloc (bsame _) _) _) hb)⟩
      · have HS : Hid (CellP.set ⟨2, data, lo, hi, val⟩ v = (⟨2, [], lo, hi, v⟩, 0)) := Lib.hid (by simp only [CellP.set, hr]; simp [hv])
        rw [HS.out]
        have h1 : ¬ v < lo := by omega
        have h2 : ¬ hi < v := by omega
        clear hv
        go_enter Try.func77, Try.ntmps77
        go_wp2_with (go_at_call 68; refine (HC.out _).mono ?_; rintro e w1 ⟨rfl, hb⟩; rw [hr]; obtain ⟨hc1, hf1⟩ := bcell hb; have hsz := hb.size)
        exact bodyPost_ret (v := .tuple #[.agg #[.int .i64 2, .slice none 0 0, .int .i64 lo, .int .i64 hi, .int .i64 v], .int .i64 0]) (by simp [results, Try.results77, go_sem, hc1]) rfl ⟨none, 0, 0, rfl, Bytes.none_ _ _, by repeat (first | refine Below.setCell ?_ (by simp) _ | exact bstep (balloc (balloc (bsame _) _) _) hb)⟩
  · have HS := Lib.hid (set_no c v (.inl hk))
    rw [HS.out]
    obtain ⟨kind, data, lo, hi, val⟩ := c
    dsimp only at *
    have hkb : (kind != 2) = true := by simpa using hk
    go_enter Try.func77, Try.ntmps77
    go_wp2
    exact bodyPost_ret (v := .tuple #[.agg #[.int .i64 0, .slice none 0 0, .int .i64 0, .int .i64 0, .int .i64 0], .int .i64 6]) (by simp [results, Try.results77, go_sem]) rfl ⟨none, 0, 0, rfl, Bytes.none_ _ _, balloc (balloc (bsame _) _) _⟩
end Go.Proofs.Ytghgccgpgonlmaa.CellW
