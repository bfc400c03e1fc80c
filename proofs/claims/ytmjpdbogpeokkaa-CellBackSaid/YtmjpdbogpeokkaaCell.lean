/-
  The walks of package cell and of its reference.
-/
import Derived.Test.YtmjpdbogpeokkaaProg
import Derived.Test.YtmjpdbogpeokkaaSame
import Derived.Test.YtmjpdbogpeokkaaBe
import Derived.Test.YtmjpdbogpeokkaaPCell
namespace Go.Proofs.Ytmjpdbogpeokkaa.CellW
open Go.RowKit

theorem len_beq (n : Nat) : ((n : Int) == 0) = (n == 0) := by
  rw [Bool.eq_iff_iff]; simp

set_option maxHeartbeats 1000000 in
theorem right_any (A : Option Addr) (n cap : Nat) (c : Cell) (w : World) (hl : c.data.length = n) (hn : n ≤ maxLen) :
    Calls Try.prog 25 #[.agg #[.int .i64 c.kind, .slice A n cap, .int .i64 c.lo, .int .i64 c.hi, .int .i64 c.val]] w fun e w' => e = .returned (.bool (CellP.right c)) ∧ Below w.heap.size w w' := by
  obtain ⟨kind, data, lo, hi, val⟩ := c
  dsimp only at *
  subst hl
  unfold maxLen at hn
  by_cases hk : kind = 1
  · subst hk
    go_enter Try.func25, Try.ntmps25
    go_wp2
    all_goals go_ret
    all_goals refine ⟨congrArg (fun b => Ending.returned (.bool b)) ?_, balloc (bsame _) _⟩
    all_goals simp_all [CellP.right]
    all_goals omega
  · go_enter Try.func25, Try.ntmps25
    go_wp2
    all_goals go_ret
    all_goals refine ⟨congrArg (fun b => Ending.returned (.bool b)) ?_, balloc (bsame _) _⟩
    all_goals simp_all [CellP.right]
    all_goals omega

theorem code_of (b : Bool) (n : Int) (h : n = CellP.code b) : Ending.returned (.int .i64 n) = Ending.returned (.int .i64 (CellP.code b)) := by rw [h]

set_option maxHeartbeats 1000000 in
theorem check_any (A : Option Addr) (n cap : Nat) (c : Cell) (w : World) (hl : c.data.length = n) (hn : n ≤ maxLen) :
    Calls Try.prog 21 #[.agg #[.int .i64 c.kind, .slice A n cap, .int .i64 c.lo, .int .i64 c.hi, .int .i64 c.val]] w fun e w' => e = .returned (.int .i64 (CellP.code (CellP.right c))) ∧ Below w.heap.size w w' := by
  obtain ⟨kind, data, lo, hi, val⟩ := c
  dsimp only at *
  subst hl
  unfold maxLen at hn
  by_cases hk : kind = 1
  · subst hk
    by_cases h1 : lo = 0
    · subst h1
      by_cases h2 : hi = 0
      · subst h2
        by_cases h3 : val = 0
        · subst h3
          by_cases h4 : data.length ≤ 32
          · have HR : Hid (0 = CellP.code (CellP.right ⟨1, data, 0, 0, 0⟩)) := Lib.hid (by simp [CellP.right, CellP.code, h4])
            go_enter Try.func21, Try.ntmps21
            go_wp2
            go_ret
            exact ⟨code_of _ _ HR.out, balloc (bsame _) _⟩
          · have HR : Hid (1 = CellP.code (CellP.right ⟨1, data, 0, 0, 0⟩)) := Lib.hid (by simp [CellP.right, CellP.code, h4])
            go_enter Try.func21, Try.ntmps21
            go_wp2
            go_ret
            exact ⟨code_of _ _ HR.out, balloc (bsame _) _⟩
        · have hb : (val != 0) = true := by simpa using h3
          have HR : Hid (1 = CellP.code (CellP.right ⟨1, data, 0, 0, val⟩)) := Lib.hid (by simp [CellP.right, CellP.code, h3])
          go_enter Try.func21, Try.ntmps21
          go_wp2
          go_ret
          exact ⟨code_of _ _ HR.out, balloc (bsame _) _⟩
      · have hb : (hi != 0) = true := by simpa using h2
        have HR : Hid (1 = CellP.code (CellP.right ⟨1, data, 0, hi, val⟩)) := Lib.hid (by simp [CellP.right, CellP.code, h2])
        go_enter Try.func21, Try.ntmps21
        go_wp2
        go_ret
        exact ⟨code_of _ _ HR.out, balloc (bsame _) _⟩
    · have hb : (lo != 0) = true := by simpa using h1
      have HR : Hid (1 = CellP.code (CellP.right ⟨1, data, lo, hi, val⟩)) := Lib.hid (by simp [CellP.right, CellP.code, h1])
      go_enter Try.func21, Try.ntmps21
      go_wp2
      go_ret
      exact ⟨code_of _ _ HR.out, balloc (bsame _) _⟩
  by_cases hk2 : kind = 2
  · subst hk2
    by_cases h1 : 0 < data.length
    · have hz : data.length ≠ 0 := by omega
      have HR : Hid (1 = CellP.code (CellP.right ⟨2, data, lo, hi, val⟩)) := Lib.hid (by simp [CellP.right, CellP.code]; intro h; simp [h] at h1)
      clear hz
      go_enter Try.func21, Try.ntmps21
      go_wp2
      go_ret
      exact ⟨code_of _ _ HR.out, balloc (bsame _) _⟩
    · have h1' : data = [] := List.eq_nil_of_length_eq_zero (by omega)
      subst h1'
      clear h1
      by_cases h2 : val < lo
      · have HR : Hid (1 = CellP.code (CellP.right ⟨2, [], lo, hi, val⟩)) := Lib.hid (by simp [CellP.right, CellP.code]; omega)
        go_enter Try.func21, Try.ntmps21
        go_wp2
        go_ret
        exact ⟨code_of _ _ HR.out, balloc (bsame _) _⟩
      · by_cases h3 : hi < val
        · have HR : Hid (1 = CellP.code (CellP.right ⟨2, [], lo, hi, val⟩)) := Lib.hid (by simp [CellP.right, CellP.code]; omega)
          go_enter Try.func21, Try.ntmps21
          go_wp2
          go_ret
          exact ⟨code_of _ _ HR.out, balloc (bsame _) _⟩
        · have HR : Hid (0 = CellP.code (CellP.right ⟨2, [], lo, hi, val⟩)) := Lib.hid (by
            have e1 : lo ≤ val := by omega
            have e2 : val ≤ hi := by omega
            simp [CellP.right, CellP.code, e1, e2])
          go_enter Try.func21, Try.ntmps21
          go_wp2
          go_ret
          exact ⟨code_of _ _ HR.out, balloc (bsame _) _⟩
  · have HR : Hid (1 = CellP.code (CellP.right ⟨kind, data, lo, hi, val⟩)) := Lib.hid (by simp [CellP.right, CellP.code, hk, hk2])
    have hb1 : (kind == 1) = false := by simpa using hk
    have hb2 : (kind == 2) = false := by simpa using hk2
    go_enter Try.func21, Try.ntmps21
    go_wp2
    go_ret
    exact ⟨code_of _ _ HR.out, balloc (bsame _) _⟩

set_option maxHeartbeats 1000000 in
theorem refSame_any (A A' : Option Addr) (n cap n' cap' B B' : Nat) (c d : Cell) (w : World) (h : Bytes w B A n cap c.data) (h' : Bytes w B' A' n' cap' d.data) (hB : B ≤ w.heap.size) (hB' : B' ≤ w.heap.size) :
    Calls Try.prog 18 #[.agg #[.int .i64 c.kind, .slice A n cap, .int .i64 c.lo, .int .i64 c.hi, .int .i64 c.val], .agg #[.int .i64 d.kind, .slice A' n' cap', .int .i64 d.lo, .int .i64 d.hi, .int .i64 d.val]] w
      fun e w' => e = .returned (.bool (CellP.same c d)) ∧ Below w.heap.size w w' := by
  obtain ⟨kind, data, lo, hi, val⟩ := c
  obtain ⟨kind', data', lo', hi', val'⟩ := d
  dsimp only at *
  have H := Lib.hid h
  have H' := Lib.hid h'
  clear h h'
  go_enter Try.func18, Try.ntmps18
  go_wp2_with (go_at_call 23; refine (Same.same_any _ _ _ _ _ _ _ _ _ _ _ ((H.out.alloc hB _).alloc (by simp; omega) _) ((H'.out.alloc hB' _).alloc (by simp; omega) _)).mono ?_; rintro e w' ⟨rfl, rfl⟩)
  all_goals go_ret
  all_goals refine ⟨congrArg (fun b => Ending.returned (.bool b)) ?_, balloc (balloc (bsame _) _) _⟩
  all_goals simp_all [CellP.same]

set_option maxHeartbeats 1000000 in
theorem same_any (A A' : Option Addr) (n cap n' cap' B B' : Nat) (c d : Cell) (w : World) (h : Bytes w B A n cap c.data) (h' : Bytes w B' A' n' cap' d.data) (hB : B ≤ w.heap.size) (hB' : B' ≤ w.heap.size) :
    Calls Try.prog 20 #[.agg #[.int .i64 c.kind, .slice A n cap, .int .i64 c.lo, .int .i64 c.hi, .int .i64 c.val], .agg #[.int .i64 d.kind, .slice A' n' cap', .int .i64 d.lo, .int .i64 d.hi, .int .i64 d.val]] w
      fun e w' => e = .returned (.bool (CellP.same c d)) ∧ Below w.heap.size w w' := by
  obtain ⟨kind, data, lo, hi, val⟩ := c
  obtain ⟨kind', data', lo', hi', val'⟩ := d
  dsimp only at *
  have H := Lib.hid h
  have H' := Lib.hid h'
  clear h h'
  go_enter Try.func20, Try.ntmps20
  go_wp2_with (go_at_call 26; refine (Same.equal_any _ _ _ _ _ _ _ _ _ _ _ ((H.out.alloc hB _).alloc (by simp; omega) _) ((H'.out.alloc hB' _).alloc (by simp; omega) _)).mono ?_; rintro e w' ⟨rfl, rfl⟩)
  all_goals go_ret
  all_goals refine ⟨congrArg (fun b => Ending.returned (.bool b)) ?_, balloc (balloc (bsame _) _) _⟩
  all_goals simp_all [CellP.same]

/-- what Set and its reference hand back: a cell, whose bytes are none, and the error's number -/
theorem set_no (c : Cell) (v : Int) (h : c.kind ≠ 2 ∨ CellP.right c = false) : CellP.set c v = (CellP.none, 6) := by
  unfold CellP.set
  rw [if_neg]
  rintro ⟨h1, h2⟩
  rcases h with h | h
  · exact h h1
  · rw [h] at h2; cases h2

/-- the call hands back this cell, and this error's number -/
def GivesCell (w : World) (c : Cell) (k : Int) (e : Ending) (w' : World) : Prop := ∃ A n cap, e = .returned (.tuple #[.agg #[.int .i64 c.kind, .slice A n cap, .int .i64 c.lo, .int .i64 c.hi, .int .i64 c.val], .int .i64 k]) ∧ Bytes w' w'.heap.size A n cap c.data ∧ Below w.heap.size w w'

set_option maxHeartbeats 1000000 in
theorem set_any (A : Option Addr) (n cap : Nat) (c : Cell) (v : Int) (w : World) (hl : c.data.length = n) (hn : n ≤ maxLen) :
    Calls Try.prog 16 #[.agg #[.int .i64 c.kind, .slice A n cap, .int .i64 c.lo, .int .i64 c.hi, .int .i64 c.val], .int .i64 v] w (GivesCell w (CellP.set c v).1 (CellP.set c v).2) := by
  have hc := fun W => check_any A n cap c W hl hn
  have HC := Lib.hid hc
  clear hc hl hn
  by_cases hk : c.kind = 2
  · cases hr : CellP.right c
    · have HS := Lib.hid (set_no c v (.inr hr))
      rw [HS.out]
      obtain ⟨kind, data, lo, hi, val⟩ := c
      dsimp only at *
      subst hk
      have hcf : CellP.code false = 1 := rfl
      go_enter Try.func16, Try.ntmps16
      go_wp2_with (go_at_call 21; refine (HC.out _).mono ?_; rintro e w1 ⟨rfl, hb⟩; rw [hr]; obtain ⟨hc1, hf1⟩ := bcell hb; have hsz := hb.size)
      exact bodyPost_ret (v := .tuple #[.agg #[.int .i64 0, .slice none 0 0, .int .i64 0, .int .i64 0, .int .i64 0], .int .i64 6]) (by simp [results, Try.results16, go_sem, hc1]) rfl ⟨none, 0, 0, rfl, Bytes.none_ _ _, by repeat (first | refine Below.setCell ?_ (by simp) _ | exact bstep (balloc (balloc (bsame _) _) _) hb)⟩
    · obtain ⟨kind, data, lo, hi, val⟩ := c
      dsimp only at *
      subst hk
      have hcf : CellP.code true = 0 := rfl
      by_cases hv : v < lo ∨ hi < v
      · have HS : Hid (CellP.set ⟨2, data, lo, hi, val⟩ v = (CellP.none, 8)) := Lib.hid (by simp only [CellP.set, hr]; simp [hv])
        rw [HS.out]
        by_cases h1 : v < lo
        · clear hv
          go_enter Try.func16, Try.ntmps16
          go_wp2_with (go_at_call 21; refine (HC.out _).mono ?_; rintro e w1 ⟨rfl, hb⟩; rw [hr]; obtain ⟨hc1, hf1⟩ := bcell hb; have hsz := hb.size)
          exact bodyPost_ret (v := .tuple #[.agg #[.int .i64 0, .slice none 0 0, .int .i64 0, .int .i64 0, .int .i64 0], .int .i64 8]) (by simp [results, Try.results16, go_sem, hc1]) rfl ⟨none, 0, 0, rfl, Bytes.none_ _ _, by repeat (first | refine Below.setCell ?_ (by simp) _ | exact bstep (balloc (balloc (bsame _) _) _) hb)⟩
        · have h2 : hi < v := by omega
          clear hv
          go_enter Try.func16, Try.ntmps16
          go_wp2_with (go_at_call 21; refine (HC.out _).mono ?_; rintro e w1 ⟨rfl, hb⟩; rw [hr]; obtain ⟨hc1, hf1⟩ := bcell hb; have hsz := hb.size)
          exact bodyPost_ret (v := .tuple #[.agg #[.int .i64 0, .slice none 0 0, .int .i64 0, .int .i64 0, .int .i64 0], .int .i64 8]) (by simp [results, Try.results16, go_sem, hc1]) rfl ⟨none, 0, 0, rfl, Bytes.none_ _ _, by repeat (first | refine Below.setCell ?_ (by simp) _ | exact bstep (balloc (balloc (bsame _) _) _) hb)⟩
      · have HS : Hid (CellP.set ⟨2, data, lo, hi, val⟩ v = (⟨2, [], lo, hi, v⟩, 0)) := Lib.hid (by simp only [CellP.set, hr]; simp [hv])
        rw [HS.out]
        have h1 : ¬ v < lo := by omega
        have h2 : ¬ hi < v := by omega
        clear hv
        go_enter Try.func16, Try.ntmps16
        go_wp2_with (go_at_call 21; refine (HC.out _).mono ?_; rintro e w1 ⟨rfl, hb⟩; rw [hr]; obtain ⟨hc1, hf1⟩ := bcell hb; have hsz := hb.size)
        exact bodyPost_ret (v := .tuple #[.agg #[.int .i64 2, .slice none 0 0, .int .i64 lo, .int .i64 hi, .int .i64 v], .int .i64 0]) (by simp [results, Try.results16, go_sem, hc1]) rfl ⟨none, 0, 0, rfl, Bytes.none_ _ _, by repeat (first | refine Below.setCell ?_ (by simp) _ | exact bstep (balloc (balloc (bsame _) _) _) hb)⟩
  · have HS := Lib.hid (set_no c v (.inl hk))
    rw [HS.out]
    obtain ⟨kind, data, lo, hi, val⟩ := c
    dsimp only at *
    have hkb : (kind != 2) = true := by simpa using hk
    go_enter Try.func16, Try.ntmps16
    go_wp2
    exact bodyPost_ret (v := .tuple #[.agg #[.int .i64 0, .slice none 0 0, .int .i64 0, .int .i64 0, .int .i64 0], .int .i64 6]) (by simp [results, Try.results16, go_sem]) rfl ⟨none, 0, 0, rfl, Bytes.none_ _ _, balloc (balloc (bsame _) _) _⟩

set_option maxHeartbeats 1000000 in
theorem refSet_any (A : Option Addr) (n cap : Nat) (c : Cell) (v : Int) (w : World) (hl : c.data.length = n) (hn : n ≤ maxLen) (hcap : cap ≤ maxLen) :
    Calls Try.prog 17 #[.agg #[.int .i64 c.kind, .slice A n cap, .int .i64 c.lo, .int .i64 c.hi, .int .i64 c.val], .int .i64 v] w (GivesCell w (CellP.set c v).1 (CellP.set c v).2) := by
  have hc := fun W => right_any A n cap c W hl hn
  have HC := Lib.hid hc
  have HL := Lib.hid hl
  have HCAP := Lib.hid hcap
  clear hc hl hn hcap
  by_cases hk : c.kind = 2
  · cases hr : CellP.right c
    · have HS := Lib.hid (set_no c v (.inr hr))
      rw [HS.out]
      obtain ⟨kind, data, lo, hi, val⟩ := c
      dsimp only at *
      subst hk
      go_enter Try.func17, Try.ntmps17
      go_wp2_with (go_at_call 25; refine (HC.out _).mono ?_; rintro e w1 ⟨rfl, hb⟩; rw [hr]; obtain ⟨hc1, hf1⟩ := bcell hb; have hsz := hb.size)
      exact bodyPost_ret (v := .tuple #[.agg #[.int .i64 0, .slice none 0 0, .int .i64 0, .int .i64 0, .int .i64 0], .int .i64 6]) (by simp [results, Try.results17, go_sem, hc1]) rfl ⟨none, 0, 0, rfl, Bytes.none_ _ _, by repeat (first | refine Below.setCell ?_ (by simp) _ | exact bstep (balloc (balloc (bsame _) _) _) hb)⟩
    · obtain ⟨kind, data, lo, hi, val⟩ := c
      dsimp only at *
      subst hk
      by_cases hv : v < lo ∨ hi < v
      · have HS : Hid (CellP.set ⟨2, data, lo, hi, val⟩ v = (CellP.none, 8)) := Lib.hid (by simp only [CellP.set, hr]; simp [hv])
        rw [HS.out]
        by_cases h1 : v < lo
        · clear hv
          go_enter Try.func17, Try.ntmps17
          go_wp2_with (go_at_call 25; refine (HC.out _).mono ?_; rintro e w1 ⟨rfl, hb⟩; rw [hr]; obtain ⟨hc1, hf1⟩ := bcell hb; have hsz := hb.size)
          exact bodyPost_ret (v := .tuple #[.agg #[.int .i64 0, .slice none 0 0, .int .i64 0, .int .i64 0, .int .i64 0], .int .i64 8]) (by simp [results, Try.results17, go_sem, hc1]) rfl ⟨none, 0, 0, rfl, Bytes.none_ _ _, by repeat (first | refine Below.setCell ?_ (by simp) _ | exact bstep (balloc (balloc (bsame _) _) _) hb)⟩
        · have h2 : hi < v := by omega
          clear hv
          go_enter Try.func17, Try.ntmps17
          go_wp2_with (go_at_call 25; refine (HC.out _).mono ?_; rintro e w1 ⟨rfl, hb⟩; rw [hr]; obtain ⟨hc1, hf1⟩ := bcell hb; have hsz := hb.size)
          exact bodyPost_ret (v := .tuple #[.agg #[.int .i64 0, .slice none 0 0, .int .i64 0, .int .i64 0, .int .i64 0], .int .i64 8]) (by simp [results, Try.results17, go_sem, hc1]) rfl ⟨none, 0, 0, rfl, Bytes.none_ _ _, by repeat (first | refine Below.setCell ?_ (by simp) _ | exact bstep (balloc (balloc (bsame _) _) _) hb)⟩
      · have HS : Hid (CellP.set ⟨2, data, lo, hi, val⟩ v = (⟨2, [], lo, hi, v⟩, 0)) := Lib.hid (by simp only [CellP.set, hr]; simp [hv])
        rw [HS.out]
        have h1 : ¬ v < lo := by omega
        have h2 : ¬ hi < v := by omega
        clear hv
        have hd : data = [] := by simp [CellP.right] at hr; exact hr.1
        have hn0 : n = 0 := by have := HL.out; rw [hd] at this; simpa using this.symm
        subst hn0
        go_enter Try.func17, Try.ntmps17
        go_wp2_with (go_at_call 25; refine (HC.out _).mono ?_; rintro e w1 ⟨rfl, hb⟩; rw [hr]; obtain ⟨hc1, hf1⟩ := bcell hb; have hsz := hb.size; have hq := fun x => World.cell?_setCell_same' w1 ⟨w.heap.size, 4, none⟩ x (by rw [hc1 _ _ (by simp; omega)]; simp))
        exact bodyPost_ret (v := .tuple #[.agg #[.int .i64 2, .slice A 0 cap, .int .i64 lo, .int .i64 hi, .int .i64 v], .int .i64 0]) (by simp [results, Try.results17, go_sem, hc1]) rfl ⟨A, 0, cap, rfl, Bytes.empty_ _ _ _ _ HCAP.out, by repeat (first | refine Below.setCell ?_ (by simp) _ | exact bstep (balloc (balloc (bsame _) _) _) hb)⟩
  · have HS := Lib.hid (set_no c v (.inl hk))
    rw [HS.out]
    obtain ⟨kind, data, lo, hi, val⟩ := c
    dsimp only at *
    have hkb : (kind != 2) = true := by simpa using hk
    go_enter Try.func17, Try.ntmps17
    go_wp2
    exact bodyPost_ret (v := .tuple #[.agg #[.int .i64 0, .slice none 0 0, .int .i64 0, .int .i64 0, .int .i64 0], .int .i64 6]) (by simp [results, Try.results17, go_sem]) rfl ⟨none, 0, 0, rfl, Bytes.none_ _ _, balloc (balloc (bsame _) _) _⟩
end Go.Proofs.Ytmjpdbogpeokkaa.CellW
