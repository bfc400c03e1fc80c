/-
  The walk of KeySorts: the Go text returns true for every list of texts, and writes nothing that was there.
-/
import Derived.Test.YtcagflakmokoiaaRefSort
import Derived.Test.YtcagflakmokoiaaLive04s
namespace Go.Proofs.Ytcagflakmokoiaa.keySorts
open Go.RowKit KeyS
theorem same_self (l : List ByteArray) : same l l = true := (same_iff l l).2 rfl
theorem same_sort (l : List ByteArray) : same (sort (sort l)) (sort l) = true := (same_iff _ _).2 (sort_sort l)
theorem sort_len (l : List ByteArray) (h : l.length ≤ 60) : (sort l).length ≤ 60 := by
  have := Lib.compact_length_le ((raw l).mergeSort fun x y => decide (x ≤ y))
  rw [List.length_mergeSort, raw_length] at this
  have e : (sort l).length = (Lib.compact ((raw l).mergeSort fun x y => decide (x ≤ y))).length := by simp [sort, txts, SortP.sort]
  omega
set_option maxHeartbeats 1000000 in
set_option maxRecDepth 100000 in
theorem walk (v0 : Value) (a0 : List ByteArray) (w : World) (g0 : RStrs w w.heap.size v0 a0) :
    Calls Try.prog 10 #[v0] w fun e w' => e = .returned (.bool true) ∧ Below w.heap.size w w' := by
  obtain ⟨A, n, c, rfl, h⟩ := g0
  by_cases hbig : 60 < n
  · clear h
    go_enter Try.func10, Try.ntmps10
    go_wp2_with (go_at_call 52; refine (Live04.live_any _).mono ?_; rintro e w' ⟨rfl, hb⟩)
    go_ret
    exact ⟨rfl, hb⟩
  have d0 : decide ((60 : Int) < (n : Int)) = false := by simp; omega
  have hsl := sort_len a0 (by rw [h.1]; omega)
  have H := Lib.hid h
  have HS := Lib.hid (sort_sort a0)
  clear h
  go_enter Try.func10, Try.ntmps10
  go_wp2_with fail
  refine (sort_any A n c _ a0 w H.out (Nat.le_refl _) (by omega)).mono ?_
  rintro e w1 ⟨g, rfl, hS1, hb1⟩
  have H1 := Lib.hid (H.out.next hb1)
  have HS1 := Lib.hid hS1
  have HB1 := Lib.hid hb1
  clear hS1 hb1
  go_wp2_with fail
  refine (refSort_any A n c _ a0 w1 H1.out (Nat.le_refl _) (by omega)).mono ?_
  rintro e w2 ⟨A2, c2, rfl, hS2, hb2⟩
  have HS2 := Lib.hid hS2
  have HB2 := Lib.hid (bstep HB1.out hb2)
  have HS12 := Lib.hid (HS1.out.next hb2)
  clear hS2 hb2
  go_wp2_with fail
  refine (same_any _ _ _ _ _ _ _ _ (sort a0) (sort a0) w2 HS12.out HS2.out).mono ?_
  rw [same_self]
  rintro e w3 ⟨rfl, hb3⟩
  have HS13 := Lib.hid (HS12.out.next hb3)
  have HB3 := Lib.hid (bstep HB2.out hb3)
  clear hb3
  go_wp2_with fail
  refine (sort_any _ _ _ _ (sort a0) w3 HS13.out (Nat.le_refl _) (by omega)).mono ?_
  rw [HS.out]
  rintro e w4 ⟨g4, rfl, hS4, hb4⟩
  have HS4 := Lib.hid hS4
  have HS14 := Lib.hid (HS13.out.next hb4)
  have HB4 := Lib.hid (bstep HB3.out hb4)
  clear hS4 hb4
  go_wp2_with fail
  refine (same_any _ _ _ _ _ _ _ _ (sort a0) (sort a0) w4 HS4.out HS14.out).mono ?_
  rw [same_self]
  rintro e w5 ⟨rfl, hb5⟩
  have HB5 := Lib.hid (bstep HB4.out hb5)
  clear hb5
  go_wp2_with fail
  refine (Live04.live_any _).mono ?_
  rintro e w6 ⟨rfl, hb6⟩
  have HB6 := Lib.hid (bstep HB5.out hb6)
  clear hb6
  go_wp2
  go_ret
  exact ⟨rfl, HB6.out⟩
end Go.Proofs.Ytcagflakmokoiaa.keySorts
