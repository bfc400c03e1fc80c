/-
  The walk of UndoOfs: the Go text returns true for every input, and writes nothing that was there.
-/
import Derived.Test.YtjengjbkdflapaaOpen3
import Derived.Test.YtjengjbkdflapaaLive17
import Derived.Test.YtjengjbkdflapaaUndoApply
import Derived.Test.YtjengjbkdflapaaRefUndo
namespace Go.Proofs.Ytjengjbkdflapaa.undoOfs
open Go.RowKit
set_option linter.unusedVariables false

set_option maxRecDepth 100000 in
set_option maxHeartbeats 4000000 in
theorem walk (v0 v1 v2 v3 v4 : Value) (a0 : OpX) (a1 a2 : Item) (a3 : Undo) (a4 : Item) (w : World) (g0 : ROp w w.heap.size v0 a0) (g1 : RItem w w.heap.size v1 a1) (g2 : RItem w w.heap.size v2 a2) (g3 : RUndo w w.heap.size v3 a3) (g4 : RItem w w.heap.size v4 a4) :
    Calls Try.prog 12 #[v0, v1, v2, v3, v4] w fun e w' => e = .returned (.bool true) ∧ Below w.heap.size w w' := by
  obtain ⟨Ax, nx, cx, rfl, -, hxk, -⟩ := g0
  obtain ⟨Ap, np, cp, rfl, hp, hpk, -⟩ := g1
  obtain ⟨Aq, nq, cq, rfl, hq, hqk, -⟩ := g2
  obtain ⟨Au, nu, cu, rfl, hu, huk, huik, -, -, hun⟩ := g3
  obtain ⟨An, nn, cn, rfl, hn, hnk, hnin⟩ := g4
  obtain ⟨act, xk, xda, xlo, xhi, xn⟩ := a0
  obtain ⟨pst, pk, pkd, pda, plo, phi, pva⟩ := a1
  obtain ⟨qst, qk, qkd, qda, qlo, qhi, qva⟩ := a2
  obtain ⟨ua, uk, ⟨ust, uik, ukd, uda, ulo, uhi, uva⟩, un⟩ := a3
  obtain ⟨nst, nk, nkd, nda, nlo, nhi, nva⟩ := a4
  dsimp only at *
  obtain ⟨-, -, hnl, hnh, hnv⟩ := hnin
  dsimp only at hnl hnh hnv
  have Hp := Lib.hid hp
  have Hq := Lib.hid hq
  have Hu := Lib.hid hu
  have Hn := Lib.hid hn
  have hp1 := Nat.le_trans hp.2.1 hp.2.2.1
  have hq1 := Nat.le_trans hq.2.1 hq.2.2.1
  have hu1 := Nat.le_trans hu.2.1 hu.2.2.1
  have hn1 := Nat.le_trans hn.2.1 hn.2.2.1
  have HXK := Lib.hid hxk
  have HUK := Lib.hid huk
  unfold maxLen at hxk huk
  clear hp hq hu hn
  go_enter Try.func12, Try.ntmps12
  go_wp2_with fail
  generalize hW0 : (((((w).alloc (.cells #[.int .i64 act, .string xk, .slice Ax nx cx, .int .i64 xlo, .int .i64 xhi, .int .i64 xn] 77)).alloc (.cells #[.int .i64 pst, .string pk, .int .i64 pkd, .slice Ap np cp, .int .i64 plo, .int .i64 phi, .int .i64 pva] 38)).alloc (.cells #[.int .i64 qst, .string qk, .int .i64 qkd, .slice Aq nq cq, .int .i64 qlo, .int .i64 qhi, .int .i64 qva] 38)).alloc (.cells #[.int .i64 ua, .string uk, .int .i64 ust, .string uik, .int .i64 ukd, .slice Au nu cu, .int .i64 ulo, .int .i64 uhi, .int .i64 uva, .int .i64 un] 79)).alloc (.cells #[.int .i64 nst, .string nk, .int .i64 nkd, .slice An nn cn, .int .i64 nlo, .int .i64 nhi, .int .i64 nva] 38) = W0
  have HS0_0 : Hid (Str W0 (w.heap.size) #[.int .i64 act, .string xk, .slice Ax nx cx, .int .i64 xlo, .int .i64 xhi, .int .i64 xn]) := Lib.hid (by rw [← hW0]; have := ((((Str.new (w) #[.int .i64 act, .string xk, .slice Ax nx cx, .int .i64 xlo, .int .i64 xhi, .int .i64 xn] 77).alloc (.cells #[.int .i64 pst, .string pk, .int .i64 pkd, .slice Ap np cp, .int .i64 plo, .int .i64 phi, .int .i64 pva] 38)).alloc (.cells #[.int .i64 qst, .string qk, .int .i64 qkd, .slice Aq nq cq, .int .i64 qlo, .int .i64 qhi, .int .i64 qva] 38)).alloc (.cells #[.int .i64 ua, .string uk, .int .i64 ust, .string uik, .int .i64 ukd, .slice Au nu cu, .int .i64 ulo, .int .i64 uhi, .int .i64 uva, .int .i64 un] 79)).alloc (.cells #[.int .i64 nst, .string nk, .int .i64 nkd, .slice An nn cn, .int .i64 nlo, .int .i64 nhi, .int .i64 nva] 38); simpa using this)
  have HS1_0 : Hid (Str W0 (w.heap.size + 1) #[.int .i64 pst, .string pk, .int .i64 pkd, .slice Ap np cp, .int .i64 plo, .int .i64 phi, .int .i64 pva]) := Lib.hid (by rw [← hW0]; have := (((Str.new ((w).alloc (.cells #[.int .i64 act, .string xk, .slice Ax nx cx, .int .i64 xlo, .int .i64 xhi, .int .i64 xn] 77)) #[.int .i64 pst, .string pk, .int .i64 pkd, .slice Ap np cp, .int .i64 plo, .int .i64 phi, .int .i64 pva] 38).alloc (.cells #[.int .i64 qst, .string qk, .int .i64 qkd, .slice Aq nq cq, .int .i64 qlo, .int .i64 qhi, .int .i64 qva] 38)).alloc (.cells #[.int .i64 ua, .string uk, .int .i64 ust, .string uik, .int .i64 ukd, .slice Au nu cu, .int .i64 ulo, .int .i64 uhi, .int .i64 uva, .int .i64 un] 79)).alloc (.cells #[.int .i64 nst, .string nk, .int .i64 nkd, .slice An nn cn, .int .i64 nlo, .int .i64 nhi, .int .i64 nva] 38); simpa using this)
  have HS2_0 : Hid (Str W0 (w.heap.size + 1 + 1) #[.int .i64 qst, .string qk, .int .i64 qkd, .slice Aq nq cq, .int .i64 qlo, .int .i64 qhi, .int .i64 qva]) := Lib.hid (by rw [← hW0]; have := ((Str.new (((w).alloc (.cells #[.int .i64 act, .string xk, .slice Ax nx cx, .int .i64 xlo, .int .i64 xhi, .int .i64 xn] 77)).alloc (.cells #[.int .i64 pst, .string pk, .int .i64 pkd, .slice Ap np cp, .int .i64 plo, .int .i64 phi, .int .i64 pva] 38)) #[.int .i64 qst, .string qk, .int .i64 qkd, .slice Aq nq cq, .int .i64 qlo, .int .i64 qhi, .int .i64 qva] 38).alloc (.cells #[.int .i64 ua, .string uk, .int .i64 ust, .string uik, .int .i64 ukd, .slice Au nu cu, .int .i64 ulo, .int .i64 uhi, .int .i64 uva, .int .i64 un] 79)).alloc (.cells #[.int .i64 nst, .string nk, .int .i64 nkd, .slice An nn cn, .int .i64 nlo, .int .i64 nhi, .int .i64 nva] 38); simpa using this)
  have HS3_0 : Hid (Str W0 (w.heap.size + 1 + 1 + 1) #[.int .i64 ua, .string uk, .int .i64 ust, .string uik, .int .i64 ukd, .slice Au nu cu, .int .i64 ulo, .int .i64 uhi, .int .i64 uva, .int .i64 un]) := Lib.hid (by rw [← hW0]; have := (Str.new ((((w).alloc (.cells #[.int .i64 act, .string xk, .slice Ax nx cx, .int .i64 xlo, .int .i64 xhi, .int .i64 xn] 77)).alloc (.cells #[.int .i64 pst, .string pk, .int .i64 pkd, .slice Ap np cp, .int .i64 plo, .int .i64 phi, .int .i64 pva] 38)).alloc (.cells #[.int .i64 qst, .string qk, .int .i64 qkd, .slice Aq nq cq, .int .i64 qlo, .int .i64 qhi, .int .i64 qva] 38)) #[.int .i64 ua, .string uk, .int .i64 ust, .string uik, .int .i64 ukd, .slice Au nu cu, .int .i64 ulo, .int .i64 uhi, .int .i64 uva, .int .i64 un] 79).alloc (.cells #[.int .i64 nst, .string nk, .int .i64 nkd, .slice An nn cn, .int .i64 nlo, .int .i64 nhi, .int .i64 nva] 38); simpa using this)
  have HS4_0 : Hid (Str W0 (w.heap.size + 1 + 1 + 1 + 1) #[.int .i64 nst, .string nk, .int .i64 nkd, .slice An nn cn, .int .i64 nlo, .int .i64 nhi, .int .i64 nva]) := Lib.hid (by rw [← hW0]; have := Str.new (((((w).alloc (.cells #[.int .i64 act, .string xk, .slice Ax nx cx, .int .i64 xlo, .int .i64 xhi, .int .i64 xn] 77)).alloc (.cells #[.int .i64 pst, .string pk, .int .i64 pkd, .slice Ap np cp, .int .i64 plo, .int .i64 phi, .int .i64 pva] 38)).alloc (.cells #[.int .i64 qst, .string qk, .int .i64 qkd, .slice Aq nq cq, .int .i64 qlo, .int .i64 qhi, .int .i64 qva] 38)).alloc (.cells #[.int .i64 ua, .string uk, .int .i64 ust, .string uik, .int .i64 ukd, .slice Au nu cu, .int .i64 ulo, .int .i64 uhi, .int .i64 uva, .int .i64 un] 79)) #[.int .i64 nst, .string nk, .int .i64 nkd, .slice An nn cn, .int .i64 nlo, .int .i64 nhi, .int .i64 nva] 38; simpa using this)
  have HB_0 : Hid (Below w.heap.size w W0) := Lib.hid (by rw [← hW0]; exact balloc (balloc (balloc (balloc (balloc (bsame w) _) _) _) _) _)
  have hw_0 := HB_0.out.size
  clear hW0
  obtain ⟨f0_0_0, f0_0_1, f0_0_2, f0_0_3, f0_0_4, f0_0_5⟩ := str6 HS0_0.out
  have hl0_0 := HS0_0.out.lt
  obtain ⟨f1_0_0, f1_0_1, f1_0_2, f1_0_3, f1_0_4, f1_0_5, f1_0_6⟩ := str7 HS1_0.out
  have hl1_0 := HS1_0.out.lt
  obtain ⟨f2_0_0, f2_0_1, f2_0_2, f2_0_3, f2_0_4, f2_0_5, f2_0_6⟩ := str7 HS2_0.out
  have hl2_0 := HS2_0.out.lt
  obtain ⟨f3_0_0, f3_0_1, f3_0_2, f3_0_3, f3_0_4, f3_0_5, f3_0_6, f3_0_7, f3_0_8, f3_0_9⟩ := str10 HS3_0.out
  have hl3_0 := HS3_0.out.lt
  obtain ⟨f4_0_0, f4_0_1, f4_0_2, f4_0_3, f4_0_4, f4_0_5, f4_0_6⟩ := str7 HS4_0.out
  have hl4_0 := HS4_0.out.lt
  refine (Live17.big_any Ap np cp _ pk _ _ _ _ _ hpk hp1).mono ?_
  rintro e W1 ⟨rfl, hb1⟩
  have HS0_1 := Lib.hid (HS0_0.out.next hb1)
  have HS1_1 := Lib.hid (HS1_0.out.next hb1)
  have HS2_1 := Lib.hid (HS2_0.out.next hb1)
  have HS3_1 := Lib.hid (HS3_0.out.next hb1)
  have HS4_1 := Lib.hid (HS4_0.out.next hb1)
  have HB_1 := Lib.hid (bstep HB_0.out hb1)
  have hw_1 := HB_1.out.size
  have hws_1 := (hb1).size
  clear f0_0_0 f0_0_1 f0_0_2 f0_0_3 f0_0_4 f0_0_5 HS0_0 f1_0_0 f1_0_1 f1_0_2 f1_0_3 f1_0_4 f1_0_5 f1_0_6 HS1_0 f2_0_0 f2_0_1 f2_0_2 f2_0_3 f2_0_4 f2_0_5 f2_0_6 HS2_0 f3_0_0 f3_0_1 f3_0_2 f3_0_3 f3_0_4 f3_0_5 f3_0_6 f3_0_7 f3_0_8 f3_0_9 HS3_0 f4_0_0 f4_0_1 f4_0_2 f4_0_3 f4_0_4 f4_0_5 f4_0_6 HS4_0
  clear hb1
  obtain ⟨f0_1_0, f0_1_1, f0_1_2, f0_1_3, f0_1_4, f0_1_5⟩ := str6 HS0_1.out
  have hl0_1 := HS0_1.out.lt
  obtain ⟨f1_1_0, f1_1_1, f1_1_2, f1_1_3, f1_1_4, f1_1_5, f1_1_6⟩ := str7 HS1_1.out
  have hl1_1 := HS1_1.out.lt
  obtain ⟨f2_1_0, f2_1_1, f2_1_2, f2_1_3, f2_1_4, f2_1_5, f2_1_6⟩ := str7 HS2_1.out
  have hl2_1 := HS2_1.out.lt
  obtain ⟨f3_1_0, f3_1_1, f3_1_2, f3_1_3, f3_1_4, f3_1_5, f3_1_6, f3_1_7, f3_1_8, f3_1_9⟩ := str10 HS3_1.out
  have hl3_1 := HS3_1.out.lt
  obtain ⟨f4_1_0, f4_1_1, f4_1_2, f4_1_3, f4_1_4, f4_1_5, f4_1_6⟩ := str7 HS4_1.out
  have hl4_1 := HS4_1.out.lt
  cases hbp : Live17.big pk np
  case true =>
    go_wp2_with fail
    refine (Live17.live_any _).mono ?_
    rintro e W2 ⟨rfl, hb2⟩
    have HS0_2 := Lib.hid (HS0_1.out.next hb2)
    have HS1_2 := Lib.hid (HS1_1.out.next hb2)
    have HS2_2 := Lib.hid (HS2_1.out.next hb2)
    have HS3_2 := Lib.hid (HS3_1.out.next hb2)
    have HS4_2 := Lib.hid (HS4_1.out.next hb2)
    have HB_2 := Lib.hid (bstep HB_1.out hb2)
    have hw_2 := HB_2.out.size
    have hws_2 := (hb2).size
    clear f0_1_0 f0_1_1 f0_1_2 f0_1_3 f0_1_4 f0_1_5 HS0_1 f1_1_0 f1_1_1 f1_1_2 f1_1_3 f1_1_4 f1_1_5 f1_1_6 HS1_1 f2_1_0 f2_1_1 f2_1_2 f2_1_3 f2_1_4 f2_1_5 f2_1_6 HS2_1 f3_1_0 f3_1_1 f3_1_2 f3_1_3 f3_1_4 f3_1_5 f3_1_6 f3_1_7 f3_1_8 f3_1_9 HS3_1 f4_1_0 f4_1_1 f4_1_2 f4_1_3 f4_1_4 f4_1_5 f4_1_6 HS4_1
    clear hb2
    obtain ⟨f0_2_0, f0_2_1, f0_2_2, f0_2_3, f0_2_4, f0_2_5⟩ := str6 HS0_2.out
    have hl0_2 := HS0_2.out.lt
    obtain ⟨f1_2_0, f1_2_1, f1_2_2, f1_2_3, f1_2_4, f1_2_5, f1_2_6⟩ := str7 HS1_2.out
    have hl1_2 := HS1_2.out.lt
    obtain ⟨f2_2_0, f2_2_1, f2_2_2, f2_2_3, f2_2_4, f2_2_5, f2_2_6⟩ := str7 HS2_2.out
    have hl2_2 := HS2_2.out.lt
    obtain ⟨f3_2_0, f3_2_1, f3_2_2, f3_2_3, f3_2_4, f3_2_5, f3_2_6, f3_2_7, f3_2_8, f3_2_9⟩ := str10 HS3_2.out
    have hl3_2 := HS3_2.out.lt
    obtain ⟨f4_2_0, f4_2_1, f4_2_2, f4_2_3, f4_2_4, f4_2_5, f4_2_6⟩ := str7 HS4_2.out
    have hl4_2 := HS4_2.out.lt
    go_wp2_with fail
    go_ret
    exact ⟨rfl, HB_2.out⟩
  have hp3 : np ≤ 300 := by simp [Live17.big] at hbp; omega
  clear hbp
  go_wp2_with fail
  refine (Live17.big_any Aq nq cq _ qk _ _ _ _ _ hqk hq1).mono ?_
  rintro e W2 ⟨rfl, hb2⟩
  have HS0_2 := Lib.hid (HS0_1.out.next hb2)
  have HS1_2 := Lib.hid (HS1_1.out.next hb2)
  have HS2_2 := Lib.hid (HS2_1.out.next hb2)
  have HS3_2 := Lib.hid (HS3_1.out.next hb2)
  have HS4_2 := Lib.hid (HS4_1.out.next hb2)
  have HB_2 := Lib.hid (bstep HB_1.out hb2)
  have hw_2 := HB_2.out.size
  have hws_2 := (hb2).size
  clear f0_1_0 f0_1_1 f0_1_2 f0_1_3 f0_1_4 f0_1_5 HS0_1 f1_1_0 f1_1_1 f1_1_2 f1_1_3 f1_1_4 f1_1_5 f1_1_6 HS1_1 f2_1_0 f2_1_1 f2_1_2 f2_1_3 f2_1_4 f2_1_5 f2_1_6 HS2_1 f3_1_0 f3_1_1 f3_1_2 f3_1_3 f3_1_4 f3_1_5 f3_1_6 f3_1_7 f3_1_8 f3_1_9 HS3_1 f4_1_0 f4_1_1 f4_1_2 f4_1_3 f4_1_4 f4_1_5 f4_1_6 HS4_1
  clear hb2
  obtain ⟨f0_2_0, f0_2_1, f0_2_2, f0_2_3, f0_2_4, f0_2_5⟩ := str6 HS0_2.out
  have hl0_2 := HS0_2.out.lt
  obtain ⟨f1_2_0, f1_2_1, f1_2_2, f1_2_3, f1_2_4, f1_2_5, f1_2_6⟩ := str7 HS1_2.out
  have hl1_2 := HS1_2.out.lt
  obtain ⟨f2_2_0, f2_2_1, f2_2_2, f2_2_3, f2_2_4, f2_2_5, f2_2_6⟩ := str7 HS2_2.out
  have hl2_2 := HS2_2.out.lt
  obtain ⟨f3_2_0, f3_2_1, f3_2_2, f3_2_3, f3_2_4, f3_2_5, f3_2_6, f3_2_7, f3_2_8, f3_2_9⟩ := str10 HS3_2.out
  have hl3_2 := HS3_2.out.lt
  obtain ⟨f4_2_0, f4_2_1, f4_2_2, f4_2_3, f4_2_4, f4_2_5, f4_2_6⟩ := str7 HS4_2.out
  have hl4_2 := HS4_2.out.lt
  cases hbq : Live17.big qk nq
  case true =>
    go_wp2_with fail
    refine (Live17.live_any _).mono ?_
    rintro e W3 ⟨rfl, hb3⟩
    have HS0_3 := Lib.hid (HS0_2.out.next hb3)
    have HS1_3 := Lib.hid (HS1_2.out.next hb3)
    have HS2_3 := Lib.hid (HS2_2.out.next hb3)
    have HS3_3 := Lib.hid (HS3_2.out.next hb3)
    have HS4_3 := Lib.hid (HS4_2.out.next hb3)
    have HB_3 := Lib.hid (bstep HB_2.out hb3)
    have hw_3 := HB_3.out.size
    have hws_3 := (hb3).size
    clear f0_2_0 f0_2_1 f0_2_2 f0_2_3 f0_2_4 f0_2_5 HS0_2 f1_2_0 f1_2_1 f1_2_2 f1_2_3 f1_2_4 f1_2_5 f1_2_6 HS1_2 f2_2_0 f2_2_1 f2_2_2 f2_2_3 f2_2_4 f2_2_5 f2_2_6 HS2_2 f3_2_0 f3_2_1 f3_2_2 f3_2_3 f3_2_4 f3_2_5 f3_2_6 f3_2_7 f3_2_8 f3_2_9 HS3_2 f4_2_0 f4_2_1 f4_2_2 f4_2_3 f4_2_4 f4_2_5 f4_2_6 HS4_2
    clear hb3
    obtain ⟨f0_3_0, f0_3_1, f0_3_2, f0_3_3, f0_3_4, f0_3_5⟩ := str6 HS0_3.out
    have hl0_3 := HS0_3.out.lt
    obtain ⟨f1_3_0, f1_3_1, f1_3_2, f1_3_3, f1_3_4, f1_3_5, f1_3_6⟩ := str7 HS1_3.out
    have hl1_3 := HS1_3.out.lt
    obtain ⟨f2_3_0, f2_3_1, f2_3_2, f2_3_3, f2_3_4, f2_3_5, f2_3_6⟩ := str7 HS2_3.out
    have hl2_3 := HS2_3.out.lt
    obtain ⟨f3_3_0, f3_3_1, f3_3_2, f3_3_3, f3_3_4, f3_3_5, f3_3_6, f3_3_7, f3_3_8, f3_3_9⟩ := str10 HS3_3.out
    have hl3_3 := HS3_3.out.lt
    obtain ⟨f4_3_0, f4_3_1, f4_3_2, f4_3_3, f4_3_4, f4_3_5, f4_3_6⟩ := str7 HS4_3.out
    have hl4_3 := HS4_3.out.lt
    go_wp2_with fail
    go_ret
    exact ⟨rfl, HB_3.out⟩
  have hq3 : nq ≤ 300 := by simp [Live17.big] at hbq; omega
  clear hbq
  go_wp2_with fail
  refine (Live17.big_any An nn cn _ nk _ _ _ _ _ hnk hn1).mono ?_
  rintro e W3 ⟨rfl, hb3⟩
  have HS0_3 := Lib.hid (HS0_2.out.next hb3)
  have HS1_3 := Lib.hid (HS1_2.out.next hb3)
  have HS2_3 := Lib.hid (HS2_2.out.next hb3)
  have HS3_3 := Lib.hid (HS3_2.out.next hb3)
  have HS4_3 := Lib.hid (HS4_2.out.next hb3)
  have HB_3 := Lib.hid (bstep HB_2.out hb3)
  have hw_3 := HB_3.out.size
  have hws_3 := (hb3).size
  clear f0_2_0 f0_2_1 f0_2_2 f0_2_3 f0_2_4 f0_2_5 HS0_2 f1_2_0 f1_2_1 f1_2_2 f1_2_3 f1_2_4 f1_2_5 f1_2_6 HS1_2 f2_2_0 f2_2_1 f2_2_2 f2_2_3 f2_2_4 f2_2_5 f2_2_6 HS2_2 f3_2_0 f3_2_1 f3_2_2 f3_2_3 f3_2_4 f3_2_5 f3_2_6 f3_2_7 f3_2_8 f3_2_9 HS3_2 f4_2_0 f4_2_1 f4_2_2 f4_2_3 f4_2_4 f4_2_5 f4_2_6 HS4_2
  clear hb3
  obtain ⟨f0_3_0, f0_3_1, f0_3_2, f0_3_3, f0_3_4, f0_3_5⟩ := str6 HS0_3.out
  have hl0_3 := HS0_3.out.lt
  obtain ⟨f1_3_0, f1_3_1, f1_3_2, f1_3_3, f1_3_4, f1_3_5, f1_3_6⟩ := str7 HS1_3.out
  have hl1_3 := HS1_3.out.lt
  obtain ⟨f2_3_0, f2_3_1, f2_3_2, f2_3_3, f2_3_4, f2_3_5, f2_3_6⟩ := str7 HS2_3.out
  have hl2_3 := HS2_3.out.lt
  obtain ⟨f3_3_0, f3_3_1, f3_3_2, f3_3_3, f3_3_4, f3_3_5, f3_3_6, f3_3_7, f3_3_8, f3_3_9⟩ := str10 HS3_3.out
  have hl3_3 := HS3_3.out.lt
  obtain ⟨f4_3_0, f4_3_1, f4_3_2, f4_3_3, f4_3_4, f4_3_5, f4_3_6⟩ := str7 HS4_3.out
  have hl4_3 := HS4_3.out.lt
  cases hbn : Live17.big nk nn
  case true =>
    go_wp2_with fail
    refine (Live17.live_any _).mono ?_
    rintro e W4 ⟨rfl, hb4⟩
    have HS0_4 := Lib.hid (HS0_3.out.next hb4)
    have HS1_4 := Lib.hid (HS1_3.out.next hb4)
    have HS2_4 := Lib.hid (HS2_3.out.next hb4)
    have HS3_4 := Lib.hid (HS3_3.out.next hb4)
    have HS4_4 := Lib.hid (HS4_3.out.next hb4)
    have HB_4 := Lib.hid (bstep HB_3.out hb4)
    have hw_4 := HB_4.out.size
    have hws_4 := (hb4).size
    clear f0_3_0 f0_3_1 f0_3_2 f0_3_3 f0_3_4 f0_3_5 HS0_3 f1_3_0 f1_3_1 f1_3_2 f1_3_3 f1_3_4 f1_3_5 f1_3_6 HS1_3 f2_3_0 f2_3_1 f2_3_2 f2_3_3 f2_3_4 f2_3_5 f2_3_6 HS2_3 f3_3_0 f3_3_1 f3_3_2 f3_3_3 f3_3_4 f3_3_5 f3_3_6 f3_3_7 f3_3_8 f3_3_9 HS3_3 f4_3_0 f4_3_1 f4_3_2 f4_3_3 f4_3_4 f4_3_5 f4_3_6 HS4_3
    clear hb4
    obtain ⟨f0_4_0, f0_4_1, f0_4_2, f0_4_3, f0_4_4, f0_4_5⟩ := str6 HS0_4.out
    have hl0_4 := HS0_4.out.lt
    obtain ⟨f1_4_0, f1_4_1, f1_4_2, f1_4_3, f1_4_4, f1_4_5, f1_4_6⟩ := str7 HS1_4.out
    have hl1_4 := HS1_4.out.lt
    obtain ⟨f2_4_0, f2_4_1, f2_4_2, f2_4_3, f2_4_4, f2_4_5, f2_4_6⟩ := str7 HS2_4.out
    have hl2_4 := HS2_4.out.lt
    obtain ⟨f3_4_0, f3_4_1, f3_4_2, f3_4_3, f3_4_4, f3_4_5, f3_4_6, f3_4_7, f3_4_8, f3_4_9⟩ := str10 HS3_4.out
    have hl3_4 := HS3_4.out.lt
    obtain ⟨f4_4_0, f4_4_1, f4_4_2, f4_4_3, f4_4_4, f4_4_5, f4_4_6⟩ := str7 HS4_4.out
    have hl4_4 := HS4_4.out.lt
    go_wp2_with fail
    go_ret
    exact ⟨rfl, HB_4.out⟩
  have hn3 : nn ≤ 300 := by simp [Live17.big] at hbn; omega
  clear hbn
  go_wp2_with fail
  refine (Live17.big_any Au nu cu _ uik _ _ _ _ _ huik hu1).mono ?_
  rintro e W4 ⟨rfl, hb4⟩
  have HS0_4 := Lib.hid (HS0_3.out.next hb4)
  have HS1_4 := Lib.hid (HS1_3.out.next hb4)
  have HS2_4 := Lib.hid (HS2_3.out.next hb4)
  have HS3_4 := Lib.hid (HS3_3.out.next hb4)
  have HS4_4 := Lib.hid (HS4_3.out.next hb4)
  have HB_4 := Lib.hid (bstep HB_3.out hb4)
  have hw_4 := HB_4.out.size
  have hws_4 := (hb4).size
  clear f0_3_0 f0_3_1 f0_3_2 f0_3_3 f0_3_4 f0_3_5 HS0_3 f1_3_0 f1_3_1 f1_3_2 f1_3_3 f1_3_4 f1_3_5 f1_3_6 HS1_3 f2_3_0 f2_3_1 f2_3_2 f2_3_3 f2_3_4 f2_3_5 f2_3_6 HS2_3 f3_3_0 f3_3_1 f3_3_2 f3_3_3 f3_3_4 f3_3_5 f3_3_6 f3_3_7 f3_3_8 f3_3_9 HS3_3 f4_3_0 f4_3_1 f4_3_2 f4_3_3 f4_3_4 f4_3_5 f4_3_6 HS4_3
  clear hb4
  obtain ⟨f0_4_0, f0_4_1, f0_4_2, f0_4_3, f0_4_4, f0_4_5⟩ := str6 HS0_4.out
  have hl0_4 := HS0_4.out.lt
  obtain ⟨f1_4_0, f1_4_1, f1_4_2, f1_4_3, f1_4_4, f1_4_5, f1_4_6⟩ := str7 HS1_4.out
  have hl1_4 := HS1_4.out.lt
  obtain ⟨f2_4_0, f2_4_1, f2_4_2, f2_4_3, f2_4_4, f2_4_5, f2_4_6⟩ := str7 HS2_4.out
  have hl2_4 := HS2_4.out.lt
  obtain ⟨f3_4_0, f3_4_1, f3_4_2, f3_4_3, f3_4_4, f3_4_5, f3_4_6, f3_4_7, f3_4_8, f3_4_9⟩ := str10 HS3_4.out
  have hl3_4 := HS3_4.out.lt
  obtain ⟨f4_4_0, f4_4_1, f4_4_2, f4_4_3, f4_4_4, f4_4_5, f4_4_6⟩ := str7 HS4_4.out
  have hl4_4 := HS4_4.out.lt
  cases hbu : Live17.big uik nu
  case true =>
    go_wp2_with fail
    refine (Live17.live_any _).mono ?_
    rintro e W5 ⟨rfl, hb5⟩
    have HS0_5 := Lib.hid (HS0_4.out.next hb5)
    have HS1_5 := Lib.hid (HS1_4.out.next hb5)
    have HS2_5 := Lib.hid (HS2_4.out.next hb5)
    have HS3_5 := Lib.hid (HS3_4.out.next hb5)
    have HS4_5 := Lib.hid (HS4_4.out.next hb5)
    have HB_5 := Lib.hid (bstep HB_4.out hb5)
    have hw_5 := HB_5.out.size
    have hws_5 := (hb5).size
    clear f0_4_0 f0_4_1 f0_4_2 f0_4_3 f0_4_4 f0_4_5 HS0_4 f1_4_0 f1_4_1 f1_4_2 f1_4_3 f1_4_4 f1_4_5 f1_4_6 HS1_4 f2_4_0 f2_4_1 f2_4_2 f2_4_3 f2_4_4 f2_4_5 f2_4_6 HS2_4 f3_4_0 f3_4_1 f3_4_2 f3_4_3 f3_4_4 f3_4_5 f3_4_6 f3_4_7 f3_4_8 f3_4_9 HS3_4 f4_4_0 f4_4_1 f4_4_2 f4_4_3 f4_4_4 f4_4_5 f4_4_6 HS4_4
    clear hb5
    obtain ⟨f0_5_0, f0_5_1, f0_5_2, f0_5_3, f0_5_4, f0_5_5⟩ := str6 HS0_5.out
    have hl0_5 := HS0_5.out.lt
    obtain ⟨f1_5_0, f1_5_1, f1_5_2, f1_5_3, f1_5_4, f1_5_5, f1_5_6⟩ := str7 HS1_5.out
    have hl1_5 := HS1_5.out.lt
    obtain ⟨f2_5_0, f2_5_1, f2_5_2, f2_5_3, f2_5_4, f2_5_5, f2_5_6⟩ := str7 HS2_5.out
    have hl2_5 := HS2_5.out.lt
    obtain ⟨f3_5_0, f3_5_1, f3_5_2, f3_5_3, f3_5_4, f3_5_5, f3_5_6, f3_5_7, f3_5_8, f3_5_9⟩ := str10 HS3_5.out
    have hl3_5 := HS3_5.out.lt
    obtain ⟨f4_5_0, f4_5_1, f4_5_2, f4_5_3, f4_5_4, f4_5_5, f4_5_6⟩ := str7 HS4_5.out
    have hl4_5 := HS4_5.out.lt
    go_wp2_with fail
    go_ret
    exact ⟨rfl, HB_5.out⟩
  have hu3 : nu ≤ 300 := by simp [Live17.big] at hbu; omega
  clear hbu
  by_cases hk1 : 300 < xk.size
  case pos =>
    go_wp2_with fail
    refine (Live17.live_any _).mono ?_
    rintro e W5 ⟨rfl, hb5⟩
    have HS0_5 := Lib.hid (HS0_4.out.next hb5)
    have HS1_5 := Lib.hid (HS1_4.out.next hb5)
    have HS2_5 := Lib.hid (HS2_4.out.next hb5)
    have HS3_5 := Lib.hid (HS3_4.out.next hb5)
    have HS4_5 := Lib.hid (HS4_4.out.next hb5)
    have HB_5 := Lib.hid (bstep HB_4.out hb5)
    have hw_5 := HB_5.out.size
    have hws_5 := (hb5).size
    clear f0_4_0 f0_4_1 f0_4_2 f0_4_3 f0_4_4 f0_4_5 HS0_4 f1_4_0 f1_4_1 f1_4_2 f1_4_3 f1_4_4 f1_4_5 f1_4_6 HS1_4 f2_4_0 f2_4_1 f2_4_2 f2_4_3 f2_4_4 f2_4_5 f2_4_6 HS2_4 f3_4_0 f3_4_1 f3_4_2 f3_4_3 f3_4_4 f3_4_5 f3_4_6 f3_4_7 f3_4_8 f3_4_9 HS3_4 f4_4_0 f4_4_1 f4_4_2 f4_4_3 f4_4_4 f4_4_5 f4_4_6 HS4_4
    clear hb5
    obtain ⟨f0_5_0, f0_5_1, f0_5_2, f0_5_3, f0_5_4, f0_5_5⟩ := str6 HS0_5.out
    have hl0_5 := HS0_5.out.lt
    obtain ⟨f1_5_0, f1_5_1, f1_5_2, f1_5_3, f1_5_4, f1_5_5, f1_5_6⟩ := str7 HS1_5.out
    have hl1_5 := HS1_5.out.lt
    obtain ⟨f2_5_0, f2_5_1, f2_5_2, f2_5_3, f2_5_4, f2_5_5, f2_5_6⟩ := str7 HS2_5.out
    have hl2_5 := HS2_5.out.lt
    obtain ⟨f3_5_0, f3_5_1, f3_5_2, f3_5_3, f3_5_4, f3_5_5, f3_5_6, f3_5_7, f3_5_8, f3_5_9⟩ := str10 HS3_5.out
    have hl3_5 := HS3_5.out.lt
    obtain ⟨f4_5_0, f4_5_1, f4_5_2, f4_5_3, f4_5_4, f4_5_5, f4_5_6⟩ := str7 HS4_5.out
    have hl4_5 := HS4_5.out.lt
    go_wp2_with fail
    go_ret
    exact ⟨rfl, HB_5.out⟩
  by_cases hk2 : 300 < uk.size
  case pos =>
    go_wp2_with fail
    refine (Live17.live_any _).mono ?_
    rintro e W5 ⟨rfl, hb5⟩
    have HS0_5 := Lib.hid (HS0_4.out.next hb5)
    have HS1_5 := Lib.hid (HS1_4.out.next hb5)
    have HS2_5 := Lib.hid (HS2_4.out.next hb5)
    have HS3_5 := Lib.hid (HS3_4.out.next hb5)
    have HS4_5 := Lib.hid (HS4_4.out.next hb5)
    have HB_5 := Lib.hid (bstep HB_4.out hb5)
    have hw_5 := HB_5.out.size
    have hws_5 := (hb5).size
    clear f0_4_0 f0_4_1 f0_4_2 f0_4_3 f0_4_4 f0_4_5 HS0_4 f1_4_0 f1_4_1 f1_4_2 f1_4_3 f1_4_4 f1_4_5 f1_4_6 HS1_4 f2_4_0 f2_4_1 f2_4_2 f2_4_3 f2_4_4 f2_4_5 f2_4_6 HS2_4 f3_4_0 f3_4_1 f3_4_2 f3_4_3 f3_4_4 f3_4_5 f3_4_6 f3_4_7 f3_4_8 f3_4_9 HS3_4 f4_4_0 f4_4_1 f4_4_2 f4_4_3 f4_4_4 f4_4_5 f4_4_6 HS4_4
    clear hb5
    obtain ⟨f0_5_0, f0_5_1, f0_5_2, f0_5_3, f0_5_4, f0_5_5⟩ := str6 HS0_5.out
    have hl0_5 := HS0_5.out.lt
    obtain ⟨f1_5_0, f1_5_1, f1_5_2, f1_5_3, f1_5_4, f1_5_5, f1_5_6⟩ := str7 HS1_5.out
    have hl1_5 := HS1_5.out.lt
    obtain ⟨f2_5_0, f2_5_1, f2_5_2, f2_5_3, f2_5_4, f2_5_5, f2_5_6⟩ := str7 HS2_5.out
    have hl2_5 := HS2_5.out.lt
    obtain ⟨f3_5_0, f3_5_1, f3_5_2, f3_5_3, f3_5_4, f3_5_5, f3_5_6, f3_5_7, f3_5_8, f3_5_9⟩ := str10 HS3_5.out
    have hl3_5 := HS3_5.out.lt
    obtain ⟨f4_5_0, f4_5_1, f4_5_2, f4_5_3, f4_5_4, f4_5_5, f4_5_6⟩ := str7 HS4_5.out
    have hl4_5 := HS4_5.out.lt
    go_wp2_with fail
    go_ret
    exact ⟨rfl, HB_5.out⟩
  go_wp2_with fail
  have HA : Hid (∀ W, Below w.heap.size w W → Calls Try.prog 67 #[.agg #[.int .i64 ua, .string uk, .int .i64 ust, .string uik, .int .i64 ukd, .slice Au nu cu, .int .i64 ulo, .int .i64 uhi, .int .i64 uva, .int .i64 un], .agg #[.int .i64 nst, .string nk, .int .i64 nkd, .slice An nn cn, .int .i64 nlo, .int .i64 nhi, .int .i64 nva]] W (SlotGet.GotItem W (UndoP.apply ⟨ua, uk, ⟨ust, uik, ⟨ukd, uda, ulo, uhi, uva⟩⟩, un⟩ ⟨nst, nk, ⟨nkd, nda, nlo, nhi, nva⟩⟩))) := Lib.hid (fun W hbw => UndoW.apply_any ua uk un Au nu cu w.heap.size ust uik ukd uda ulo uhi uva An nn cn w.heap.size nst nk nkd nda nlo nhi nva W (Hu.out.below hbw) hbw.size (by omega) (Hn.out.below hbw) hbw.size (by omega) hun hnv hnl hnh)
  have HB : Hid (∀ W, Below w.heap.size w W → Calls Try.prog 68 #[.agg #[.int .i64 ua, .string uk, .int .i64 ust, .string uik, .int .i64 ukd, .slice Au nu cu, .int .i64 ulo, .int .i64 uhi, .int .i64 uva, .int .i64 un], .agg #[.int .i64 nst, .string nk, .int .i64 nkd, .slice An nn cn, .int .i64 nlo, .int .i64 nhi, .int .i64 nva]] W (SlotGet.GotItem W (UndoP.apply ⟨ua, uk, ⟨ust, uik, ⟨ukd, uda, ulo, uhi, uva⟩⟩, un⟩ ⟨nst, nk, ⟨nkd, nda, nlo, nhi, nva⟩⟩))) := Lib.hid (fun W hbw => RefUndo.apply_any ua uk un Au nu cu w.heap.size ust uik ukd uda ulo uhi uva An nn cn w.heap.size nst nk nkd nda nlo nhi nva W (Hu.out.below hbw) hbw.size (by omega) (Hn.out.below hbw) hbw.size (by omega) hun hnv hnl hnh)
  have HOA : Hid (∀ W, Below w.heap.size w W → Calls Try.prog 70 #[.agg #[.int .i64 act, .string xk, .slice Ax nx cx, .int .i64 xlo, .int .i64 xhi, .int .i64 xn], .agg #[.int .i64 pst, .string pk, .int .i64 pkd, .slice Ap np cp, .int .i64 plo, .int .i64 phi, .int .i64 pva], .agg #[.int .i64 qst, .string qk, .int .i64 qkd, .slice Aq nq cq, .int .i64 qlo, .int .i64 qhi, .int .i64 qva]] W (UndoW.GivesUndo W (UndoP.of ⟨act, xk, xda, xlo, xhi, xn⟩ ⟨pst, pk, ⟨pkd, pda, plo, phi, pva⟩⟩ ⟨qst, qk, ⟨qkd, qda, qlo, qhi, qva⟩⟩))) := Lib.hid (fun W hbw => UndoW.of_any Ax nx cx act xk xda xlo xhi xn Ap np cp w.heap.size pst pk pkd pda plo phi pva Aq nq cq w.heap.size qst qk qkd qda qlo qhi qva W (Hp.out.below hbw) hbw.size (by omega) (Hq.out.below hbw) hbw.size (by omega))
  have HOB : Hid (∀ W, Below w.heap.size w W → Calls Try.prog 71 #[.agg #[.int .i64 act, .string xk, .slice Ax nx cx, .int .i64 xlo, .int .i64 xhi, .int .i64 xn], .agg #[.int .i64 pst, .string pk, .int .i64 pkd, .slice Ap np cp, .int .i64 plo, .int .i64 phi, .int .i64 pva], .agg #[.int .i64 qst, .string qk, .int .i64 qkd, .slice Aq nq cq, .int .i64 qlo, .int .i64 qhi, .int .i64 qva]] W (UndoW.GivesUndo W (UndoP.of ⟨act, xk, xda, xlo, xhi, xn⟩ ⟨pst, pk, ⟨pkd, pda, plo, phi, pva⟩⟩ ⟨qst, qk, ⟨qkd, qda, qlo, qhi, qva⟩⟩))) := Lib.hid (fun W hbw => RefUndo.of_any Ax nx cx act xk xda xlo xhi xn Ap np cp w.heap.size pst pk pkd pda plo phi pva Aq nq cq w.heap.size qst qk qkd qda qlo qhi qva W (Hp.out.below hbw) hbw.size (by omega) (Hq.out.below hbw) hbw.size (by omega))
  generalize UndoP.apply ⟨ua, uk, ⟨ust, uik, ⟨ukd, uda, ulo, uhi, uva⟩⟩, un⟩ ⟨nst, nk, ⟨nkd, nda, nlo, nhi, nva⟩⟩ = r at HA HB
  obtain ⟨⟨rs, rk, rkind, rdata, rlo, rhi, rval⟩, er⟩ := r
  generalize UndoP.of ⟨act, xk, xda, xlo, xhi, xn⟩ ⟨pst, pk, ⟨pkd, pda, plo, phi, pva⟩⟩ ⟨qst, qk, ⟨qkd, qda, qlo, qhi, qva⟩⟩ = o at HOA HOB
  obtain ⟨oa, ok, ⟨os, oik, okd, oda, olo, ohi, ova⟩, on⟩ := o
  refine (HA.out _ HB_4.out).mono ?_
  rintro e W5 ⟨A5, n5, c5, rfl, hy, hb5⟩
  dsimp only at *
  have HS0_5 := Lib.hid (HS0_4.out.next hb5)
  have HS1_5 := Lib.hid (HS1_4.out.next hb5)
  have HS2_5 := Lib.hid (HS2_4.out.next hb5)
  have HS3_5 := Lib.hid (HS3_4.out.next hb5)
  have HS4_5 := Lib.hid (HS4_4.out.next hb5)
  have HB_5 := Lib.hid (bstep HB_4.out hb5)
  have hw_5 := HB_5.out.size
  have hws_5 := (hb5).size
  clear f0_4_0 f0_4_1 f0_4_2 f0_4_3 f0_4_4 f0_4_5 HS0_4 f1_4_0 f1_4_1 f1_4_2 f1_4_3 f1_4_4 f1_4_5 f1_4_6 HS1_4 f2_4_0 f2_4_1 f2_4_2 f2_4_3 f2_4_4 f2_4_5 f2_4_6 HS2_4 f3_4_0 f3_4_1 f3_4_2 f3_4_3 f3_4_4 f3_4_5 f3_4_6 f3_4_7 f3_4_8 f3_4_9 HS3_4 f4_4_0 f4_4_1 f4_4_2 f4_4_3 f4_4_4 f4_4_5 f4_4_6 HS4_4
  clear hb5
  obtain ⟨f0_5_0, f0_5_1, f0_5_2, f0_5_3, f0_5_4, f0_5_5⟩ := str6 HS0_5.out
  have hl0_5 := HS0_5.out.lt
  obtain ⟨f1_5_0, f1_5_1, f1_5_2, f1_5_3, f1_5_4, f1_5_5, f1_5_6⟩ := str7 HS1_5.out
  have hl1_5 := HS1_5.out.lt
  obtain ⟨f2_5_0, f2_5_1, f2_5_2, f2_5_3, f2_5_4, f2_5_5, f2_5_6⟩ := str7 HS2_5.out
  have hl2_5 := HS2_5.out.lt
  obtain ⟨f3_5_0, f3_5_1, f3_5_2, f3_5_3, f3_5_4, f3_5_5, f3_5_6, f3_5_7, f3_5_8, f3_5_9⟩ := str10 HS3_5.out
  have hl3_5 := HS3_5.out.lt
  obtain ⟨f4_5_0, f4_5_1, f4_5_2, f4_5_3, f4_5_4, f4_5_5, f4_5_6⟩ := str7 HS4_5.out
  have hl4_5 := HS4_5.out.lt
  have HYy_5 := Lib.hid (hy)
  clear hy HA
  go_wp2_with fail
  generalize hW6 : W5.alloc (.cells #[.int .i64 rs, .string rk, .int .i64 rkind, .slice A5 n5 c5, .int .i64 rlo, .int .i64 rhi, .int .i64 rval] 38) = W6
  have HS0_6 : Hid (Str W6 (w.heap.size) #[.int .i64 act, .string xk, .slice Ax nx cx, .int .i64 xlo, .int .i64 xhi, .int .i64 xn]) := Lib.hid (by rw [← hW6]; exact HS0_5.out.alloc _)
  have HS1_6 : Hid (Str W6 (w.heap.size + 1) #[.int .i64 pst, .string pk, .int .i64 pkd, .slice Ap np cp, .int .i64 plo, .int .i64 phi, .int .i64 pva]) := Lib.hid (by rw [← hW6]; exact HS1_5.out.alloc _)
  have HS2_6 : Hid (Str W6 (w.heap.size + 1 + 1) #[.int .i64 qst, .string qk, .int .i64 qkd, .slice Aq nq cq, .int .i64 qlo, .int .i64 qhi, .int .i64 qva]) := Lib.hid (by rw [← hW6]; exact HS2_5.out.alloc _)
  have HS3_6 : Hid (Str W6 (w.heap.size + 1 + 1 + 1) #[.int .i64 ua, .string uk, .int .i64 ust, .string uik, .int .i64 ukd, .slice Au nu cu, .int .i64 ulo, .int .i64 uhi, .int .i64 uva, .int .i64 un]) := Lib.hid (by rw [← hW6]; exact HS3_5.out.alloc _)
  have HS4_6 : Hid (Str W6 (w.heap.size + 1 + 1 + 1 + 1) #[.int .i64 nst, .string nk, .int .i64 nkd, .slice An nn cn, .int .i64 nlo, .int .i64 nhi, .int .i64 nva]) := Lib.hid (by rw [← hW6]; exact HS4_5.out.alloc _)
  have HS5_6 : Hid (Str W6 W5.heap.size #[.int .i64 rs, .string rk, .int .i64 rkind, .slice A5 n5 c5, .int .i64 rlo, .int .i64 rhi, .int .i64 rval]) := Lib.hid (by rw [← hW6]; exact Str.new W5 #[.int .i64 rs, .string rk, .int .i64 rkind, .slice A5 n5 c5, .int .i64 rlo, .int .i64 rhi, .int .i64 rval] 38)
  have hba6 : Below W5.heap.size W5 W6 := by rw [← hW6]; exact balloc (bsame _) _
  have HB_6 := Lib.hid (bstep HB_5.out hba6)
  have hw_6 := HB_6.out.size
  have hws_6 := hba6.size
  have HYy_6 := Lib.hid (HYy_5.out.next hba6)
  clear HYy_5
  clear hW6
  clear f0_5_0 f0_5_1 f0_5_2 f0_5_3 f0_5_4 f0_5_5 HS0_5 f1_5_0 f1_5_1 f1_5_2 f1_5_3 f1_5_4 f1_5_5 f1_5_6 HS1_5 f2_5_0 f2_5_1 f2_5_2 f2_5_3 f2_5_4 f2_5_5 f2_5_6 HS2_5 f3_5_0 f3_5_1 f3_5_2 f3_5_3 f3_5_4 f3_5_5 f3_5_6 f3_5_7 f3_5_8 f3_5_9 HS3_5 f4_5_0 f4_5_1 f4_5_2 f4_5_3 f4_5_4 f4_5_5 f4_5_6 HS4_5
  obtain ⟨f0_6_0, f0_6_1, f0_6_2, f0_6_3, f0_6_4, f0_6_5⟩ := str6 HS0_6.out
  have hl0_6 := HS0_6.out.lt
  obtain ⟨f1_6_0, f1_6_1, f1_6_2, f1_6_3, f1_6_4, f1_6_5, f1_6_6⟩ := str7 HS1_6.out
  have hl1_6 := HS1_6.out.lt
  obtain ⟨f2_6_0, f2_6_1, f2_6_2, f2_6_3, f2_6_4, f2_6_5, f2_6_6⟩ := str7 HS2_6.out
  have hl2_6 := HS2_6.out.lt
  obtain ⟨f3_6_0, f3_6_1, f3_6_2, f3_6_3, f3_6_4, f3_6_5, f3_6_6, f3_6_7, f3_6_8, f3_6_9⟩ := str10 HS3_6.out
  have hl3_6 := HS3_6.out.lt
  obtain ⟨f4_6_0, f4_6_1, f4_6_2, f4_6_3, f4_6_4, f4_6_5, f4_6_6⟩ := str7 HS4_6.out
  have hl4_6 := HS4_6.out.lt
  obtain ⟨f5_6_0, f5_6_1, f5_6_2, f5_6_3, f5_6_4, f5_6_5, f5_6_6⟩ := str7 HS5_6.out
  have hl5_6 := HS5_6.out.lt
  clear hba6
  refine (HB.out _ HB_6.out).mono ?_
  rintro e W7 ⟨A7, n7, c7, rfl, hy, hb7⟩
  dsimp only at *
  have HS0_7 := Lib.hid (HS0_6.out.next hb7)
  have HS1_7 := Lib.hid (HS1_6.out.next hb7)
  have HS2_7 := Lib.hid (HS2_6.out.next hb7)
  have HS3_7 := Lib.hid (HS3_6.out.next hb7)
  have HS4_7 := Lib.hid (HS4_6.out.next hb7)
  have HS5_7 := Lib.hid (HS5_6.out.next hb7)
  have HB_7 := Lib.hid (bstep HB_6.out hb7)
  have hw_7 := HB_7.out.size
  have hws_7 := (hb7).size
  have HYy_7 := Lib.hid (HYy_6.out.next hb7)
  clear HYy_6
  clear f0_6_0 f0_6_1 f0_6_2 f0_6_3 f0_6_4 f0_6_5 HS0_6 f1_6_0 f1_6_1 f1_6_2 f1_6_3 f1_6_4 f1_6_5 f1_6_6 HS1_6 f2_6_0 f2_6_1 f2_6_2 f2_6_3 f2_6_4 f2_6_5 f2_6_6 HS2_6 f3_6_0 f3_6_1 f3_6_2 f3_6_3 f3_6_4 f3_6_5 f3_6_6 f3_6_7 f3_6_8 f3_6_9 HS3_6 f4_6_0 f4_6_1 f4_6_2 f4_6_3 f4_6_4 f4_6_5 f4_6_6 HS4_6 f5_6_0 f5_6_1 f5_6_2 f5_6_3 f5_6_4 f5_6_5 f5_6_6 HS5_6
  clear hb7
  obtain ⟨f0_7_0, f0_7_1, f0_7_2, f0_7_3, f0_7_4, f0_7_5⟩ := str6 HS0_7.out
  have hl0_7 := HS0_7.out.lt
  obtain ⟨f1_7_0, f1_7_1, f1_7_2, f1_7_3, f1_7_4, f1_7_5, f1_7_6⟩ := str7 HS1_7.out
  have hl1_7 := HS1_7.out.lt
  obtain ⟨f2_7_0, f2_7_1, f2_7_2, f2_7_3, f2_7_4, f2_7_5, f2_7_6⟩ := str7 HS2_7.out
  have hl2_7 := HS2_7.out.lt
  obtain ⟨f3_7_0, f3_7_1, f3_7_2, f3_7_3, f3_7_4, f3_7_5, f3_7_6, f3_7_7, f3_7_8, f3_7_9⟩ := str10 HS3_7.out
  have hl3_7 := HS3_7.out.lt
  obtain ⟨f4_7_0, f4_7_1, f4_7_2, f4_7_3, f4_7_4, f4_7_5, f4_7_6⟩ := str7 HS4_7.out
  have hl4_7 := HS4_7.out.lt
  obtain ⟨f5_7_0, f5_7_1, f5_7_2, f5_7_3, f5_7_4, f5_7_5, f5_7_6⟩ := str7 HS5_7.out
  have hl5_7 := HS5_7.out.lt
  have HYz_7 := Lib.hid (hy)
  clear hy HB
  go_wp2_with fail
  generalize hW8 : W7.alloc (.cells #[.int .i64 rs, .string rk, .int .i64 rkind, .slice A7 n7 c7, .int .i64 rlo, .int .i64 rhi, .int .i64 rval] 38) = W8
  have HS0_8 : Hid (Str W8 (w.heap.size) #[.int .i64 act, .string xk, .slice Ax nx cx, .int .i64 xlo, .int .i64 xhi, .int .i64 xn]) := Lib.hid (by rw [← hW8]; exact HS0_7.out.alloc _)
  have HS1_8 : Hid (Str W8 (w.heap.size + 1) #[.int .i64 pst, .string pk, .int .i64 pkd, .slice Ap np cp, .int .i64 plo, .int .i64 phi, .int .i64 pva]) := Lib.hid (by rw [← hW8]; exact HS1_7.out.alloc _)
  have HS2_8 : Hid (Str W8 (w.heap.size + 1 + 1) #[.int .i64 qst, .string qk, .int .i64 qkd, .slice Aq nq cq, .int .i64 qlo, .int .i64 qhi, .int .i64 qva]) := Lib.hid (by rw [← hW8]; exact HS2_7.out.alloc _)
  have HS3_8 : Hid (Str W8 (w.heap.size + 1 + 1 + 1) #[.int .i64 ua, .string uk, .int .i64 ust, .string uik, .int .i64 ukd, .slice Au nu cu, .int .i64 ulo, .int .i64 uhi, .int .i64 uva, .int .i64 un]) := Lib.hid (by rw [← hW8]; exact HS3_7.out.alloc _)
  have HS4_8 : Hid (Str W8 (w.heap.size + 1 + 1 + 1 + 1) #[.int .i64 nst, .string nk, .int .i64 nkd, .slice An nn cn, .int .i64 nlo, .int .i64 nhi, .int .i64 nva]) := Lib.hid (by rw [← hW8]; exact HS4_7.out.alloc _)
  have HS5_8 : Hid (Str W8 (W5.heap.size) #[.int .i64 rs, .string rk, .int .i64 rkind, .slice A5 n5 c5, .int .i64 rlo, .int .i64 rhi, .int .i64 rval]) := Lib.hid (by rw [← hW8]; exact HS5_7.out.alloc _)
  have HS6_8 : Hid (Str W8 W7.heap.size #[.int .i64 rs, .string rk, .int .i64 rkind, .slice A7 n7 c7, .int .i64 rlo, .int .i64 rhi, .int .i64 rval]) := Lib.hid (by rw [← hW8]; exact Str.new W7 #[.int .i64 rs, .string rk, .int .i64 rkind, .slice A7 n7 c7, .int .i64 rlo, .int .i64 rhi, .int .i64 rval] 38)
  have hba8 : Below W7.heap.size W7 W8 := by rw [← hW8]; exact balloc (bsame _) _
  have HB_8 := Lib.hid (bstep HB_7.out hba8)
  have hw_8 := HB_8.out.size
  have hws_8 := hba8.size
  have HYy_8 := Lib.hid (HYy_7.out.next hba8)
  have HYz_8 := Lib.hid (HYz_7.out.next hba8)
  clear HYy_7 HYz_7
  clear hW8
  clear f0_7_0 f0_7_1 f0_7_2 f0_7_3 f0_7_4 f0_7_5 HS0_7 f1_7_0 f1_7_1 f1_7_2 f1_7_3 f1_7_4 f1_7_5 f1_7_6 HS1_7 f2_7_0 f2_7_1 f2_7_2 f2_7_3 f2_7_4 f2_7_5 f2_7_6 HS2_7 f3_7_0 f3_7_1 f3_7_2 f3_7_3 f3_7_4 f3_7_5 f3_7_6 f3_7_7 f3_7_8 f3_7_9 HS3_7 f4_7_0 f4_7_1 f4_7_2 f4_7_3 f4_7_4 f4_7_5 f4_7_6 HS4_7 f5_7_0 f5_7_1 f5_7_2 f5_7_3 f5_7_4 f5_7_5 f5_7_6 HS5_7
  obtain ⟨f0_8_0, f0_8_1, f0_8_2, f0_8_3, f0_8_4, f0_8_5⟩ := str6 HS0_8.out
  have hl0_8 := HS0_8.out.lt
  obtain ⟨f1_8_0, f1_8_1, f1_8_2, f1_8_3, f1_8_4, f1_8_5, f1_8_6⟩ := str7 HS1_8.out
  have hl1_8 := HS1_8.out.lt
  obtain ⟨f2_8_0, f2_8_1, f2_8_2, f2_8_3, f2_8_4, f2_8_5, f2_8_6⟩ := str7 HS2_8.out
  have hl2_8 := HS2_8.out.lt
  obtain ⟨f3_8_0, f3_8_1, f3_8_2, f3_8_3, f3_8_4, f3_8_5, f3_8_6, f3_8_7, f3_8_8, f3_8_9⟩ := str10 HS3_8.out
  have hl3_8 := HS3_8.out.lt
  obtain ⟨f4_8_0, f4_8_1, f4_8_2, f4_8_3, f4_8_4, f4_8_5, f4_8_6⟩ := str7 HS4_8.out
  have hl4_8 := HS4_8.out.lt
  obtain ⟨f5_8_0, f5_8_1, f5_8_2, f5_8_3, f5_8_4, f5_8_5, f5_8_6⟩ := str7 HS5_8.out
  have hl5_8 := HS5_8.out.lt
  obtain ⟨f6_8_0, f6_8_1, f6_8_2, f6_8_3, f6_8_4, f6_8_5, f6_8_6⟩ := str7 HS6_8.out
  have hl6_8 := HS6_8.out.lt
  clear hba8
  refine Reg.wp_region_vals (R := ext) (W := W8) [Reg.eqv (.agg #[.int .i64 act, .string xk, .slice Ax nx cx, .int .i64 xlo, .int .i64 xhi, .int .i64 xn]), Reg.eqv (.agg #[.int .i64 pst, .string pk, .int .i64 pkd, .slice Ap np cp, .int .i64 plo, .int .i64 phi, .int .i64 pva]), Reg.eqv (.agg #[.int .i64 qst, .string qk, .int .i64 qkd, .slice Aq nq cq, .int .i64 qlo, .int .i64 qhi, .int .i64 qva]), Reg.undoS ⟨oa, ok, ⟨os, oik, ⟨okd, oda, olo, ohi, ova⟩⟩, on⟩, Reg.eqv (.agg #[.int .i64 act, .string xk, .slice Ax nx cx, .int .i64 xlo, .int .i64 xhi, .int .i64 xn]), Reg.eqv (.agg #[.int .i64 pst, .string pk, .int .i64 pkd, .slice Ap np cp, .int .i64 plo, .int .i64 phi, .int .i64 pva]), Reg.eqv (.agg #[.int .i64 qst, .string qk, .int .i64 qkd, .slice Aq nq cq, .int .i64 qlo, .int .i64 qhi, .int .i64 qva]), Reg.undoS ⟨oa, ok, ⟨os, oik, ⟨okd, oda, olo, ohi, ova⟩⟩, on⟩, Reg.eqv (.bool true), Reg.eqv (.bool true), Reg.eqv (.agg #[.int .i64 rs, .string rk, .int .i64 rkind, .slice A5 n5 c5, .int .i64 rlo, .int .i64 rhi, .int .i64 rval]), Reg.eqv (.agg #[.int .i64 rs, .string rk, .int .i64 rkind, .slice A7 n7 c7, .int .i64 rlo, .int .i64 rhi, .int .i64 rval]), Reg.eqv (.bool true), Reg.eqv (.bool true), Reg.eqv (.bool true), Reg.eqv (.int .i64 er), Reg.eqv (.int .i64 er), Reg.eqv (.int .i64 er), Reg.eqv (.bool true), Reg.eqv (.bool true), Reg.eqv (.bool true), Reg.eqv (.bool true), Reg.eqv (.bool true), Reg.eqv (.bool true)] 78 [[(5, none)], [(6, none)], [(7, none)], [(55, some 0), (56, some 1), (57, some 2)], [(5, none)], [(6, none)], [(7, none)], [(59, some 4), (60, some 5), (61, some 6)], [(58, some 3), (62, some 7)], [(63, some 8)], [(11, none), (64, some 9)], [(13, none), (64, some 9)], [(65, some 10), (66, some 11), (64, some 9)], [(64, some 9), (67, some 12)], [(68, some 13)], [(12, none), (69, some 14)], [(70, some 15), (69, some 14)], [(14, none), (69, some 14)], [(71, some 16), (72, some 17), (69, some 14)], [(69, some 14), (73, some 18)], [(74, some 19)], [(75, some 20)], [(75, some 20), (76, some 21)], [(77, some 22)]] rfl (by kernel_rfl) (by kernel_rfl) (by kernel_rfl) ?_ [some 55, some 56, some 57, some 58, some 59, some 60, some 61, some 62, some 63, some 64, some 65, some 66, some 67, some 68, some 69, some 70, some 71, some 72, some 73, some 74, some 75, some 76, some 77, some 10] (by kernel_rfl) ?_
  · refine ⟨?_, ?_, ?_, ?_, ?_, ?_, ?_, ?_, ?_, ?_, ?_, ?_, ?_, ?_, ?_, ?_, ?_, ?_, ?_, ?_, ?_, ?_, ?_, ?_, trivial⟩
    · intro ax wx hx hs
      obtain ⟨e5, -⟩ := hs
      have g5 := Reg.ev (v := .pointer (some ⟨w.heap.size, 0, none⟩)) e5
      obtain ⟨hc, -⟩ := bcell hx
      exact Reg.obl_free rfl (Reg.wp_eqv (Option.some_ne_none _) (by go_simp) rfl)
    · intro ax wx hx hs
      obtain ⟨e6, -⟩ := hs
      have g6 := Reg.ev (v := .pointer (some ⟨w.heap.size + 1, 0, none⟩)) e6
      obtain ⟨hc, -⟩ := bcell hx
      exact Reg.obl_free rfl (Reg.wp_eqv (Option.some_ne_none _) (by go_simp) rfl)
    · intro ax wx hx hs
      obtain ⟨e7, -⟩ := hs
      have g7 := Reg.ev (v := .pointer (some ⟨w.heap.size + 1 + 1, 0, none⟩)) e7
      obtain ⟨hc, -⟩ := bcell hx
      exact Reg.obl_free rfl (Reg.wp_eqv (Option.some_ne_none _) (by go_simp) rfl)
    · intro ax wx hx hs
      obtain ⟨e55, e56, e57, -⟩ := hs
      have g55 := Reg.ev (v := .agg #[.int .i64 act, .string xk, .slice Ax nx cx, .int .i64 xlo, .int .i64 xhi, .int .i64 xn]) e55
      have g56 := Reg.ev (v := .agg #[.int .i64 pst, .string pk, .int .i64 pkd, .slice Ap np cp, .int .i64 plo, .int .i64 phi, .int .i64 pva]) e56
      have g57 := Reg.ev (v := .agg #[.int .i64 qst, .string qk, .int .i64 qkd, .slice Aq nq cq, .int .i64 qlo, .int .i64 qhi, .int .i64 qva]) e57
      refine Reg.obl_free rfl ?_
      have hx' : Below W8.heap.size W8 wx := hx
      go_simp
      refine (HOA.out _ (bstep HB_8.out hx')).mono ?_
      rintro e wy ⟨A8, n8, c8, rfl, hy8, hby⟩
      exact Reg.done (Option.some_ne_none _) ⟨A8, n8, c8, rfl, hy8⟩ hby
    · intro ax wx hx hs
      obtain ⟨e5, -⟩ := hs
      have g5 := Reg.ev (v := .pointer (some ⟨w.heap.size, 0, none⟩)) e5
      obtain ⟨hc, -⟩ := bcell hx
      exact Reg.obl_free rfl (Reg.wp_eqv (Option.some_ne_none _) (by go_simp) rfl)
    · intro ax wx hx hs
      obtain ⟨e6, -⟩ := hs
      have g6 := Reg.ev (v := .pointer (some ⟨w.heap.size + 1, 0, none⟩)) e6
      obtain ⟨hc, -⟩ := bcell hx
      exact Reg.obl_free rfl (Reg.wp_eqv (Option.some_ne_none _) (by go_simp) rfl)
    · intro ax wx hx hs
      obtain ⟨e7, -⟩ := hs
      have g7 := Reg.ev (v := .pointer (some ⟨w.heap.size + 1 + 1, 0, none⟩)) e7
      obtain ⟨hc, -⟩ := bcell hx
      exact Reg.obl_free rfl (Reg.wp_eqv (Option.some_ne_none _) (by go_simp) rfl)
    · intro ax wx hx hs
      obtain ⟨e59, e60, e61, -⟩ := hs
      have g59 := Reg.ev (v := .agg #[.int .i64 act, .string xk, .slice Ax nx cx, .int .i64 xlo, .int .i64 xhi, .int .i64 xn]) e59
      have g60 := Reg.ev (v := .agg #[.int .i64 pst, .string pk, .int .i64 pkd, .slice Ap np cp, .int .i64 plo, .int .i64 phi, .int .i64 pva]) e60
      have g61 := Reg.ev (v := .agg #[.int .i64 qst, .string qk, .int .i64 qkd, .slice Aq nq cq, .int .i64 qlo, .int .i64 qhi, .int .i64 qva]) e61
      refine Reg.obl_free rfl ?_
      have hx' : Below W8.heap.size W8 wx := hx
      go_simp
      refine (HOB.out _ (bstep HB_8.out hx')).mono ?_
      rintro e wy ⟨A8, n8, c8, rfl, hy8, hby⟩
      exact Reg.done (Option.some_ne_none _) ⟨A8, n8, c8, rfl, hy8⟩ hby
    · intro ax wx hx hs
      obtain ⟨e58, e62, -⟩ := hs
      refine Reg.obl_free rfl ?_
      have hx' : Below W8.heap.size W8 wx := hx
      obtain ⟨A8, n8, c8, e58, hy8⟩ := e58
      obtain ⟨A9, n9, c9, e62, hy9⟩ := e62
      have g58 := Reg.ev e58
      have g62 := Reg.ev e62
      dsimp only at *
      go_simp
      refine (UndoW.refSame_any oa ok A8 n8 c8 wx.heap.size os oik okd oda olo ohi ova on oa ok A9 n9 c9 wx.heap.size os oik okd oda olo ohi ova on _ hy8 (Nat.le_refl _) hy9 (Nat.le_refl _)).mono ?_
      rintro e wy ⟨rfl, hby⟩
      rw [UndoP.same_self]
      exact Reg.done (Option.some_ne_none _) rfl hby
    · intro ax wx hx hs
      obtain ⟨e63, -⟩ := hs
      have g63 := Reg.ev (v := .bool true) e63
      exact Reg.obl_free rfl (Reg.wp_eqv (Option.some_ne_none _) (by go_simp) rfl)
    · intro ax wx hx hs
      obtain ⟨e11, e64, -⟩ := hs
      have g11 := Reg.ev (v := .pointer (some ⟨W5.heap.size, 0, none⟩)) e11
      have g64 := Reg.ev (v := .bool true) e64
      obtain ⟨hc, -⟩ := bcell hx
      exact Reg.obl_want rfl rfl e64 (Reg.wp_eqv (Option.some_ne_none _) (by go_simp) rfl)
    · intro ax wx hx hs
      obtain ⟨e13, e64, -⟩ := hs
      have g13 := Reg.ev (v := .pointer (some ⟨W7.heap.size, 0, none⟩)) e13
      have g64 := Reg.ev (v := .bool true) e64
      obtain ⟨hc, -⟩ := bcell hx
      exact Reg.obl_want rfl rfl e64 (Reg.wp_eqv (Option.some_ne_none _) (by go_simp) rfl)
    · intro ax wx hx hs
      obtain ⟨e65, e66, e64, -⟩ := hs
      have g65 := Reg.ev (v := .agg #[.int .i64 rs, .string rk, .int .i64 rkind, .slice A5 n5 c5, .int .i64 rlo, .int .i64 rhi, .int .i64 rval]) e65
      have g66 := Reg.ev (v := .agg #[.int .i64 rs, .string rk, .int .i64 rkind, .slice A7 n7 c7, .int .i64 rlo, .int .i64 rhi, .int .i64 rval]) e66
      have g64 := Reg.ev (v := .bool true) e64
      refine Reg.obl_want rfl rfl e64 ?_
      have hx' : Below W8.heap.size W8 wx := hx
      go_simp
      refine (SlotW.refSame_any A5 A7 n5 c5 n7 c7 W8.heap.size W8.heap.size ⟨rs, rk, rkind, rdata, rlo, rhi, rval⟩ ⟨rs, rk, rkind, rdata, rlo, rhi, rval⟩ _ (HYy_8.out.below hx') (HYz_8.out.below hx') hx'.size hx'.size).mono ?_
      rintro e wy ⟨rfl, hby⟩
      rw [SlotP.same_self]
      exact Reg.done (Option.some_ne_none _) rfl hby
    · intro ax wx hx hs
      obtain ⟨e64, e67, -⟩ := hs
      have g64 := Reg.ev (v := .bool true) e64
      have g67 := Reg.ev (v := .bool true) e67
      exact Reg.obl_free rfl (Reg.wp_eqv (Option.some_ne_none _) (by go_simp) rfl)
    · intro ax wx hx hs
      obtain ⟨e68, -⟩ := hs
      have g68 := Reg.ev (v := .bool true) e68
      exact Reg.obl_free rfl (Reg.wp_eqv (Option.some_ne_none _) (by go_simp) rfl)
    · intro ax wx hx hs
      obtain ⟨e12, e69, -⟩ := hs
      have g12 := Reg.ev (v := .int .i64 er) e12
      have g69 := Reg.ev (v := .bool true) e69
      exact Reg.obl_want rfl rfl e69 (Reg.wp_eqv (Option.some_ne_none _) (by go_simp) rfl)
    · intro ax wx hx hs
      obtain ⟨e70, e69, -⟩ := hs
      have g70 := Reg.ev (v := .int .i64 er) e70
      have g69 := Reg.ev (v := .bool true) e69
      refine Reg.obl_want rfl rfl e69 ?_
      go_simp
      refine (Live17.code_any _ _).mono ?_
      rintro e wy ⟨rfl, rfl⟩
      exact Reg.done (Option.some_ne_none _) rfl (bsame _)
    · intro ax wx hx hs
      obtain ⟨e14, e69, -⟩ := hs
      have g14 := Reg.ev (v := .int .i64 er) e14
      have g69 := Reg.ev (v := .bool true) e69
      exact Reg.obl_want rfl rfl e69 (Reg.wp_eqv (Option.some_ne_none _) (by go_simp) rfl)
    · intro ax wx hx hs
      obtain ⟨e71, e72, e69, -⟩ := hs
      have g71 := Reg.ev (v := .int .i64 er) e71
      have g72 := Reg.ev (v := .int .i64 er) e72
      have g69 := Reg.ev (v := .bool true) e69
      exact Reg.obl_want rfl rfl e69 (Reg.wp_eqv (Option.some_ne_none _) (by go_simp) rfl)
    · intro ax wx hx hs
      obtain ⟨e69, e73, -⟩ := hs
      have g69 := Reg.ev (v := .bool true) e69
      have g73 := Reg.ev (v := .bool true) e73
      exact Reg.obl_free rfl (Reg.wp_eqv (Option.some_ne_none _) (by go_simp) rfl)
    · intro ax wx hx hs
      obtain ⟨e74, -⟩ := hs
      have g74 := Reg.ev (v := .bool true) e74
      exact Reg.obl_free rfl (Reg.wp_eqv (Option.some_ne_none _) (by go_simp) rfl)
    · intro ax wx hx hs
      obtain ⟨e75, -⟩ := hs
      have g75 := Reg.ev (v := .bool true) e75
      refine Reg.obl_want rfl rfl e75 ?_
      have hx' : Below W8.heap.size W8 wx := hx
      go_simp
      refine (Live17.live_any _).mono ?_
      rintro e wy ⟨rfl, hby⟩
      exact Reg.done (Option.some_ne_none _) rfl hby
    · intro ax wx hx hs
      obtain ⟨e75, e76, -⟩ := hs
      have g75 := Reg.ev (v := .bool true) e75
      have g76 := Reg.ev (v := .bool true) e76
      exact Reg.obl_free rfl (Reg.wp_eqv (Option.some_ne_none _) (by go_simp) rfl)
    · intro ax wx hx hs
      obtain ⟨e77, -⟩ := hs
      have g77 := Reg.ev (v := .bool true) e77
      exact Reg.obl_free rfl (Reg.wp_eqv (Option.some_ne_none _) (by go_simp) rfl)
  · intro W9 hwf
    simp only [Reg.Fin]
    rintro _ rfl _ rfl _ rfl v58 h58 _ rfl _ rfl _ rfl v62 h62 _ rfl _ rfl _ rfl _ rfl _ rfl _ rfl _ rfl _ rfl _ rfl _ rfl _ rfl _ rfl _ rfl _ rfl _ rfl _ rfl
    go_simp
    go_wp2_with fail
    go_ret
    exact ⟨rfl, bstep HB_8.out hwf⟩
end Go.Proofs.Ytjengjbkdflapaa.undoOfs
