/-
  The walks of package meta and of its reference: within, Check, Right, WithUsed, New.
-/
import Derived.Test.YtjengjbkdflapaaPMeta
import Derived.Test.YtjengjbkdflapaaPage
import Derived.Test.YtjengjbkdflapaaRefPage
import Derived.Test.YtjengjbkdflapaaRegP
namespace Go.Proofs.Ytjengjbkdflapaa.MetaW
open Go.RowKit
attribute [local go_sem ↓] alPage_fold ldPage_fold stPage_fold bdPage_fold slPage_fold

theorem within_any (n a b : Int) (w : World) : Calls Try.prog 98 #[.int .i64 n, .int .i64 a, .int .i64 b] w fun e w' => e = .returned (.bool (MetaP.within n a b)) ∧ w = w' := by
  unfold MetaP.within
  by_cases h : a ≤ n
  · go_enter Try.func98, Try.ntmps98
    go_wp2
    go_ret
    refine ⟨?_, rfl⟩
    simp [h]
  · go_enter Try.func98, Try.ntmps98
    go_wp2
    go_ret
    refine ⟨?_, rfl⟩
    simp
    omega
theorem code_any (n : Int) (w : World) : Calls Try.prog 63 #[.int .i64 n] w fun e w' => e = .returned (.int .i64 n) ∧ w = w' := by
  go_enter Try.func63, Try.ntmps63
  go_wp2
  go_ret
  exact ⟨rfl, rfl⟩

set_option maxHeartbeats 400000 in
theorem check_any (b p f c l : Int) (w : World) : Calls Try.prog 97 #[.agg #[.int .i64 b, .int .i64 p, .int .i64 f, .int .i64 c, .int .i64 l]] w fun e w' => e = .returned (.int .i64 (MetaP.check b p f c l)) ∧ Below w.heap.size w w' := by
  cases h0 : MetaP.within b 1 16
  case false =>
    have HK : Hid (MetaP.check b p f c l = 1) := Lib.hid (by simp [MetaP.check, MetaP.right, h0])
    rw [HK.out]
    go_enter Try.func97, Try.ntmps97
    go_wp2_with (go_at_call 98; refine (within_any _ _ _ _).mono ?_; rintro e w' ⟨rfl, rfl⟩; first | rw [h0] | rw [h1] | rw [h2] | rw [h3] | rw [h4])
    go_ret
    exact ⟨rfl, balloc (bsame w) _⟩
  case true =>
    have hb := (MetaP.within_iff _ _ _).1 h0
    cases h1 : MetaP.within p (b + 1) 1024
    case false =>
      have HK : Hid (MetaP.check b p f c l = 1) := Lib.hid (by simp [MetaP.check, MetaP.right, h0, h1])
      rw [HK.out]
      go_enter Try.func97, Try.ntmps97
      go_wp2_with (go_at_call 98; refine (within_any _ _ _ _).mono ?_; rintro e w' ⟨rfl, rfl⟩; first | rw [h0] | rw [h1] | rw [h2] | rw [h3] | rw [h4])
      go_ret
      exact ⟨rfl, balloc (bsame w) _⟩
    case true =>
      cases h2 : MetaP.within f 4 64
      case false =>
        have HK : Hid (MetaP.check b p f c l = 1) := Lib.hid (by simp [MetaP.check, MetaP.right, h0, h1, h2])
        rw [HK.out]
        go_enter Try.func97, Try.ntmps97
        go_wp2_with (go_at_call 98; refine (within_any _ _ _ _).mono ?_; rintro e w' ⟨rfl, rfl⟩; first | rw [h0] | rw [h1] | rw [h2] | rw [h3] | rw [h4])
        go_ret
        exact ⟨rfl, balloc (bsame w) _⟩
      case true =>
        cases h3 : MetaP.within c 1 16
        case false =>
          have HK : Hid (MetaP.check b p f c l = 1) := Lib.hid (by simp [MetaP.check, MetaP.right, h0, h1, h2, h3])
          rw [HK.out]
          go_enter Try.func97, Try.ntmps97
          go_wp2_with (go_at_call 98; refine (within_any _ _ _ _).mono ?_; rintro e w' ⟨rfl, rfl⟩; first | rw [h0] | rw [h1] | rw [h2] | rw [h3] | rw [h4])
          go_ret
          exact ⟨rfl, balloc (bsame w) _⟩
        case true =>
          cases h4 : MetaP.within l 4 1024
          case false =>
            have HK : Hid (MetaP.check b p f c l = 1) := Lib.hid (by simp [MetaP.check, MetaP.right, h0, h1, h2, h3, h4])
            rw [HK.out]
            go_enter Try.func97, Try.ntmps97
            go_wp2_with (go_at_call 98; refine (within_any _ _ _ _).mono ?_; rintro e w' ⟨rfl, rfl⟩; first | rw [h0] | rw [h1] | rw [h2] | rw [h3] | rw [h4])
            go_ret
            exact ⟨rfl, balloc (bsame w) _⟩
          case true =>
            have HK : Hid (MetaP.check b p f c l = 0) := Lib.hid (by simp [MetaP.check, MetaP.right, h0, h1, h2, h3, h4])
            rw [HK.out]
            go_enter Try.func97, Try.ntmps97
            go_wp2_with (go_at_call 98; refine (within_any _ _ _ _).mono ?_; rintro e w' ⟨rfl, rfl⟩; first | rw [h0] | rw [h1] | rw [h2] | rw [h3] | rw [h4])
            go_ret
            exact ⟨rfl, balloc (bsame w) _⟩

set_option maxHeartbeats 1000000 in
theorem right_any (b p f c l : Int) (w : World) : Calls Try.prog 99 #[.agg #[.int .i64 b, .int .i64 p, .int .i64 f, .int .i64 c, .int .i64 l]] w fun e w' => e = .returned (.bool (MetaP.right b p f c l)) ∧ Below w.heap.size w w' := by
  by_cases h0 : b < 1
  · have HK : Hid (MetaP.right b p f c l = false) := Lib.hid (by simp [MetaP.right, MetaP.within]; omega)
    rw [HK.out]
    go_enter Try.func99, Try.ntmps99
    go_wp2
    go_ret
    exact ⟨rfl, balloc (bsame w) _⟩
  by_cases h1 : 16 < b
  · have HK : Hid (MetaP.right b p f c l = false) := Lib.hid (by simp [MetaP.right, MetaP.within]; omega)
    rw [HK.out]
    go_enter Try.func99, Try.ntmps99
    go_wp2
    go_ret
    exact ⟨rfl, balloc (bsame w) _⟩
  by_cases h2 : p ≤ b
  · have HK : Hid (MetaP.right b p f c l = false) := Lib.hid (by simp [MetaP.right, MetaP.within]; omega)
    rw [HK.out]
    go_enter Try.func99, Try.ntmps99
    go_wp2
    go_ret
    exact ⟨rfl, balloc (bsame w) _⟩
  by_cases h3 : 1024 < p
  · have HK : Hid (MetaP.right b p f c l = false) := Lib.hid (by simp [MetaP.right, MetaP.within]; omega)
    rw [HK.out]
    go_enter Try.func99, Try.ntmps99
    go_wp2
    go_ret
    exact ⟨rfl, balloc (bsame w) _⟩
  by_cases h4 : 4 ≤ f
  case neg =>
    have HK : Hid (MetaP.right b p f c l = false) := Lib.hid (by simp [MetaP.right, MetaP.within]; omega)
    rw [HK.out]
    go_enter Try.func99, Try.ntmps99
    go_wp2
    go_ret
    exact ⟨rfl, balloc (bsame w) _⟩
  by_cases h5 : f ≤ 64
  case neg =>
    have HK : Hid (MetaP.right b p f c l = false) := Lib.hid (by simp [MetaP.right, MetaP.within]; omega)
    rw [HK.out]
    go_enter Try.func99, Try.ntmps99
    go_wp2
    go_ret
    exact ⟨rfl, balloc (bsame w) _⟩
  by_cases h6 : 1 ≤ c
  case neg =>
    have HK : Hid (MetaP.right b p f c l = false) := Lib.hid (by simp [MetaP.right, MetaP.within]; omega)
    rw [HK.out]
    go_enter Try.func99, Try.ntmps99
    go_wp2
    go_ret
    exact ⟨rfl, balloc (bsame w) _⟩
  by_cases h7 : c ≤ 16
  case neg =>
    have HK : Hid (MetaP.right b p f c l = false) := Lib.hid (by simp [MetaP.right, MetaP.within]; omega)
    rw [HK.out]
    go_enter Try.func99, Try.ntmps99
    go_wp2
    go_ret
    exact ⟨rfl, balloc (bsame w) _⟩
  by_cases h8 : 4 ≤ l
  case neg =>
    have HK : Hid (MetaP.right b p f c l = false) := Lib.hid (by simp [MetaP.right, MetaP.within]; omega)
    rw [HK.out]
    go_enter Try.func99, Try.ntmps99
    go_wp2
    go_ret
    exact ⟨rfl, balloc (bsame w) _⟩
  by_cases h9 : l ≤ 1024
  case neg =>
    have HK : Hid (MetaP.right b p f c l = false) := Lib.hid (by simp [MetaP.right, MetaP.within]; omega)
    rw [HK.out]
    go_enter Try.func99, Try.ntmps99
    go_wp2
    go_ret
    exact ⟨rfl, balloc (bsame w) _⟩
  have HK : Hid (MetaP.right b p f c l = true) := Lib.hid (by simp [MetaP.right, MetaP.within]; omega)
  rw [HK.out]
  go_enter Try.func99, Try.ntmps99
  go_wp2
  go_ret
  exact ⟨rfl, balloc (bsame w) _⟩

set_option maxRecDepth 100000 in
set_option maxHeartbeats 400000 in
theorem withUsed_any (l : List UInt8) (hl : l.length = 512) (m : Int) (w : World) : Calls Try.prog 62 #[.agg (rowV l), .int .i64 m] w fun e w' => e = .returned (.agg (rowV (SlotP.over l 14 (BeP.parts 2 m)))) ∧ Below w.heap.size w w' := by
  have hal := fun W => run_al (P := Try.prog) arrPage W
  have HLO : Hid ((SlotP.over l 14 (BeP.parts 2 m)).length = 512) := Lib.hid (by rw [SlotP.over_length _ _ _ (by rw [BeP.parts_length]; omega)]; exact hl)
  have hld := run_ld (P := Try.prog) arrPage ((Str.new w (rowV l) 51).alloc (.cells (rowV (SlotP.zeros 512)) 51)) hl
  go_enter Try.func62, Try.ntmps62
  go_wp2_with fail
  have hS1 : Str ((w.alloc (.cells (rowV l) 51)).alloc (.cells (rowV (SlotP.zeros 512)) 51)) (w.heap.size + 1) (rowV (SlotP.zeros 512)) := by
    have := Str.new (w.alloc (.cells (rowV l) 51)) (rowV (SlotP.zeros 512)) 51
    simpa using this
  refine (PageW.withNext_any l hl m _).mono ?_
  rintro e w1 ⟨rfl, hb⟩
  have hV1 := hS1.next hb
  have hst := run_st (P := Try.prog) arrPage hV1 (by rw [rowV_size]; exact SlotPut.zeros_len 512) HLO.out
  have HB7 := Lib.hid (below_setRow (bstep (balloc (balloc (bsame w) _) _) hb) (by omega : w.heap.size ≤ w.heap.size + 1) (rowV (SlotP.over l 14 (BeP.parts 2 m))))
  have HS7 := Lib.hid (hV1.setRow (cs' := rowV (SlotP.over l 14 (BeP.parts 2 m))))
  clear hS1 hV1 hb hld
  go_wp2_with fail
  exact bodyPost_ret (v := .agg (rowV (SlotP.over l 14 (BeP.parts 2 m)))) (results_arr arrPage Try.results62 _ HS7.out HLO.out rfl) rfl ⟨rfl, HB7.out⟩
end Go.Proofs.Ytjengjbkdflapaa.MetaW
