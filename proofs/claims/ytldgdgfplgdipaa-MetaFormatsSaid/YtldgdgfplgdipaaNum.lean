/-
  The walks of be.Num and of the reference's At: the number of some bytes.
-/
import Derived.Test.YtldgdgfplgdipaaProg
import Derived.Test.YtldgdgfplgdipaaBe
import Derived.Test.YtldgdgfplgdipaaPNum
namespace Go.Proofs.Ytldgdgfplgdipaa.NumW
open Go.RowKit

theorem val_no (l : List UInt8) (a width : Nat) (h : ¬ a + width ≤ l.length) : NumP.val l a width = 0 := by simp [NumP.val, h]
theorem val_yes (l : List UInt8) (a width : Nat) (h : a + width ≤ l.length) : NumP.val l a width = NumP.toI (NumP.num ((l.drop a).take width)) := by simp [NumP.val, h]
theorem there_no (l : List UInt8) (a width : Nat) (h : ¬ a + width ≤ l.length) : NumP.there l a width = false := by simp [NumP.there, h]
theorem there_yes (l : List UInt8) (a width : Nat) (h : a + width ≤ l.length) : NumP.there l a width = true := by simp [NumP.there, h]
theorem take_step (l : List UInt8) (a k : Nat) (h : a + k < l.length) : NumP.num ((l.drop a).take (k + 1)) = NumP.num ((l.drop a).take k) * 256 + (l[a + k]).toNat := by
  have hl : k < (l.drop a).length := by simp; omega
  rw [List.take_succ_eq_append_getElem hl, NumP.num_snoc]
  simp
theorem take_lt (l : List UInt8) (a k : Nat) (h : k ≤ 7) : NumP.num ((l.drop a).take k) < 72057594037927936 := NumP.num_lt7 _ (by simp; omega)

theorem or_join (x u : Nat) (hx : x < 72057594037927936) (hu : u < 256) : bits .or .u64 ((x : Int) * 256) (u : Int) = ((x * 256 + u : Nat) : Int) := by
  have e : (x : Int) * 256 = ((x * 256 : Nat) : Int) := by omega
  rw [e, u64_or_nat (x * 256) u (by omega) (by omega), nat_join 8 (x * 256) u (by omega) (by omega)]
theorem wrap_toI (u : Nat) (h : u < 18446744073709551616) : wrap64 (u : Int) = NumP.toI u := by
  unfold wrap64 NumP.toI
  split <;> omega

set_option maxHeartbeats 1000000 in
theorem num_any (A : Option Addr) (n c B a width : Nat) (l : List UInt8) (w : World) (h : Bytes w B A n c l) (ha : a ≤ 4611686018427387904) (hw1 : 1 ≤ width) (hw8 : width ≤ 8) :
    Calls Try.prog 59 #[.slice A n c, .int .i64 (a : Int), .int .i64 (width : Int)] w fun e w' => e = .returned (.tuple #[.int .i64 (NumP.val l a width), .bool (NumP.there l a width)]) ∧ w = w' := by
  have hn := Nat.le_trans h.2.1 h.2.2.1
  have hc1 := h.2.1
  have hc2 := h.2.2.1
  unfold maxLen at hn hc2
  have hl := h.len
  have hwd : (decide ((1 : Int) ≤ (width : Int)) && decide ((width : Int) ≤ 8)) = true := by simp; omega
  by_cases hin : a + width ≤ n
  · obtain ⟨b, o, rfl, hb, hcell⟩ := h.2.2.2 (by omega)
    have HC := Lib.hid hcell
    have HL := Lib.hid hl
    have HV := Lib.hid (val_yes l a width (by omega))
    have HT := Lib.hid (there_yes l a width (by omega))
    rw [HV.out, HT.out]
    clear hcell h hl
    have d1 : decide ((a : Int) < 0) = false := by simp
    have d2 : decide (n < a) = false := by simp; omega
    have d3 : decide ((n : Int) - (a : Int) < (width : Int)) = false := by simp; omega
    have d4 : a + width - a = width := by omega
    go_enter Try.func59, Try.ntmps59
    go_wp2_with (go_at_call 66; refine (Be.wide_any _ _).mono ?_; rintro e w' ⟨rfl, rfl⟩)
    go_loop [8, 42] (fun v i => ∃ k : Nat, k ≤ width ∧ i = .int .i64 k ∧ v = .int .u64 ((NumP.num ((l.drop a).take k) : Nat) : Int)) (fun _ i => width - (intOf i).toNat)
    case atStart => exact ⟨0, Nat.zero_le _, rfl, by simp [NumP.num]⟩
    case round =>
      obtain ⟨k, hk, rfl, rfl⟩ := hrel
      by_cases hlt : k < width
      · have hlk : a + k < l.length := by rw [HL.out]; omega
        have hcell : w.cell? ⟨b, o + a + k, none⟩ = some (.int .u8 ((l[a + k]'hlk).toNat : Int)) := by
          rw [Nat.add_assoc]
          exact HC.out (a + k) _ (List.getElem?_eq_getElem hlk)
        have HS := Lib.hid (take_step l a k hlk)
        have hx := take_lt l a k (by omega)
        generalize hg : NumP.num ((l.drop a).take k) = x at *
        have HG := Lib.hid hg
        clear hg
        have hu := (l[a + k]'hlk).toNat_lt
        generalize (l[a + k]'hlk).toNat = u at *
        go_wp2
        go_round
        case rel => refine ⟨k + 1, by omega, by go_num, ?_⟩; rw [HS.out, or_join x u hx (by omega)]
        case measure => simp [intOf]; omega
      · obtain rfl : k = width := by omega
        have hx := NumP.num_lt8 ((l.drop a).take k) (by simp; omega)
        have HW := Lib.hid (wrap_toI _ hx)
        go_wp2
        go_ret2
        rw [← HW.out]
        exact ⟨rfl, rfl⟩
  · have HV := Lib.hid (val_no l a width (by omega))
    have HT := Lib.hid (there_no l a width (by omega))
    rw [HV.out, HT.out]
    clear h hl
    have d1 : ¬ (a : Int) < 0 := by omega
    by_cases hlt : n < a
    · have d2 : (n : Int) < (a : Int) := by omega
      go_enter Try.func59, Try.ntmps59
      go_wp2_with (go_at_call 66; refine (Be.wide_any _ _).mono ?_; rintro e w' ⟨rfl, rfl⟩)
      go_ret2
      exact ⟨rfl, rfl⟩
    · have d2 : ¬ (n : Int) < (a : Int) := by omega
      have d3 : (n : Int) - (a : Int) < (width : Int) := by omega
      go_enter Try.func59, Try.ntmps59
      go_wp2_with (go_at_call 66; refine (Be.wide_any _ _).mono ?_; rintro e w' ⟨rfl, rfl⟩)
      go_ret2
      exact ⟨rfl, rfl⟩

end Go.Proofs.Ytldgdgfplgdipaa.NumW
