/-
  The walk of the reference's Bytes: a number as bytes, by dividing.
-/
import Derived.Test.YtldgdgfplgdipaaProg
import Derived.Test.YtldgdgfplgdipaaBe
import Derived.Test.YtldgdgfplgdipaaPNum
namespace Go.Proofs.Ytldgdgfplgdipaa.RefBytes
open Go.RowKit
attribute [local go_sem ↓] app_fold

/-- what is left of a number when k bytes are gone -/
def sh (m : Int) (k : Nat) : Nat := BeP.u64 m / 256 ^ k
theorem sh_zero (m : Int) : sh m 0 = BeP.u64 m := by simp [sh]
theorem sh_succ (m : Int) (k : Nat) : sh m (k + 1) = sh m k / 256 := by
  unfold sh
  rw [Nat.div_div_eq_div_mul, Nat.pow_succ]
theorem sh_lt (m : Int) (k : Nat) : sh m k < 18446744073709551616 := Nat.lt_of_le_of_lt (Nat.div_le_self _ _) (NumP.u64_lt m)
theorem wrap_quo (q : Nat) (h : q < 18446744073709551616) : IntKind.u64.wrap ((q : Int) / 256) = ((q / 256 : Nat) : Int) := by
  have h2 : BeP.u64 ((q : Int) / 256) = q / 256 := by unfold BeP.u64; omega
  rw [BeP.u64_wrap, h2]
/-- what holds at a round's head -/
def Rel (w : World) (width : Nat) (m : Int) (u out i : Value) (wr : World) : Prop :=
  ∃ (k : Nat) (A : Option Addr) (c : Nat), k ≤ width ∧ i = .int .i64 k ∧ u = .int .u64 ((sh m k : Nat) : Int) ∧ out = .slice A k c ∧ Bytes wr wr.heap.size A k c ((BeP.parts width m).drop (width - k)) ∧ Below w.heap.size w wr

theorem drop_step (width : Nat) (m : Int) (k : Nat) (h : k < width) : (BeP.parts width m).drop (width - (k + 1)) = UInt8.ofNat (sh m k) :: (BeP.parts width m).drop (width - k) := by
  have hl : width - (k + 1) < (BeP.parts width m).length := by rw [BeP.parts_length]; omega
  rw [List.drop_eq_getElem_cons hl, show width - (k + 1) + 1 = width - k by omega]
  congr 1
  simp only [BeP.parts, List.getElem_map, List.getElem_range, BeP.part]
  have : (2 : Nat) ^ (8 * (width - 1 - (width - (k + 1)))) = 256 ^ k := by
    rw [show width - 1 - (width - (k + 1)) = k by omega, Nat.pow_mul]
  rw [this]
  rfl

set_option maxRecDepth 100000 in
set_option maxHeartbeats 1000000 in
theorem bytes_any (width : Nat) (m : Int) (w : World) (hw8 : width ≤ 8) :
    Calls Try.prog 45 #[.int .i64 (width : Int), .int .i64 m] w (GivesBytes w (BeP.parts width m)) := by
  obtain ⟨i0, hi, hz0, hz1, hz2⟩ := info_parts Be.infoU8
  have hw := BeP.u64_wrap m
  have h8 : decide ((width : Int) ≤ 8) = true := by simp; omega
  go_enter Try.func45, Try.ntmps45
  go_wp2
  go_loopw [5, 6, 7] (fun u out i wr => Rel w width m u out i wr) (fun _ _ i _ => width - (intOf i).toNat)
  case atStart => exact ⟨0, none, 0, Nat.zero_le _, rfl, by rw [sh_zero], rfl, by rw [List.drop_eq_nil_of_le (by rw [BeP.parts_length]; omega)]; exact Bytes.none_ w _, bsame w⟩
  case round =>
    obtain ⟨k, A, c, hk, rfl, rfl, rfl, hby, hb⟩ := hrel
    have HBY := Lib.hid hby
    have HB := Lib.hid hb
    clear hby hb hw
    by_cases hlt : k < width
    · have HD := Lib.hid (drop_step width m k hlt)
      have HP := Lib.hid (sh_succ m k)
      have HQ := Lib.hid (wrap_quo _ (sh_lt m k))
      obtain ⟨q, hq⟩ : ∃ q, sh m k = q := ⟨_, rfl⟩
      rw [hq] at HD HP HQ ⊢
      clear hq
      have hv : Value.int .u8 ((q : Int) % 256) = byteV (UInt8.ofNat q) := by
        unfold byteV
        have : (UInt8.ofNat q).toNat = q % 256 := by simp
        rw [this]
        simp
      have hown0 : (wr.alloc (.cells #[.int .u8 ((q : Int) % 256)] 5)).ownsRow w.heap.size 5 1 (.slice (some ⟨wr.heap.size, 0, none⟩) 1 1) 1 [byteV (UInt8.ofNat q)] :=
        ⟨rfl, .inr ⟨_, _, _, rfl, HB.out.size, heap_alloc_new wr _, Nat.le_refl _, by decide, rfl, by simp [hv]⟩⟩
      clear hv
      obtain ⟨v', w', happ, hown, hgrow⟩ := run_append_bytes (P := Try.prog) (wr.alloc (.cells #[.int .u8 ((q : Int) % 256)] 5)) w.heap.size 22 22 5 i0 _ Try.underlying22 hi hz0 hz1 hz2 rfl _ 1 _ hown0 wr.heap.size A k c _ (HBY.out.alloc (Nat.le_refl _) _) (by omega) (by have := HB.out.size; simp; omega)
      have hbw : Below w.heap.size w w' := (balloc HB.out _).grown hgrow (by have := HB.out.size; simp; omega) (own_block hown0)
      obtain ⟨A', n', c', rfl, hby'⟩ := Bytes.of_own (l := UInt8.ofNat q :: (BeP.parts width m).drop (width - k)) (by simpa using hown)
      have HBW := Lib.hid hbw
      have HBY' := Lib.hid hby'
      have HN := Lib.hid hby'.len
      clear hown0 hown hgrow hbw hby'
      go_wp2
      go_roundw
      case rel =>
        have hn : n' = k + 1 := by have := HN.out; simp [BeP.parts_length] at this; omega
        subst hn
        refine ⟨k + 1, A', c', by omega, by go_num, ?_, rfl, ?_, HBW.out⟩
        · rw [HP.out]
          exact congrArg (Value.int .u64) HQ.out
        · rw [HD.out]
          exact HBY'.out
      case measure => simp [intOf]; omega
    · go_wp2
      go_ret
      have hk' : width - k = 0 := by omega
      have := HBY.out
      rw [hk', List.drop_zero] at this
      exact ⟨A, k, c, rfl, this, HB.out⟩
end Go.Proofs.Ytldgdgfplgdipaa.RefBytes
