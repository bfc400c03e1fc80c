/-
  The walks of the reference's sums: More, Seal, Good.
-/
import Derived.Test.YtjengjbkdflapaaCrc2
import Derived.Test.YtjengjbkdflapaaRefBytesO
import Derived.Test.YtjengjbkdflapaaSame
namespace Go.Proofs.Ytjengjbkdflapaa.RefCrc
open Go.RowKit CrcW
attribute [local go_sem ↓] app_fold cut_fold

theorem bits_snoc (k v : Nat) : CrcP.bits (k + 1) v = CrcP.bit (CrcP.bits k v) := by
  induction k generalizing v with
  | zero => rfl
  | succ k ih => rw [CrcP.bits, ih]; rfl
def Inner (w : World) (x : Nat) (v j : Value) (wr : World) : Prop := ∃ k : Nat, k ≤ 8 ∧ j = .int .i64 (k : Int) ∧ v = .int .u32 ((CrcP.bits k x : Nat) : Int) ∧ w = wr
def Outer (w : World) (u n : Nat) (l : List UInt8) (v i : Value) (wr : World) : Prop := ∃ k : Nat, k ≤ n ∧ i = .int .i64 (k : Int) ∧ v = .int .u32 ((st u l k : Nat) : Int) ∧ w = wr

set_option maxRecDepth 100000 in
set_option maxHeartbeats 1000000 in
theorem more_any (u : Nat) (hu : u < 4294967296) (A : Option Addr) (n c B : Nat) (l : List UInt8) (w : World) (h : Bytes w B A n c l) :
    Calls Try.prog 121 #[.int .u32 (u : Int), .slice A n c] w fun e w' => e = .returned (.int .u32 ((CrcP.more u l : Nat) : Int)) ∧ w = w' := by
  have hn := Nat.le_trans h.2.1 h.2.2.1
  unfold maxLen at hn
  have HLN := Lib.hid h.len
  have HY := Lib.hid h
  clear h
  go_enter Try.func121, Try.ntmps121
  go_wp2_with fail
  go_loopw [5, 6] (fun v i wr => Outer w u n l v i wr) (fun _ i _ => n - (intOf i).toNat)
  case atStart => exact ⟨0, Nat.zero_le _, rfl, congrArg (Value.int .u32) (by rw [st_zero]; omega), rfl⟩
  case round =>
    obtain ⟨k, hk, rfl, rfl, rfl⟩ := hrel
    by_cases hlt : k < n
    · have hkl : k < l.length := by rw [HLN.out]; exact hlt
      obtain ⟨b, o, rfl, hbB, hcell⟩ := HY.out.at_ hlt
      unfold byteV at hcell
      have HN := Lib.hid (st_succ u l k hkl)
      have hv := st_lt u l k
      generalize hc : l[k] = cb at *
      generalize hsv : st u l k = v at *
      clear hsv hc hkl
      have hcl := cb.toNat_lt
      have hcm : ((cb.toNat : Int) % 4294967296) = (cb.toNat : Int) := by omega
      have hx32 : bits .xor .u32 (v : Int) (cb.toNat : Int) = ((v ^^^ cb.toNat : Nat) : Int) := u32_xor_nat v cb.toNat hv (by omega)
      have hxl := CrcP.xor_byte_lt v hv cb
      have HX : Hid (CrcP.bits 8 (v ^^^ cb.toNat) = st u l (k + 1)) := Lib.hid (by rw [HN.out]; rfl)
      generalize v ^^^ cb.toNat = x at *
      go_wp2_with fail
      go_loopw [5, 7] (fun v j wr => Inner w x v j wr) (fun _ j _ => 8 - (intOf j).toNat)
      case atStart => exact ⟨0, by omega, rfl, rfl, rfl⟩
      case round =>
        obtain ⟨q, hq, rfl, rfl, rfl⟩ := hrel
        by_cases hq8 : q < 8
        · have hbl := CrcP.bits_lt q x hxl
          have HBS := Lib.hid (bits_snoc q x)
          generalize CrcP.bits q x = y at *
          go_wp2_with (go_at_call 132; refine (bit_any _ hbl _).mono ?_; rintro e w9 ⟨rfl, rfl⟩)
          go_roundw
          case rel => exact ⟨q + 1, by omega, by go_num, by rw [HBS.out], rfl⟩
          case measure => simp [intOf]; omega
        · have hq' : q = 8 := by omega
          subst hq'
          rw [HX.out]
          go_wp2_with fail
          go_roundw
          case rel => exact ⟨k + 1, by omega, by go_num, rfl, rfl⟩
          case measure => simp [intOf]; omega
    · have hv := st_lt u l k
      have HF : Hid ((4294967295 : Int) - ((st u l k : Nat) : Int) = ((CrcP.more u l : Nat) : Int)) := Lib.hid (by rw [st_all u l k (by rw [HLN.out]; omega)]; omega)
      generalize st u l k = v at *
      go_wp2_with fail
      go_ret
      exact ⟨congrArg (fun x => Ending.returned (.int .u32 x)) HF.out, rfl⟩

set_option maxRecDepth 100000 in
set_option maxHeartbeats 1000000 in
theorem seal_any (A : Option Addr) (n c B : Nat) (l : List UInt8) (w : World) (h : Bytes w B A n c l) (hB : B ≤ w.heap.size) (hn : n ≤ 1000000000) :
    Calls Try.prog 93 #[.slice A n c] w (GivesBytes w (BeP.parts 4 ((CrcP.sum l : Nat) : Int) ++ l)) := by
  have H := Lib.hid h
  have hs := CrcP.sum_lt l
  clear h
  go_enter Try.func93, Try.ntmps93
  go_wp2_with fail
  refine (more_any 0 (by omega) A n c B l _ H.out).mono ?_
  rintro e w1 ⟨rfl, rfl⟩
  obtain ⟨sm, hsm⟩ : ∃ sm, CrcP.sum l = sm := ⟨_, rfl⟩
  have hsm' : CrcP.more 0 l = sm := hsm
  rw [hsm'] 
  rw [hsm] at hs
  have HSM := Lib.hid hsm
  clear hsm hsm'
  go_wp2_with fail
  refine (RefBytesO.bytes_any 4 (sm : Int) _ (by omega)).mono ?_
  rintro e w2 ⟨A2, n2, c2, rfl, hO, hb2⟩
  have hn2 : n2 = 4 := by rw [← hO.len, BeP.parts_length]
  subst hn2
  obtain ⟨A3, c3, w3, happ, hO3, hb3⟩ := hO.app (H.out.below (hb2.mono hB)) (by omega) hb2.size
  have HO := Lib.hid hO3
  have HB := Lib.hid (hb2.trans hb3)
  clear hO hb2 hO3 hb3
  go_wp2_with fail
  go_ret
  rw [HSM.out]
  exact ⟨A3, _, c3, rfl, HO.out.bytes, HB.out⟩

set_option maxRecDepth 100000 in
set_option maxHeartbeats 1000000 in
theorem good_any (A : Option Addr) (n c B : Nat) (l : List UInt8) (w : World) (h : Bytes w B A n c l) (hn : 4 ≤ n) :
    Calls Try.prog 94 #[.slice A n c] w fun e w' => e = .returned (.bool (NumP.val l 0 4 == ((CrcP.sum (l.drop 4) : Nat) : Int))) ∧ w = w' := by
  have hcm := h.2.2.1
  have hnc := h.2.1
  unfold maxLen at hcm
  have H := Lib.hid h
  have hcut := h.cut 4 n c (by omega) (Nat.le_refl _) hnc (Nat.le_refl _)
  rw [List.take_of_length_le (by rw [List.length_drop, h.len]; omega)] at hcut
  have HCUT := Lib.hid hcut
  have hs := CrcP.sum_lt (l.drop 4)
  clear h hcut
  go_enter Try.func94, Try.ntmps94
  go_wp2_with fail
  refine (NumW.at_any A n c B 0 4 l _ H.out (by omega) (by omega) (by omega)).mono ?_
  rintro e w1 ⟨rfl, rfl⟩
  go_wp2_with fail
  refine (more_any 0 (by omega) _ _ _ _ _ _ HCUT.out).mono ?_
  rintro e w2 ⟨rfl, rfl⟩
  obtain ⟨sm, hsm⟩ : ∃ sm, CrcP.sum (l.drop 4) = sm := ⟨_, rfl⟩
  have hsm' : CrcP.more 0 (l.drop 4) = sm := hsm
  rw [hsm']
  rw [hsm] at hs
  have HSM := Lib.hid hsm
  clear hsm hsm'
  go_wp2_with fail
  go_ret
  rw [HSM.out]
  exact ⟨rfl, rfl⟩
end Go.Proofs.Ytjengjbkdflapaa.RefCrc
