/-
  Parts of the proof of WalStays.
-/
import Derived.Test.YtpdfnlhhnodnjaaGreatWsG9
import Derived.Test.YtpdfnlhhnodnjaaGreatWsG8
import Derived.Test.YtpdfnlhhnodnjaaGreatWsG11
section
namespace Go.Proofs.YtpdfnlhhnodnjaaGreat
open Go.RowKit
set_option linter.unusedVariables false
/-- bytes as an element -/
def PartE : El (List UInt8) where
  size := 1
  pos := by decide
  rel w B vs l := ∃ A n c, vs = [.slice A n c] ∧ Bytes w B A n c l
  len := by rintro w B vs p ⟨A, n, c, rfl, _⟩; rfl
  one := by rintro w B vs p ⟨A, n, c, rfl, _⟩ v hv; simp only [List.mem_cons, List.not_mem_nil, or_false] at hv; rw [hv]; rfl
  sub := by rintro w w' B vs p hs ⟨A, n, c, e, h⟩; exact ⟨A, n, c, e, h.sub hs⟩
  more := by rintro w B B' vs p hB ⟨A, n, c, e, h⟩; exact ⟨A, n, c, e, h.more hB⟩
namespace ConcatW
attribute [local go_sem ↓] app_fold
set_option maxRecDepth 100000 in
set_option maxHeartbeats 1000000 in
theorem concat_row (ps : List Part) (b o cc : Nat) (w : World) (hlt : b < w.heap.size) (hcell : ∀ k (h : k < ps.length), w.cell? ⟨b, o + k, none⟩ = some (.slice (ps[k]).1 (ps[k]).2.1 (ps[k]).2.2.1)) (hY : ∀ p ∈ ps, Bytes w w.heap.size p.1 p.2.1 p.2.2.1 p.2.2.2) (hs : total ps ≤ 1099511627776) (hk : ps.length ≤ 100) :
    Calls Tryz.prog 67 #[.slice (some ⟨b, o, none⟩) ps.length cc] w (GivesNew w (all ps)) := by
  have HY := Lib.hid hY
  have HC := Lib.hid hcell
  clear hY hcell
  obtain ⟨m, hm⟩ : ∃ m, ps.length = m := ⟨_, rfl⟩
  rw [hm] at hk ⊢
  have HM := Lib.hid hm
  clear hm
  go_enter Tryz.func67, Tryz.ntmps67
  go_wp2
  go_loopw [3, 11] (fun s i wr => ∃ k : Nat, k ≤ m ∧ i = .int .i64 (k : Int) ∧ s = .int .i64 (total (ps.take k) : Int) ∧ w = wr) (fun _ i _ => m - (intOf i).toNat)
  case atStart => exact ⟨0, Nat.zero_le _, rfl, rfl, rfl⟩
  case round =>
    obtain ⟨k, hkm, rfl, rfl, rfl⟩ := hrel
    by_cases hlt2 : k < m
    · have hx := HC.out k (by have := HM.out; omega)
      have HT := Lib.hid (total_succ ps k (by have := HM.out; omega))
      have hle := total_le ps (k + 1)
      rw [HT.out] at hle
      generalize hp : ps[k]'(by have := HM.out; omega) = p at *
      generalize total (ps.take k) = tk at *
      obtain ⟨A, n, c, l⟩ := p
      dsimp only at *
      go_wp2
      go_roundw
      case rel => exact ⟨k + 1, by omega, by go_num, by rw [HT.out]; simp, by simp⟩
      case measure => simp [intOf]; omega
    · have hkm' : m = k := by omega
      subst hkm'
      have ht : total (ps.take m) = total ps := by rw [List.take_of_length_le (by have := HM.out; omega)]
      rw [ht]
      go_wp2_with (go_at_call 96; refine (grow_any _ hs _).mono ?_; rintro e w1 ⟨A1, c1, rfl, hO1, hb1⟩)
      have HO1 := Lib.hid hO1
      have HB1 := Lib.hid hb1
      clear hO1 hb1 ht hkm hlt2
      go_loopw [6, 27] (fun s i wr => ∃ (k : Nat) (A : Option Addr) (n c : Nat), k ≤ m ∧ i = .int .i64 (k : Int) ∧ s = .slice A n c ∧ n = total (ps.take k) ∧ Own wr w.heap.size A n c (all (ps.take k)) ∧ Below w.heap.size w wr) (fun _ i _ => m - (intOf i).toNat)
      case atStart => exact ⟨0, A1, 0, c1, Nat.zero_le _, rfl, rfl, rfl, HO1.out, HB1.out⟩
      case round =>
        obtain ⟨k, A, n, c, hkm, rfl, rfl, hn, hO, hB⟩ := hrel
        by_cases hlt2 : k < m
        · have hkl : k < ps.length := by have := HM.out; omega
          have hy := (HY.out _ (List.getElem_mem hkl)).below (hB.mono (Nat.le_refl _))
          have hx : wr.cell? ⟨b, o + k, none⟩ = some (.slice (ps[k]).1 (ps[k]).2.1 (ps[k]).2.2.1) := (hB.cell (p := ⟨b, o + k, none⟩) hlt).trans (HC.out k hkl)
          have ht := total_succ ps k hkl
          have hle := total_le ps (k + 1)
          rw [ht, ← hn] at hle
          rw [← hn] at ht
          have HT := Lib.hid ht
          have HAL := Lib.hid (all_succ ps k hkl)
          generalize hp : ps[k] = p at *
          obtain ⟨A2, n2, c2, l2⟩ := p
          dsimp only at *
          obtain ⟨A3, c3, w3, happ3, hO3, hb3⟩ := hO.app hy (by omega) hB.size
          have HO3 := Lib.hid hO3
          have HB3 := Lib.hid (hB.trans hb3)
          have hws := hB.size
          have hltr : b < wr.heap.size := by omega
          clear hn ht hO hB hy hO3 hb3 hp hle
          go_wp2
          go_roundw
          case rel => exact ⟨k + 1, A3, n + n2, c3, by omega, by go_num, rfl, HT.out.symm, by rw [HAL.out]; exact HO3.out, HB3.out⟩
          case measure => simp [intOf]; omega
        · have hkm' : m = k := by omega
          subst hkm'
          rw [List.take_of_length_le (by have := HM.out; omega)] at hO
          have HO := Lib.hid hO
          have HB := Lib.hid hB
          clear hn hO hB
          go_wp2
          go_ret
          exact ⟨A, n, c, rfl, own_above HO.out, HB.out⟩
theorem parts_of {w : World} {B : Nat} : ∀ {vs : List (List Value)} {ls : List (List UInt8)}, Rel2 (PartE.rel w B) vs ls → ∃ ps : List Part, ps.length = ls.length ∧ all ps = ls.flatten ∧ (∀ p ∈ ps, Bytes w B p.1 p.2.1 p.2.2.1 p.2.2.2) ∧ (∀ k (h : k < ps.length), vs.flatten[k]? = some (partV ps[k])) ∧ total ps = ls.flatten.length
  | [], [], _ => ⟨[], rfl, rfl, (fun p hp => absurd hp (List.not_mem_nil)), (fun k h => absurd h (Nat.not_lt_zero _)), rfl⟩
  | v :: vs, l :: ls, h => by
    obtain ⟨⟨A, n, c, e, hy⟩, h2⟩ := h
    obtain ⟨ps, h3, h4, h5, h6, h7⟩ := parts_of h2
    refine ⟨(A, n, c, l) :: ps, by simp [h3], ?_, ?_, ?_, ?_⟩
    · show l ++ all ps = _
      rw [h4]; rfl
    · intro p hp
      rcases List.mem_cons.1 hp with rfl | hp
      · exact hy
      · exact h5 p hp
    · intro k hk
      rw [e]
      cases k with
      | zero => rfl
      | succ k => exact h6 k (by simpa using hk)
    · show n + total ps = _
      rw [h7, List.flatten_cons, List.length_append, hy.len]
  | [], _ :: _, h => h.elim
  | _ :: _, [], h => h.elim
theorem concat_new (ps : List Part) (b : Nat) (w : World) (hS : Str w b (ps.map partV).toArray) (hY : ∀ p ∈ ps, Bytes w w.heap.size p.1 p.2.1 p.2.2.1 p.2.2.2) (hs : total ps ≤ 1099511627776) (hk : ps.length ≤ 100) :
    Calls Tryz.prog 67 #[.slice (some ⟨b, 0, none⟩) ps.length ps.length] w (GivesNew w (all ps)) :=
  concat_row ps b 0 ps.length w hS.lt (fun k h => by rw [Nat.zero_add, hS.cell]; simp [h, partV]) hY hs hk
theorem concat_elems (A : Option Addr) (n c B : Nat) (ls : List (List UInt8)) (w : World) (h : Elems PartE w B A n c ls) (hB : B ≤ w.heap.size) (hn : 0 < n) (hs : ls.flatten.length ≤ 1099511627776) (hk : n ≤ 100) :
    Calls Tryz.prog 67 #[.slice A n c] w (GivesNew w ls.flatten) := by
  obtain ⟨vs, hr, hl, hc, hm, hx⟩ := h
  obtain ⟨b, o, rfl, hb, hcell⟩ := hx hn
  obtain ⟨ps, h3, h4, h5, h6, h7⟩ := parts_of hr
  have := concat_row ps b o c w (Nat.lt_of_lt_of_le hb hB) (fun k hk => hcell k _ (h6 k hk)) (fun p hp => (h5 p hp).more hB) (by rw [h7]; exact hs) (by omega)
  rw [h3, hl, h4] at this
  exact this
end ConcatW
end Go.Proofs.YtpdfnlhhnodnjaaGreat
end
section
namespace Go.Proofs.YtpdfnlhhnodnjaaGreat.UndoF
open Go.RowKit UndoW
set_option linter.unusedVariables false
attribute [local go_sem ↓] app_fold al64_fold ld64_fold st64_fold bd64_fold sl64_fold
set_option maxRecDepth 100000 in
set_option maxHeartbeats 1000000 in
theorem put0 (Ab : Option Addr) (nb cb Bb : Nat) (lb : List UInt8) (puk : ByteArray) (Ap : Option Addr) (np cp Bp : Nat) (pst : Int) (pk : ByteArray) (pkd : Int) (pda : List UInt8) (plo phi pva : Int) (pun : Int) (w : World) (hb : Bytes w Bb Ab nb cb lb) (hBb : Bb ≤ w.heap.size) (hnb : nb ≤ 1000000000) (hp : Bytes w Bp Ap np cp pda) (hBp : Bp ≤ w.heap.size) (hpk : pk.size ≤ maxLen) (huk : puk.size ≤ maxLen) (hr : UndoP.right ⟨0, puk, ⟨pst, pk, ⟨pkd, pda, plo, phi, pva⟩⟩, pun⟩ = true) : Calls Tryz.prog 42 #[.slice Ab nb cb, .agg #[.int .i64 0, .string puk, .int .i64 pst, .string pk, .int .i64 pkd, .slice Ap np cp, .int .i64 plo, .int .i64 phi, .int .i64 pva, .int .i64 pun]] w (GivesNew w (lb ++ UndoP.bytes ⟨0, puk, ⟨pst, pk, ⟨pkd, pda, plo, phi, pva⟩⟩, pun⟩)) := by
  have Hp := Lib.hid hp
  have Hb := Lib.hid hb
  have HR := Lib.hid hr
  clear hp hb hr
  have HE : Hid (UndoP.bytes ⟨0, puk, ⟨pst, pk, ⟨pkd, pda, plo, phi, pva⟩⟩, pun⟩ = [0]) := Lib.hid (by rw [UndoP.bytes, if_pos HR.out]; rfl)
  rw [HE.out]
  go_enter Tryz.func42, Tryz.ntmps42
  go_wp2_with fail
  generalize hW0 : (w).alloc (.cells #[.int .i64 0, .string puk, .int .i64 pst, .string pk, .int .i64 pkd, .slice Ap np cp, .int .i64 plo, .int .i64 phi, .int .i64 pva, .int .i64 pun] 38) = W0
  have HS0_0 : Hid (Str W0 (w.heap.size) #[.int .i64 0, .string puk, .int .i64 pst, .string pk, .int .i64 pkd, .slice Ap np cp, .int .i64 plo, .int .i64 phi, .int .i64 pva, .int .i64 pun]) := Lib.hid (by rw [← hW0]; have := Str.new (w) #[.int .i64 0, .string puk, .int .i64 pst, .string pk, .int .i64 pkd, .slice Ap np cp, .int .i64 plo, .int .i64 phi, .int .i64 pva, .int .i64 pun] 38; simpa using this)
  have HB_0 : Hid (Below w.heap.size w W0) := Lib.hid (by rw [← hW0]; exact balloc (bsame w) _)
  have hw_0 := HB_0.out.size
  clear hW0
  obtain ⟨f0_0_0, f0_0_1, f0_0_2, f0_0_3, f0_0_4, f0_0_5, f0_0_6, f0_0_7, f0_0_8, f0_0_9⟩ := str10 HS0_0.out
  have hl0_0 := HS0_0.out.lt
  have HYb_0 := Lib.hid ((Hb.out.below (HB_0.out.mono hBb)).more (Nat.le_trans hBb HB_0.out.size))
  refine (check_any _ _ _ _ _ _ _ _ _ pda _ _ _ _ _ (Hp.out.below (HB_0.out.mono hBp)) (by omega) hpk huk).mono ?_
  rintro e W1 ⟨rfl, hb1⟩
  rw [HR.out]
  rw [show CellP.code true = 0 from rfl]
  have HS0_1 := Lib.hid (HS0_0.out.next hb1)
  have HB_1 := Lib.hid (bstep HB_0.out hb1)
  have hw_1 := HB_1.out.size
  have hws_1 := (hb1).size
  have HYb_1 := Lib.hid (HYb_0.out.next hb1)
  clear HYb_0
  clear f0_0_0 f0_0_1 f0_0_2 f0_0_3 f0_0_4 f0_0_5 f0_0_6 f0_0_7 f0_0_8 f0_0_9 HS0_0
  clear hb1
  obtain ⟨f0_1_0, f0_1_1, f0_1_2, f0_1_3, f0_1_4, f0_1_5, f0_1_6, f0_1_7, f0_1_8, f0_1_9⟩ := str10 HS0_1.out
  have hl0_1 := HS0_1.out.lt
  go_wp2_with fail
  generalize hW2 : W1.alloc (.cells #[.int .u8 0] 5) = W2
  have HS0_2 : Hid (Str W2 (w.heap.size) #[.int .i64 0, .string puk, .int .i64 pst, .string pk, .int .i64 pkd, .slice Ap np cp, .int .i64 plo, .int .i64 phi, .int .i64 pva, .int .i64 pun]) := Lib.hid (by rw [← hW2]; exact HS0_1.out.alloc _)
  have HS1_2 : Hid (Str W2 W1.heap.size #[.int .u8 0]) := Lib.hid (by rw [← hW2]; exact Str.new W1 #[.int .u8 0] 5)
  have hba2 : Below W1.heap.size W1 W2 := by rw [← hW2]; exact balloc (bsame _) _
  have HB_2 := Lib.hid (bstep HB_1.out hba2)
  have hw_2 := HB_2.out.size
  have hws_2 := hba2.size
  have HYb_2 := Lib.hid (HYb_1.out.next hba2)
  clear HYb_1
  have hz2 : W2.heap.size = W1.heap.size + 1 := by rw [← hW2]; simp
  clear hW2
  clear f0_1_0 f0_1_1 f0_1_2 f0_1_3 f0_1_4 f0_1_5 f0_1_6 f0_1_7 f0_1_8 f0_1_9 HS0_1
  obtain ⟨f0_2_0, f0_2_1, f0_2_2, f0_2_3, f0_2_4, f0_2_5, f0_2_6, f0_2_7, f0_2_8, f0_2_9⟩ := str10 HS0_2.out
  have hl0_2 := HS0_2.out.lt
  have f1_2_0 := str1 HS1_2.out
  have hl1_2 := HS1_2.out.lt
  clear hba2
  have HYd_2 := Lib.hid (HS1_2.out.lit [0] rfl (by decide))
  generalize hW3 : W2.alloc (.cells #[.slice Ab nb cb, .slice (some ⟨W1.heap.size, 0, none⟩) 1 1] 32) = W3
  have HS0_3 : Hid (Str W3 (w.heap.size) #[.int .i64 0, .string puk, .int .i64 pst, .string pk, .int .i64 pkd, .slice Ap np cp, .int .i64 plo, .int .i64 phi, .int .i64 pva, .int .i64 pun]) := Lib.hid (by rw [← hW3]; exact HS0_2.out.alloc _)
  have HS1_3 : Hid (Str W3 (W1.heap.size) #[.int .u8 0]) := Lib.hid (by rw [← hW3]; exact HS1_2.out.alloc _)
  have HS2_3 : Hid (Str W3 W2.heap.size #[.slice Ab nb cb, .slice (some ⟨W1.heap.size, 0, none⟩) 1 1]) := Lib.hid (by rw [← hW3]; exact Str.new W2 #[.slice Ab nb cb, .slice (some ⟨W1.heap.size, 0, none⟩) 1 1] 32)
  have hba3 : Below W2.heap.size W2 W3 := by rw [← hW3]; exact balloc (bsame _) _
  have HB_3 := Lib.hid (bstep HB_2.out hba3)
  have hw_3 := HB_3.out.size
  have hws_3 := hba3.size
  have HYb_3 := Lib.hid (HYb_2.out.next hba3)
  have HYd_3 := Lib.hid (HYd_2.out.next hba3)
  clear HYb_2 HYd_2
  clear hW3
  clear f0_2_0 f0_2_1 f0_2_2 f0_2_3 f0_2_4 f0_2_5 f0_2_6 f0_2_7 f0_2_8 f0_2_9 HS0_2 f1_2_0 HS1_2
  obtain ⟨f0_3_0, f0_3_1, f0_3_2, f0_3_3, f0_3_4, f0_3_5, f0_3_6, f0_3_7, f0_3_8, f0_3_9⟩ := str10 HS0_3.out
  have hl0_3 := HS0_3.out.lt
  have f1_3_0 := str1 HS1_3.out
  have hl1_3 := HS1_3.out.lt
  obtain ⟨f2_3_0, f2_3_1⟩ := str2 HS2_3.out
  have hl2_3 := HS2_3.out.lt
  clear hba3
  rw [← hz2]
  have hps : ∀ p ∈ ([(Ab, nb, cb, lb), ((some ⟨W1.heap.size, 0, none⟩), 1, 1, [0])] : List ConcatW.Part), Bytes W3 W3.heap.size p.1 p.2.1 p.2.2.1 p.2.2.2 := by
    intro p hp
    simp only [List.mem_cons, List.not_mem_nil, or_false] at hp
    rcases hp with rfl | rfl
    · exact HYb_3.out
    · exact HYd_3.out
  refine (ConcatW.concat_new [(Ab, nb, cb, lb), ((some ⟨W1.heap.size, 0, none⟩), 1, 1, [0])] _ _ HS2_3.out hps (by simp [ConcatW.total]; omega) (by simp)).mono ?_
  rintro e W4 ⟨A9, n9, c9, rfl, hy9, hb9⟩
  have HY9 := Lib.hid hy9
  clear hy9 hps
  go_wp2_with fail
  go_ret
  refine ⟨A9, n9, c9, rfl, ?_, bstep HB_3.out hb9⟩
  have h9 := HY9.out.sub (above_less hw_3)
  simp only [ConcatW.all, List.flatMap_cons, List.flatMap_nil, List.append_nil] at h9
  exact h9

set_option maxRecDepth 100000 in
set_option maxHeartbeats 1000000 in
theorem put1 (Ab : Option Addr) (nb cb Bb : Nat) (lb : List UInt8) (puk : ByteArray) (Ap : Option Addr) (np cp Bp : Nat) (pst : Int) (pk : ByteArray) (pkd : Int) (pda : List UInt8) (plo phi pva : Int) (pun : Int) (w : World) (hb : Bytes w Bb Ab nb cb lb) (hBb : Bb ≤ w.heap.size) (hnb : nb ≤ 1000000000) (hp : Bytes w Bp Ap np cp pda) (hBp : Bp ≤ w.heap.size) (hpk : pk.size ≤ maxLen) (huk : puk.size ≤ maxLen) (hr : UndoP.right ⟨1, puk, ⟨pst, pk, ⟨pkd, pda, plo, phi, pva⟩⟩, pun⟩ = true) : Calls Tryz.prog 42 #[.slice Ab nb cb, .agg #[.int .i64 1, .string puk, .int .i64 pst, .string pk, .int .i64 pkd, .slice Ap np cp, .int .i64 plo, .int .i64 phi, .int .i64 pva, .int .i64 pun]] w (GivesNew w (lb ++ UndoP.bytes ⟨1, puk, ⟨pst, pk, ⟨pkd, pda, plo, phi, pva⟩⟩, pun⟩)) := by
  have Hp := Lib.hid hp
  have Hb := Lib.hid hb
  have HR := Lib.hid hr
  clear hp hb hr
  have HE : Hid (UndoP.bytes ⟨1, puk, ⟨pst, pk, ⟨pkd, pda, plo, phi, pva⟩⟩, pun⟩ = [1, UInt8.ofNat puk.size] ++ (puk.data.toList ++ SlotP.bytes ⟨pst, pk, ⟨pkd, pda, plo, phi, pva⟩⟩)) := Lib.hid (by rw [UndoP.bytes, if_pos HR.out]; rfl)
  rw [HE.out]
  have hks := KeyP.right_size puk (UndoP.right_key _ (by simp) HR.out)
  have hkm : ((puk.size : Int) % 256) = (puk.size : Int) := by omega
  have hkb : ((UInt8.ofNat puk.size).toNat : Int) = (puk.size : Int) := by simp; omega
  have HKB := Lib.hid hkb
  clear hkb
  go_enter Tryz.func42, Tryz.ntmps42
  go_wp2_with fail
  generalize hW0 : (w).alloc (.cells #[.int .i64 1, .string puk, .int .i64 pst, .string pk, .int .i64 pkd, .slice Ap np cp, .int .i64 plo, .int .i64 phi, .int .i64 pva, .int .i64 pun] 38) = W0
  have HS0_0 : Hid (Str W0 (w.heap.size) #[.int .i64 1, .string puk, .int .i64 pst, .string pk, .int .i64 pkd, .slice Ap np cp, .int .i64 plo, .int .i64 phi, .int .i64 pva, .int .i64 pun]) := Lib.hid (by rw [← hW0]; have := Str.new (w) #[.int .i64 1, .string puk, .int .i64 pst, .string pk, .int .i64 pkd, .slice Ap np cp, .int .i64 plo, .int .i64 phi, .int .i64 pva, .int .i64 pun] 38; simpa using this)
  have HB_0 : Hid (Below w.heap.size w W0) := Lib.hid (by rw [← hW0]; exact balloc (bsame w) _)
  have hw_0 := HB_0.out.size
  clear hW0
  obtain ⟨f0_0_0, f0_0_1, f0_0_2, f0_0_3, f0_0_4, f0_0_5, f0_0_6, f0_0_7, f0_0_8, f0_0_9⟩ := str10 HS0_0.out
  have hl0_0 := HS0_0.out.lt
  have HYb_0 := Lib.hid ((Hb.out.below (HB_0.out.mono hBb)).more (Nat.le_trans hBb HB_0.out.size))
  refine (check_any _ _ _ _ _ _ _ _ _ pda _ _ _ _ _ (Hp.out.below (HB_0.out.mono hBp)) (by omega) hpk huk).mono ?_
  rintro e W1 ⟨rfl, hb1⟩
  rw [HR.out]
  rw [show CellP.code true = 0 from rfl]
  have HS0_1 := Lib.hid (HS0_0.out.next hb1)
  have HB_1 := Lib.hid (bstep HB_0.out hb1)
  have hw_1 := HB_1.out.size
  have hws_1 := (hb1).size
  have HYb_1 := Lib.hid (HYb_0.out.next hb1)
  clear HYb_0
  clear f0_0_0 f0_0_1 f0_0_2 f0_0_3 f0_0_4 f0_0_5 f0_0_6 f0_0_7 f0_0_8 f0_0_9 HS0_0
  clear hb1
  obtain ⟨f0_1_0, f0_1_1, f0_1_2, f0_1_3, f0_1_4, f0_1_5, f0_1_6, f0_1_7, f0_1_8, f0_1_9⟩ := str10 HS0_1.out
  have hl0_1 := HS0_1.out.lt
  go_wp2_with fail
  generalize hW2 : W1.alloc (.cells #[.int .u8 1] 5) = W2
  have HS0_2 : Hid (Str W2 (w.heap.size) #[.int .i64 1, .string puk, .int .i64 pst, .string pk, .int .i64 pkd, .slice Ap np cp, .int .i64 plo, .int .i64 phi, .int .i64 pva, .int .i64 pun]) := Lib.hid (by rw [← hW2]; exact HS0_1.out.alloc _)
  have HS1_2 : Hid (Str W2 W1.heap.size #[.int .u8 1]) := Lib.hid (by rw [← hW2]; exact Str.new W1 #[.int .u8 1] 5)
  have hba2 : Below W1.heap.size W1 W2 := by rw [← hW2]; exact balloc (bsame _) _
  have HB_2 := Lib.hid (bstep HB_1.out hba2)
  have hw_2 := HB_2.out.size
  have hws_2 := hba2.size
  have HYb_2 := Lib.hid (HYb_1.out.next hba2)
  clear HYb_1
  have hz2 : W2.heap.size = W1.heap.size + 1 := by rw [← hW2]; simp
  clear hW2
  clear f0_1_0 f0_1_1 f0_1_2 f0_1_3 f0_1_4 f0_1_5 f0_1_6 f0_1_7 f0_1_8 f0_1_9 HS0_1
  obtain ⟨f0_2_0, f0_2_1, f0_2_2, f0_2_3, f0_2_4, f0_2_5, f0_2_6, f0_2_7, f0_2_8, f0_2_9⟩ := str10 HS0_2.out
  have hl0_2 := HS0_2.out.lt
  have f1_2_0 := str1 HS1_2.out
  have hl1_2 := HS1_2.out.lt
  clear hba2
  have HYd_2 := Lib.hid (HS1_2.out.lit [1] rfl (by decide))
  obtain ⟨A3, c3, W3, happ3, hO3, hb3⟩ := (Own.one W2 W2.heap.size (Nat.le_refl _) (UInt8.ofNat puk.size)).appStr puk (by omega) (by simp)
  have hb3' : Below W2.heap.size W2 W3 := ((Below.refl _ W2).alloc (Nat.le_refl _) _).trans hb3
  rw [HKB.out, hz2] at happ3
  clear hb3
  have HS0_3 := Lib.hid (HS0_2.out.next hb3')
  have HS1_3 := Lib.hid (HS1_2.out.next hb3')
  have HB_3 := Lib.hid (bstep HB_2.out hb3')
  have hw_3 := HB_3.out.size
  have hws_3 := (hb3').size
  have HYb_3 := Lib.hid (HYb_2.out.next hb3')
  have HYd_3 := Lib.hid (HYd_2.out.next hb3')
  clear HYb_2 HYd_2
  clear f0_2_0 f0_2_1 f0_2_2 f0_2_3 f0_2_4 f0_2_5 f0_2_6 f0_2_7 f0_2_8 f0_2_9 HS0_2 f1_2_0 HS1_2
  clear hb3'
  obtain ⟨f0_3_0, f0_3_1, f0_3_2, f0_3_3, f0_3_4, f0_3_5, f0_3_6, f0_3_7, f0_3_8, f0_3_9⟩ := str10 HS0_3.out
  have hl0_3 := HS0_3.out.lt
  have f1_3_0 := str1 HS1_3.out
  have hl1_3 := HS1_3.out.lt
  have HYn_3 := Lib.hid (hO3.bytes)
  clear hO3
  go_simp
  go_wp2_with fail
  clear happ3
  refine (SlotPut.put_any Ap np cp Bp ⟨pst, pk, ⟨pkd, pda, plo, phi, pva⟩⟩ _ (Hp.out.below (HB_3.out.mono hBp)) (by omega) hpk).mono ?_
  rintro e W4 ⟨rfl, hb4⟩
  have HS0_4 := Lib.hid (HS0_3.out.next hb4)
  have HS1_4 := Lib.hid (HS1_3.out.next hb4)
  have HB_4 := Lib.hid (bstep HB_3.out hb4)
  have hw_4 := HB_4.out.size
  have hws_4 := (hb4).size
  have HYb_4 := Lib.hid (HYb_3.out.next hb4)
  have HYd_4 := Lib.hid (HYd_3.out.next hb4)
  have HYn_4 := Lib.hid (HYn_3.out.next hb4)
  clear HYb_3 HYd_3 HYn_3
  clear f0_3_0 f0_3_1 f0_3_2 f0_3_3 f0_3_4 f0_3_5 f0_3_6 f0_3_7 f0_3_8 f0_3_9 HS0_3 f1_3_0 HS1_3
  clear hb4
  obtain ⟨f0_4_0, f0_4_1, f0_4_2, f0_4_3, f0_4_4, f0_4_5, f0_4_6, f0_4_7, f0_4_8, f0_4_9⟩ := str10 HS0_4.out
  have hl0_4 := HS0_4.out.lt
  have f1_4_0 := str1 HS1_4.out
  have hl1_4 := HS1_4.out.lt
  have HLS := Lib.hid (SlotP.bytes_length ⟨pst, pk, ⟨pkd, pda, plo, phi, pva⟩⟩)
  have hal := fun W => run_al (P := Tryz.prog) arr64 W
  have hst4 := run_st (P := Tryz.prog) arr64 (Str.new W4 (rowV (SlotP.zeros 64)) 118) (by rw [rowV_size]; exact SlotPut.zeros_len 64) (HLS.out)
  obtain ⟨W5, hW5⟩ : ∃ W, (W4.alloc (.cells (rowV (SlotP.zeros 64)) 118)).setRow W4.heap.size (rowV (SlotP.bytes ⟨pst, pk, ⟨pkd, pda, plo, phi, pva⟩⟩)) = W := ⟨_, rfl⟩
  rw [hW5] at hst4
  have HS0_5 : Hid (Str W5 (w.heap.size) #[.int .i64 1, .string puk, .int .i64 pst, .string pk, .int .i64 pkd, .slice Ap np cp, .int .i64 plo, .int .i64 phi, .int .i64 pva, .int .i64 pun]) := Lib.hid (by rw [← hW5]; exact (HS0_4.out.alloc _).setRow_other (by omega))
  have HS1_5 : Hid (Str W5 (W1.heap.size) #[.int .u8 1]) := Lib.hid (by rw [← hW5]; exact (HS1_4.out.alloc _).setRow_other (by omega))
  have HS2_5 : Hid (Str W5 (W4.heap.size) (rowV (SlotP.bytes ⟨pst, pk, ⟨pkd, pda, plo, phi, pva⟩⟩))) := Lib.hid (by rw [← hW5]; exact (Str.new W4 (rowV (SlotP.zeros 64)) 118).setRow)
  have hba5 : Below W4.heap.size W4 W5 := by rw [← hW5]; exact below_setRow (balloc (bsame _) _) (Nat.le_refl _) _
  have HB_5 := Lib.hid (bstep HB_4.out hba5)
  have hw_5 := HB_5.out.size
  have hws_5 := hba5.size
  have HYb_5 := Lib.hid (HYb_4.out.next hba5)
  have HYd_5 := Lib.hid (HYd_4.out.next hba5)
  have HYn_5 := Lib.hid (HYn_4.out.next hba5)
  clear HYb_4 HYd_4 HYn_4
  clear hW5 hba5
  clear f0_4_0 f0_4_1 f0_4_2 f0_4_3 f0_4_4 f0_4_5 f0_4_6 f0_4_7 f0_4_8 f0_4_9 HS0_4 f1_4_0 HS1_4
  obtain ⟨f0_5_0, f0_5_1, f0_5_2, f0_5_3, f0_5_4, f0_5_5, f0_5_6, f0_5_7, f0_5_8, f0_5_9⟩ := str10 HS0_5.out
  have hl0_5 := HS0_5.out.lt
  have f1_5_0 := str1 HS1_5.out
  have hl1_5 := HS1_5.out.lt
  have hl2_5 := HS2_5.out.lt
  have hsl := fun W => run_sl_all (P := Tryz.prog) arr64 W4.heap.size W
  have hpt := HS2_5.out.part 0 64 64 (by rw [HLS.out]; omega) (by omega) (by unfold maxLen; omega)
  rw [List.drop_zero, List.take_of_length_le (by rw [HLS.out]; omega)] at hpt
  have HYs_5 := Lib.hid (hpt)
  clear hpt
  go_wp2_with fail
  clear hst4 hal
  generalize hW6 : W5.alloc (.cells #[.slice Ab nb cb, .slice (some ⟨W1.heap.size, 0, none⟩) 1 1, .slice A3 (1 + puk.size) c3, .slice (some ⟨W4.heap.size, 0, none⟩) 64 64] 32) = W6
  have HS0_6 : Hid (Str W6 (w.heap.size) #[.int .i64 1, .string puk, .int .i64 pst, .string pk, .int .i64 pkd, .slice Ap np cp, .int .i64 plo, .int .i64 phi, .int .i64 pva, .int .i64 pun]) := Lib.hid (by rw [← hW6]; exact HS0_5.out.alloc _)
  have HS1_6 : Hid (Str W6 (W1.heap.size) #[.int .u8 1]) := Lib.hid (by rw [← hW6]; exact HS1_5.out.alloc _)
  have HS2_6 : Hid (Str W6 (W4.heap.size) (rowV (SlotP.bytes ⟨pst, pk, ⟨pkd, pda, plo, phi, pva⟩⟩))) := Lib.hid (by rw [← hW6]; exact HS2_5.out.alloc _)
  have HS3_6 : Hid (Str W6 W5.heap.size #[.slice Ab nb cb, .slice (some ⟨W1.heap.size, 0, none⟩) 1 1, .slice A3 (1 + puk.size) c3, .slice (some ⟨W4.heap.size, 0, none⟩) 64 64]) := Lib.hid (by rw [← hW6]; exact Str.new W5 #[.slice Ab nb cb, .slice (some ⟨W1.heap.size, 0, none⟩) 1 1, .slice A3 (1 + puk.size) c3, .slice (some ⟨W4.heap.size, 0, none⟩) 64 64] 32)
  have hba6 : Below W5.heap.size W5 W6 := by rw [← hW6]; exact balloc (bsame _) _
  have HB_6 := Lib.hid (bstep HB_5.out hba6)
  have hw_6 := HB_6.out.size
  have hws_6 := hba6.size
  have HYb_6 := Lib.hid (HYb_5.out.next hba6)
  have HYd_6 := Lib.hid (HYd_5.out.next hba6)
  have HYn_6 := Lib.hid (HYn_5.out.next hba6)
  have HYs_6 := Lib.hid (HYs_5.out.next hba6)
  clear HYb_5 HYd_5 HYn_5 HYs_5
  clear hW6
  clear f0_5_0 f0_5_1 f0_5_2 f0_5_3 f0_5_4 f0_5_5 f0_5_6 f0_5_7 f0_5_8 f0_5_9 HS0_5 f1_5_0 HS1_5 HS2_5
  obtain ⟨f0_6_0, f0_6_1, f0_6_2, f0_6_3, f0_6_4, f0_6_5, f0_6_6, f0_6_7, f0_6_8, f0_6_9⟩ := str10 HS0_6.out
  have hl0_6 := HS0_6.out.lt
  have f1_6_0 := str1 HS1_6.out
  have hl1_6 := HS1_6.out.lt
  have hl2_6 := HS2_6.out.lt
  obtain ⟨f3_6_0, f3_6_1, f3_6_2, f3_6_3⟩ := str4 HS3_6.out
  have hl3_6 := HS3_6.out.lt
  clear hba6
  have hps : ∀ p ∈ ([(Ab, nb, cb, lb), ((some ⟨W1.heap.size, 0, none⟩), 1, 1, [1]), (A3, (1 + puk.size), c3, ([UInt8.ofNat puk.size] ++ puk.data.toList)), ((some ⟨W4.heap.size, 0, none⟩), 64, 64, (SlotP.bytes ⟨pst, pk, ⟨pkd, pda, plo, phi, pva⟩⟩))] : List ConcatW.Part), Bytes W6 W6.heap.size p.1 p.2.1 p.2.2.1 p.2.2.2 := by
    intro p hp
    simp only [List.mem_cons, List.not_mem_nil, or_false] at hp
    rcases hp with rfl | rfl | rfl | rfl
    · exact HYb_6.out
    · exact HYd_6.out
    · exact HYn_6.out
    · exact HYs_6.out
  refine (ConcatW.concat_new [(Ab, nb, cb, lb), ((some ⟨W1.heap.size, 0, none⟩), 1, 1, [1]), (A3, (1 + puk.size), c3, ([UInt8.ofNat puk.size] ++ puk.data.toList)), ((some ⟨W4.heap.size, 0, none⟩), 64, 64, (SlotP.bytes ⟨pst, pk, ⟨pkd, pda, plo, phi, pva⟩⟩))] _ _ HS3_6.out hps (by simp [ConcatW.total]; omega) (by simp)).mono ?_
  rintro e W7 ⟨A9, n9, c9, rfl, hy9, hb9⟩
  have HY9 := Lib.hid hy9
  clear hy9 hps
  go_wp2_with fail
  go_ret
  refine ⟨A9, n9, c9, rfl, ?_, bstep HB_6.out hb9⟩
  have h9 := HY9.out.sub (above_less hw_6)
  simp only [ConcatW.all, List.flatMap_cons, List.flatMap_nil, List.append_nil] at h9
  simpa using h9

set_option maxRecDepth 100000 in
set_option maxHeartbeats 1000000 in
theorem put2 (Ab : Option Addr) (nb cb Bb : Nat) (lb : List UInt8) (puk : ByteArray) (Ap : Option Addr) (np cp Bp : Nat) (pst : Int) (pk : ByteArray) (pkd : Int) (pda : List UInt8) (plo phi pva : Int) (pun : Int) (w : World) (hb : Bytes w Bb Ab nb cb lb) (hBb : Bb ≤ w.heap.size) (hnb : nb ≤ 1000000000) (hp : Bytes w Bp Ap np cp pda) (hBp : Bp ≤ w.heap.size) (hpk : pk.size ≤ maxLen) (huk : puk.size ≤ maxLen) (hr : UndoP.right ⟨2, puk, ⟨pst, pk, ⟨pkd, pda, plo, phi, pva⟩⟩, pun⟩ = true) : Calls Tryz.prog 42 #[.slice Ab nb cb, .agg #[.int .i64 2, .string puk, .int .i64 pst, .string pk, .int .i64 pkd, .slice Ap np cp, .int .i64 plo, .int .i64 phi, .int .i64 pva, .int .i64 pun]] w (GivesNew w (lb ++ UndoP.bytes ⟨2, puk, ⟨pst, pk, ⟨pkd, pda, plo, phi, pva⟩⟩, pun⟩)) := by
  have Hp := Lib.hid hp
  have Hb := Lib.hid hb
  have HR := Lib.hid hr
  clear hp hb hr
  have HE : Hid (UndoP.bytes ⟨2, puk, ⟨pst, pk, ⟨pkd, pda, plo, phi, pva⟩⟩, pun⟩ = [2, UInt8.ofNat puk.size] ++ (puk.data.toList ++ BeP.parts 8 pun)) := Lib.hid (by rw [UndoP.bytes, if_pos HR.out]; rfl)
  rw [HE.out]
  have hks := KeyP.right_size puk (UndoP.right_key _ (by simp) HR.out)
  have hkm : ((puk.size : Int) % 256) = (puk.size : Int) := by omega
  have hkb : ((UInt8.ofNat puk.size).toNat : Int) = (puk.size : Int) := by simp; omega
  have HKB := Lib.hid hkb
  clear hkb
  go_enter Tryz.func42, Tryz.ntmps42
  go_wp2_with fail
  generalize hW0 : (w).alloc (.cells #[.int .i64 2, .string puk, .int .i64 pst, .string pk, .int .i64 pkd, .slice Ap np cp, .int .i64 plo, .int .i64 phi, .int .i64 pva, .int .i64 pun] 38) = W0
  have HS0_0 : Hid (Str W0 (w.heap.size) #[.int .i64 2, .string puk, .int .i64 pst, .string pk, .int .i64 pkd, .slice Ap np cp, .int .i64 plo, .int .i64 phi, .int .i64 pva, .int .i64 pun]) := Lib.hid (by rw [← hW0]; have := Str.new (w) #[.int .i64 2, .string puk, .int .i64 pst, .string pk, .int .i64 pkd, .slice Ap np cp, .int .i64 plo, .int .i64 phi, .int .i64 pva, .int .i64 pun] 38; simpa using this)
  have HB_0 : Hid (Below w.heap.size w W0) := Lib.hid (by rw [← hW0]; exact balloc (bsame w) _)
  have hw_0 := HB_0.out.size
  clear hW0
  obtain ⟨f0_0_0, f0_0_1, f0_0_2, f0_0_3, f0_0_4, f0_0_5, f0_0_6, f0_0_7, f0_0_8, f0_0_9⟩ := str10 HS0_0.out
  have hl0_0 := HS0_0.out.lt
  have HYb_0 := Lib.hid ((Hb.out.below (HB_0.out.mono hBb)).more (Nat.le_trans hBb HB_0.out.size))
  refine (check_any _ _ _ _ _ _ _ _ _ pda _ _ _ _ _ (Hp.out.below (HB_0.out.mono hBp)) (by omega) hpk huk).mono ?_
  rintro e W1 ⟨rfl, hb1⟩
  rw [HR.out]
  rw [show CellP.code true = 0 from rfl]
  have HS0_1 := Lib.hid (HS0_0.out.next hb1)
  have HB_1 := Lib.hid (bstep HB_0.out hb1)
  have hw_1 := HB_1.out.size
  have hws_1 := (hb1).size
  have HYb_1 := Lib.hid (HYb_0.out.next hb1)
  clear HYb_0
  clear f0_0_0 f0_0_1 f0_0_2 f0_0_3 f0_0_4 f0_0_5 f0_0_6 f0_0_7 f0_0_8 f0_0_9 HS0_0
  clear hb1
  obtain ⟨f0_1_0, f0_1_1, f0_1_2, f0_1_3, f0_1_4, f0_1_5, f0_1_6, f0_1_7, f0_1_8, f0_1_9⟩ := str10 HS0_1.out
  have hl0_1 := HS0_1.out.lt
  go_wp2_with fail
  generalize hW2 : W1.alloc (.cells #[.int .u8 2] 5) = W2
  have HS0_2 : Hid (Str W2 (w.heap.size) #[.int .i64 2, .string puk, .int .i64 pst, .string pk, .int .i64 pkd, .slice Ap np cp, .int .i64 plo, .int .i64 phi, .int .i64 pva, .int .i64 pun]) := Lib.hid (by rw [← hW2]; exact HS0_1.out.alloc _)
  have HS1_2 : Hid (Str W2 W1.heap.size #[.int .u8 2]) := Lib.hid (by rw [← hW2]; exact Str.new W1 #[.int .u8 2] 5)
  have hba2 : Below W1.heap.size W1 W2 := by rw [← hW2]; exact balloc (bsame _) _
  have HB_2 := Lib.hid (bstep HB_1.out hba2)
  have hw_2 := HB_2.out.size
  have hws_2 := hba2.size
  have HYb_2 := Lib.hid (HYb_1.out.next hba2)
  clear HYb_1
  have hz2 : W2.heap.size = W1.heap.size + 1 := by rw [← hW2]; simp
  clear hW2
  clear f0_1_0 f0_1_1 f0_1_2 f0_1_3 f0_1_4 f0_1_5 f0_1_6 f0_1_7 f0_1_8 f0_1_9 HS0_1
  obtain ⟨f0_2_0, f0_2_1, f0_2_2, f0_2_3, f0_2_4, f0_2_5, f0_2_6, f0_2_7, f0_2_8, f0_2_9⟩ := str10 HS0_2.out
  have hl0_2 := HS0_2.out.lt
  have f1_2_0 := str1 HS1_2.out
  have hl1_2 := HS1_2.out.lt
  clear hba2
  have HYd_2 := Lib.hid (HS1_2.out.lit [2] rfl (by decide))
  obtain ⟨A3, c3, W3, happ3, hO3, hb3⟩ := (Own.one W2 W2.heap.size (Nat.le_refl _) (UInt8.ofNat puk.size)).appStr puk (by omega) (by simp)
  have hb3' : Below W2.heap.size W2 W3 := ((Below.refl _ W2).alloc (Nat.le_refl _) _).trans hb3
  rw [HKB.out, hz2] at happ3
  clear hb3
  have HS0_3 := Lib.hid (HS0_2.out.next hb3')
  have HS1_3 := Lib.hid (HS1_2.out.next hb3')
  have HB_3 := Lib.hid (bstep HB_2.out hb3')
  have hw_3 := HB_3.out.size
  have hws_3 := (hb3').size
  have HYb_3 := Lib.hid (HYb_2.out.next hb3')
  have HYd_3 := Lib.hid (HYd_2.out.next hb3')
  clear HYb_2 HYd_2
  clear f0_2_0 f0_2_1 f0_2_2 f0_2_3 f0_2_4 f0_2_5 f0_2_6 f0_2_7 f0_2_8 f0_2_9 HS0_2 f1_2_0 HS1_2
  clear hb3'
  obtain ⟨f0_3_0, f0_3_1, f0_3_2, f0_3_3, f0_3_4, f0_3_5, f0_3_6, f0_3_7, f0_3_8, f0_3_9⟩ := str10 HS0_3.out
  have hl0_3 := HS0_3.out.lt
  have f1_3_0 := str1 HS1_3.out
  have hl1_3 := HS1_3.out.lt
  have HYn_3 := Lib.hid (hO3.bytes)
  clear hO3
  go_simp
  go_wp2_with fail
  clear happ3
  refine (Be.put_wide none 0 0 0 [] 8 pun _ (Bytes.none_ _ _) (Nat.zero_le _) (by omega) (by omega) (by omega)).mono ?_
  rintro e W4 ⟨A4, n4, c4, rfl, hy4, hb4⟩
  rw [List.nil_append] at hy4
  have hn4 : n4 = 8 := by rw [← hy4.len, BeP.parts_length]
  subst hn4
  have HS0_4 := Lib.hid (HS0_3.out.next hb4)
  have HS1_4 := Lib.hid (HS1_3.out.next hb4)
  have HB_4 := Lib.hid (bstep HB_3.out hb4)
  have hw_4 := HB_4.out.size
  have hws_4 := (hb4).size
  have HYb_4 := Lib.hid (HYb_3.out.next hb4)
  have HYd_4 := Lib.hid (HYd_3.out.next hb4)
  have HYn_4 := Lib.hid (HYn_3.out.next hb4)
  clear HYb_3 HYd_3 HYn_3
  clear f0_3_0 f0_3_1 f0_3_2 f0_3_3 f0_3_4 f0_3_5 f0_3_6 f0_3_7 f0_3_8 f0_3_9 HS0_3 f1_3_0 HS1_3
  clear hb4
  obtain ⟨f0_4_0, f0_4_1, f0_4_2, f0_4_3, f0_4_4, f0_4_5, f0_4_6, f0_4_7, f0_4_8, f0_4_9⟩ := str10 HS0_4.out
  have hl0_4 := HS0_4.out.lt
  have f1_4_0 := str1 HS1_4.out
  have hl1_4 := HS1_4.out.lt
  have HYs_4 := Lib.hid (hy4)
  clear hy4
  go_wp2_with fail
  generalize hW5 : W4.alloc (.cells #[.slice Ab nb cb, .slice (some ⟨W1.heap.size, 0, none⟩) 1 1, .slice A3 (1 + puk.size) c3, .slice A4 8 c4] 32) = W5
  have HS0_5 : Hid (Str W5 (w.heap.size) #[.int .i64 2, .string puk, .int .i64 pst, .string pk, .int .i64 pkd, .slice Ap np cp, .int .i64 plo, .int .i64 phi, .int .i64 pva, .int .i64 pun]) := Lib.hid (by rw [← hW5]; exact HS0_4.out.alloc _)
  have HS1_5 : Hid (Str W5 (W1.heap.size) #[.int .u8 2]) := Lib.hid (by rw [← hW5]; exact HS1_4.out.alloc _)
  have HS2_5 : Hid (Str W5 W4.heap.size #[.slice Ab nb cb, .slice (some ⟨W1.heap.size, 0, none⟩) 1 1, .slice A3 (1 + puk.size) c3, .slice A4 8 c4]) := Lib.hid (by rw [← hW5]; exact Str.new W4 #[.slice Ab nb cb, .slice (some ⟨W1.heap.size, 0, none⟩) 1 1, .slice A3 (1 + puk.size) c3, .slice A4 8 c4] 32)
  have hba5 : Below W4.heap.size W4 W5 := by rw [← hW5]; exact balloc (bsame _) _
  have HB_5 := Lib.hid (bstep HB_4.out hba5)
  have hw_5 := HB_5.out.size
  have hws_5 := hba5.size
  have HYb_5 := Lib.hid (HYb_4.out.next hba5)
  have HYd_5 := Lib.hid (HYd_4.out.next hba5)
  have HYn_5 := Lib.hid (HYn_4.out.next hba5)
  have HYs_5 := Lib.hid (HYs_4.out.next hba5)
  clear HYb_4 HYd_4 HYn_4 HYs_4
  clear hW5
  clear f0_4_0 f0_4_1 f0_4_2 f0_4_3 f0_4_4 f0_4_5 f0_4_6 f0_4_7 f0_4_8 f0_4_9 HS0_4 f1_4_0 HS1_4
  obtain ⟨f0_5_0, f0_5_1, f0_5_2, f0_5_3, f0_5_4, f0_5_5, f0_5_6, f0_5_7, f0_5_8, f0_5_9⟩ := str10 HS0_5.out
  have hl0_5 := HS0_5.out.lt
  have f1_5_0 := str1 HS1_5.out
  have hl1_5 := HS1_5.out.lt
  obtain ⟨f2_5_0, f2_5_1, f2_5_2, f2_5_3⟩ := str4 HS2_5.out
  have hl2_5 := HS2_5.out.lt
  clear hba5
  have hps : ∀ p ∈ ([(Ab, nb, cb, lb), ((some ⟨W1.heap.size, 0, none⟩), 1, 1, [2]), (A3, (1 + puk.size), c3, ([UInt8.ofNat puk.size] ++ puk.data.toList)), (A4, 8, c4, (BeP.parts 8 pun))] : List ConcatW.Part), Bytes W5 W5.heap.size p.1 p.2.1 p.2.2.1 p.2.2.2 := by
    intro p hp
    simp only [List.mem_cons, List.not_mem_nil, or_false] at hp
    rcases hp with rfl | rfl | rfl | rfl
    · exact HYb_5.out
    · exact HYd_5.out
    · exact HYn_5.out
    · exact HYs_5.out
  refine (ConcatW.concat_new [(Ab, nb, cb, lb), ((some ⟨W1.heap.size, 0, none⟩), 1, 1, [2]), (A3, (1 + puk.size), c3, ([UInt8.ofNat puk.size] ++ puk.data.toList)), (A4, 8, c4, (BeP.parts 8 pun))] _ _ HS2_5.out hps (by simp [ConcatW.total]; omega) (by simp)).mono ?_
  rintro e W6 ⟨A9, n9, c9, rfl, hy9, hb9⟩
  have HY9 := Lib.hid hy9
  clear hy9 hps
  go_wp2_with fail
  go_ret
  refine ⟨A9, n9, c9, rfl, ?_, bstep HB_5.out hb9⟩
  have h9 := HY9.out.sub (above_less hw_5)
  simp only [ConcatW.all, List.flatMap_cons, List.flatMap_nil, List.append_nil] at h9
  simpa using h9

set_option maxRecDepth 100000 in
set_option maxHeartbeats 1000000 in
theorem put3 (Ab : Option Addr) (nb cb Bb : Nat) (lb : List UInt8) (puk : ByteArray) (Ap : Option Addr) (np cp Bp : Nat) (pst : Int) (pk : ByteArray) (pkd : Int) (pda : List UInt8) (plo phi pva : Int) (pun : Int) (w : World) (hb : Bytes w Bb Ab nb cb lb) (hBb : Bb ≤ w.heap.size) (hnb : nb ≤ 1000000000) (hp : Bytes w Bp Ap np cp pda) (hBp : Bp ≤ w.heap.size) (hpk : pk.size ≤ maxLen) (huk : puk.size ≤ maxLen) (hr : UndoP.right ⟨3, puk, ⟨pst, pk, ⟨pkd, pda, plo, phi, pva⟩⟩, pun⟩ = true) : Calls Tryz.prog 42 #[.slice Ab nb cb, .agg #[.int .i64 3, .string puk, .int .i64 pst, .string pk, .int .i64 pkd, .slice Ap np cp, .int .i64 plo, .int .i64 phi, .int .i64 pva, .int .i64 pun]] w (GivesNew w (lb ++ UndoP.bytes ⟨3, puk, ⟨pst, pk, ⟨pkd, pda, plo, phi, pva⟩⟩, pun⟩)) := by
  have Hp := Lib.hid hp
  have Hb := Lib.hid hb
  have HR := Lib.hid hr
  clear hp hb hr
  have HE : Hid (UndoP.bytes ⟨3, puk, ⟨pst, pk, ⟨pkd, pda, plo, phi, pva⟩⟩, pun⟩ = [3, UInt8.ofNat puk.size] ++ (puk.data.toList ++ BeP.parts 8 pun)) := Lib.hid (by rw [UndoP.bytes, if_pos HR.out]; rfl)
  rw [HE.out]
  have hks := KeyP.right_size puk (UndoP.right_key _ (by simp) HR.out)
  have hkm : ((puk.size : Int) % 256) = (puk.size : Int) := by omega
  have hkb : ((UInt8.ofNat puk.size).toNat : Int) = (puk.size : Int) := by simp; omega
  have HKB := Lib.hid hkb
  clear hkb
  go_enter Tryz.func42, Tryz.ntmps42
  go_wp2_with fail
  generalize hW0 : (w).alloc (.cells #[.int .i64 3, .string puk, .int .i64 pst, .string pk, .int .i64 pkd, .slice Ap np cp, .int .i64 plo, .int .i64 phi, .int .i64 pva, .int .i64 pun] 38) = W0
  have HS0_0 : Hid (Str W0 (w.heap.size) #[.int .i64 3, .string puk, .int .i64 pst, .string pk, .int .i64 pkd, .slice Ap np cp, .int .i64 plo, .int .i64 phi, .int .i64 pva, .int .i64 pun]) := Lib.hid (by rw [← hW0]; have := Str.new (w) #[.int .i64 3, .string puk, .int .i64 pst, .string pk, .int .i64 pkd, .slice Ap np cp, .int .i64 plo, .int .i64 phi, .int .i64 pva, .int .i64 pun] 38; simpa using this)
  have HB_0 : Hid (Below w.heap.size w W0) := Lib.hid (by rw [← hW0]; exact balloc (bsame w) _)
  have hw_0 := HB_0.out.size
  clear hW0
  obtain ⟨f0_0_0, f0_0_1, f0_0_2, f0_0_3, f0_0_4, f0_0_5, f0_0_6, f0_0_7, f0_0_8, f0_0_9⟩ := str10 HS0_0.out
  have hl0_0 := HS0_0.out.lt
  have HYb_0 := Lib.hid ((Hb.out.below (HB_0.out.mono hBb)).more (Nat.le_trans hBb HB_0.out.size))
  refine (check_any _ _ _ _ _ _ _ _ _ pda _ _ _ _ _ (Hp.out.below (HB_0.out.mono hBp)) (by omega) hpk huk).mono ?_
  rintro e W1 ⟨rfl, hb1⟩
  rw [HR.out]
  rw [show CellP.code true = 0 from rfl]
  have HS0_1 := Lib.hid (HS0_0.out.next hb1)
  have HB_1 := Lib.hid (bstep HB_0.out hb1)
  have hw_1 := HB_1.out.size
  have hws_1 := (hb1).size
  have HYb_1 := Lib.hid (HYb_0.out.next hb1)
  clear HYb_0
  clear f0_0_0 f0_0_1 f0_0_2 f0_0_3 f0_0_4 f0_0_5 f0_0_6 f0_0_7 f0_0_8 f0_0_9 HS0_0
  clear hb1
  obtain ⟨f0_1_0, f0_1_1, f0_1_2, f0_1_3, f0_1_4, f0_1_5, f0_1_6, f0_1_7, f0_1_8, f0_1_9⟩ := str10 HS0_1.out
  have hl0_1 := HS0_1.out.lt
  go_wp2_with fail
  generalize hW2 : W1.alloc (.cells #[.int .u8 3] 5) = W2
  have HS0_2 : Hid (Str W2 (w.heap.size) #[.int .i64 3, .string puk, .int .i64 pst, .string pk, .int .i64 pkd, .slice Ap np cp, .int .i64 plo, .int .i64 phi, .int .i64 pva, .int .i64 pun]) := Lib.hid (by rw [← hW2]; exact HS0_1.out.alloc _)
  have HS1_2 : Hid (Str W2 W1.heap.size #[.int .u8 3]) := Lib.hid (by rw [← hW2]; exact Str.new W1 #[.int .u8 3] 5)
  have hba2 : Below W1.heap.size W1 W2 := by rw [← hW2]; exact balloc (bsame _) _
  have HB_2 := Lib.hid (bstep HB_1.out hba2)
  have hw_2 := HB_2.out.size
  have hws_2 := hba2.size
  have HYb_2 := Lib.hid (HYb_1.out.next hba2)
  clear HYb_1
  have hz2 : W2.heap.size = W1.heap.size + 1 := by rw [← hW2]; simp
  clear hW2
  clear f0_1_0 f0_1_1 f0_1_2 f0_1_3 f0_1_4 f0_1_5 f0_1_6 f0_1_7 f0_1_8 f0_1_9 HS0_1
  obtain ⟨f0_2_0, f0_2_1, f0_2_2, f0_2_3, f0_2_4, f0_2_5, f0_2_6, f0_2_7, f0_2_8, f0_2_9⟩ := str10 HS0_2.out
  have hl0_2 := HS0_2.out.lt
  have f1_2_0 := str1 HS1_2.out
  have hl1_2 := HS1_2.out.lt
  clear hba2
  have HYd_2 := Lib.hid (HS1_2.out.lit [3] rfl (by decide))
  obtain ⟨A3, c3, W3, happ3, hO3, hb3⟩ := (Own.one W2 W2.heap.size (Nat.le_refl _) (UInt8.ofNat puk.size)).appStr puk (by omega) (by simp)
  have hb3' : Below W2.heap.size W2 W3 := ((Below.refl _ W2).alloc (Nat.le_refl _) _).trans hb3
  rw [HKB.out, hz2] at happ3
  clear hb3
  have HS0_3 := Lib.hid (HS0_2.out.next hb3')
  have HS1_3 := Lib.hid (HS1_2.out.next hb3')
  have HB_3 := Lib.hid (bstep HB_2.out hb3')
  have hw_3 := HB_3.out.size
  have hws_3 := (hb3').size
  have HYb_3 := Lib.hid (HYb_2.out.next hb3')
  have HYd_3 := Lib.hid (HYd_2.out.next hb3')
  clear HYb_2 HYd_2
  clear f0_2_0 f0_2_1 f0_2_2 f0_2_3 f0_2_4 f0_2_5 f0_2_6 f0_2_7 f0_2_8 f0_2_9 HS0_2 f1_2_0 HS1_2
  clear hb3'
  obtain ⟨f0_3_0, f0_3_1, f0_3_2, f0_3_3, f0_3_4, f0_3_5, f0_3_6, f0_3_7, f0_3_8, f0_3_9⟩ := str10 HS0_3.out
  have hl0_3 := HS0_3.out.lt
  have f1_3_0 := str1 HS1_3.out
  have hl1_3 := HS1_3.out.lt
  have HYn_3 := Lib.hid (hO3.bytes)
  clear hO3
  go_simp
  go_wp2_with fail
  clear happ3
  refine (Be.put_wide none 0 0 0 [] 8 pun _ (Bytes.none_ _ _) (Nat.zero_le _) (by omega) (by omega) (by omega)).mono ?_
  rintro e W4 ⟨A4, n4, c4, rfl, hy4, hb4⟩
  rw [List.nil_append] at hy4
  have hn4 : n4 = 8 := by rw [← hy4.len, BeP.parts_length]
  subst hn4
  have HS0_4 := Lib.hid (HS0_3.out.next hb4)
  have HS1_4 := Lib.hid (HS1_3.out.next hb4)
  have HB_4 := Lib.hid (bstep HB_3.out hb4)
  have hw_4 := HB_4.out.size
  have hws_4 := (hb4).size
  have HYb_4 := Lib.hid (HYb_3.out.next hb4)
  have HYd_4 := Lib.hid (HYd_3.out.next hb4)
  have HYn_4 := Lib.hid (HYn_3.out.next hb4)
  clear HYb_3 HYd_3 HYn_3
  clear f0_3_0 f0_3_1 f0_3_2 f0_3_3 f0_3_4 f0_3_5 f0_3_6 f0_3_7 f0_3_8 f0_3_9 HS0_3 f1_3_0 HS1_3
  clear hb4
  obtain ⟨f0_4_0, f0_4_1, f0_4_2, f0_4_3, f0_4_4, f0_4_5, f0_4_6, f0_4_7, f0_4_8, f0_4_9⟩ := str10 HS0_4.out
  have hl0_4 := HS0_4.out.lt
  have f1_4_0 := str1 HS1_4.out
  have hl1_4 := HS1_4.out.lt
  have HYs_4 := Lib.hid (hy4)
  clear hy4
  go_wp2_with fail
  generalize hW5 : W4.alloc (.cells #[.slice Ab nb cb, .slice (some ⟨W1.heap.size, 0, none⟩) 1 1, .slice A3 (1 + puk.size) c3, .slice A4 8 c4] 32) = W5
  have HS0_5 : Hid (Str W5 (w.heap.size) #[.int .i64 3, .string puk, .int .i64 pst, .string pk, .int .i64 pkd, .slice Ap np cp, .int .i64 plo, .int .i64 phi, .int .i64 pva, .int .i64 pun]) := Lib.hid (by rw [← hW5]; exact HS0_4.out.alloc _)
  have HS1_5 : Hid (Str W5 (W1.heap.size) #[.int .u8 3]) := Lib.hid (by rw [← hW5]; exact HS1_4.out.alloc _)
  have HS2_5 : Hid (Str W5 W4.heap.size #[.slice Ab nb cb, .slice (some ⟨W1.heap.size, 0, none⟩) 1 1, .slice A3 (1 + puk.size) c3, .slice A4 8 c4]) := Lib.hid (by rw [← hW5]; exact Str.new W4 #[.slice Ab nb cb, .slice (some ⟨W1.heap.size, 0, none⟩) 1 1, .slice A3 (1 + puk.size) c3, .slice A4 8 c4] 32)
  have hba5 : Below W4.heap.size W4 W5 := by rw [← hW5]; exact balloc (bsame _) _
  have HB_5 := Lib.hid (bstep HB_4.out hba5)
  have hw_5 := HB_5.out.size
  have hws_5 := hba5.size
  have HYb_5 := Lib.hid (HYb_4.out.next hba5)
  have HYd_5 := Lib.hid (HYd_4.out.next hba5)
  have HYn_5 := Lib.hid (HYn_4.out.next hba5)
  have HYs_5 := Lib.hid (HYs_4.out.next hba5)
  clear HYb_4 HYd_4 HYn_4 HYs_4
  clear hW5
  clear f0_4_0 f0_4_1 f0_4_2 f0_4_3 f0_4_4 f0_4_5 f0_4_6 f0_4_7 f0_4_8 f0_4_9 HS0_4 f1_4_0 HS1_4
  obtain ⟨f0_5_0, f0_5_1, f0_5_2, f0_5_3, f0_5_4, f0_5_5, f0_5_6, f0_5_7, f0_5_8, f0_5_9⟩ := str10 HS0_5.out
  have hl0_5 := HS0_5.out.lt
  have f1_5_0 := str1 HS1_5.out
  have hl1_5 := HS1_5.out.lt
  obtain ⟨f2_5_0, f2_5_1, f2_5_2, f2_5_3⟩ := str4 HS2_5.out
  have hl2_5 := HS2_5.out.lt
  clear hba5
  have hps : ∀ p ∈ ([(Ab, nb, cb, lb), ((some ⟨W1.heap.size, 0, none⟩), 1, 1, [3]), (A3, (1 + puk.size), c3, ([UInt8.ofNat puk.size] ++ puk.data.toList)), (A4, 8, c4, (BeP.parts 8 pun))] : List ConcatW.Part), Bytes W5 W5.heap.size p.1 p.2.1 p.2.2.1 p.2.2.2 := by
    intro p hp
    simp only [List.mem_cons, List.not_mem_nil, or_false] at hp
    rcases hp with rfl | rfl | rfl | rfl
    · exact HYb_5.out
    · exact HYd_5.out
    · exact HYn_5.out
    · exact HYs_5.out
  refine (ConcatW.concat_new [(Ab, nb, cb, lb), ((some ⟨W1.heap.size, 0, none⟩), 1, 1, [3]), (A3, (1 + puk.size), c3, ([UInt8.ofNat puk.size] ++ puk.data.toList)), (A4, 8, c4, (BeP.parts 8 pun))] _ _ HS2_5.out hps (by simp [ConcatW.total]; omega) (by simp)).mono ?_
  rintro e W6 ⟨A9, n9, c9, rfl, hy9, hb9⟩
  have HY9 := Lib.hid hy9
  clear hy9 hps
  go_wp2_with fail
  go_ret
  refine ⟨A9, n9, c9, rfl, ?_, bstep HB_5.out hb9⟩
  have h9 := HY9.out.sub (above_less hw_5)
  simp only [ConcatW.all, List.flatMap_cons, List.flatMap_nil, List.append_nil] at h9
  simpa using h9

set_option maxRecDepth 100000 in
set_option maxHeartbeats 1000000 in
theorem put_new (Ab : Option Addr) (nb cb Bb : Nat) (lb : List UInt8) (pact : Int) (puk : ByteArray) (Ap : Option Addr) (np cp Bp : Nat) (pst : Int) (pk : ByteArray) (pkd : Int) (pda : List UInt8) (plo phi pva : Int) (pun : Int) (w : World) (hb : Bytes w Bb Ab nb cb lb) (hBb : Bb ≤ w.heap.size) (hnb : nb ≤ 1000000000) (hp : Bytes w Bp Ap np cp pda) (hBp : Bp ≤ w.heap.size) (hpk : pk.size ≤ maxLen) (huk : puk.size ≤ maxLen) (hr : UndoP.right ⟨pact, puk, ⟨pst, pk, ⟨pkd, pda, plo, phi, pva⟩⟩, pun⟩ = true) : Calls Tryz.prog 42 #[.slice Ab nb cb, .agg #[.int .i64 pact, .string puk, .int .i64 pst, .string pk, .int .i64 pkd, .slice Ap np cp, .int .i64 plo, .int .i64 phi, .int .i64 pva, .int .i64 pun]] w (GivesNew w (lb ++ UndoP.bytes ⟨pact, puk, ⟨pst, pk, ⟨pkd, pda, plo, phi, pva⟩⟩, pun⟩)) := by
  by_cases h0 : pact = 0
  · subst h0
    exact put0 Ab nb cb Bb lb puk Ap np cp Bp pst pk pkd pda plo phi pva pun w hb hBb hnb hp hBp hpk huk hr
  by_cases h1 : pact = 1
  · subst h1
    exact put1 Ab nb cb Bb lb puk Ap np cp Bp pst pk pkd pda plo phi pva pun w hb hBb hnb hp hBp hpk huk hr
  by_cases h2 : pact = 2
  · subst h2
    exact put2 Ab nb cb Bb lb puk Ap np cp Bp pst pk pkd pda plo phi pva pun w hb hBb hnb hp hBp hpk huk hr
  by_cases h3 : pact = 3
  · subst h3
    exact put3 Ab nb cb Bb lb puk Ap np cp Bp pst pk pkd pda plo phi pva pun w hb hBb hnb hp hBp hpk huk hr
  · simp [UndoP.right, h0, h1, h2, h3] at hr
end Go.Proofs.YtpdfnlhhnodnjaaGreat.UndoF
end
