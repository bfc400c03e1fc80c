/-
  Parts of the proof of PoolNils.
-/
import Derived.Test.YtcfieofcnpalgaaProg
import Derived.Test.YtcfieofcnpalgaaPoolG7
import Derived.Test.YtcfieofcnpalgaaPoolG9
import Derived.Test.YtcfieofcnpalgaaPoolG10
import Derived.Test.YtcfieofcnpalgaaPoolG1
import Derived.Test.YtcfieofcnpalgaaPoolG0
section
namespace Go.Proofs.Ytcfieofcnpalgaa.CellGet
open Go.RowKit
attribute [local go_sem ↓] app_fold cut_fold

/-- the call hands back this cell, this number, and this error's number -/
def GotCell (w : World) (r : Cell × Int × Int) (e : Ending) (w' : World) : Prop := ∃ A n cap, e = .returned (.tuple #[.agg #[.int .i64 r.1.kind, .slice A n cap, .int .i64 r.1.lo, .int .i64 r.1.hi, .int .i64 r.1.val], .int .i64 r.2.1, .int .i64 r.2.2]) ∧ Bytes w' w'.heap.size A n cap r.1.data ∧ Below w.heap.size w w'

set_option maxRecDepth 100000 in
set_option maxHeartbeats 1000000 in
theorem get_any (A : Option Addr) (n c B : Nat) (l : List UInt8) (w : World) (h : Bytes w B A n c l) (hB : B ≤ w.heap.size) :
    Calls Try.prog 70 #[.slice A n c] w (GotCell w (CellP.get l)) := by
  obtain ⟨i0, hi, hz0, hz1, hz2⟩ := info_parts Be.infoU8
  have hn := Nat.le_trans h.2.1 h.2.2.1
  have hl := h.len
  have hv1 := CellP.val_in l 0 1 (by omega)
  have H := Lib.hid h
  have HL := Lib.hid hl
  by_cases h0 : l.length < 1
  · have HG := Lib.hid (CellP.get_short l h0)
    rw [HG.out]
    have HT := Lib.hid (NumW.there_no l 0 1 (by omega))
    go_enter Try.func70, Try.ntmps70
    go_wp2_with fail
    refine (NumW.num_any A n c B 0 1 l _ (H.out.alloc hB _) (by omega) (by omega) (by omega)).mono ?_
    rintro e w1 ⟨rfl, rfl⟩
    rw [HT.out]
    go_wp2_with fail
    exact bodyPost_ret (v := .tuple #[.agg #[.int .i64 0, .slice none 0 0, .int .i64 0, .int .i64 0, .int .i64 0], .int .i64 0, .int .i64 13]) (by simp [results, Try.results70, go_sem]) rfl ⟨none, 0, 0, rfl, Bytes.none_ _ _, by repeat (first | refine Below.setCell ?_ (by simp) _ | exact balloc (bsame _) _)⟩
  · have HT := Lib.hid (NumW.there_yes l 0 1 (by omega))
    by_cases hk1 : NumP.val l 0 1 = 1
    · have HK := Lib.hid hk1
      by_cases h2 : l.length < 2
      · have HG := Lib.hid (CellP.get_rec_short l h0 hk1 (.inl h2))
        rw [HG.out]
        have HT2 := Lib.hid (NumW.there_no l 1 1 (by omega))
        have HV2 := Lib.hid (NumW.val_no l 1 1 (by omega))
        clear hk1
        go_enter Try.func70, Try.ntmps70
        go_wp2_with fail
        refine (NumW.num_any A n c B 0 1 l _ (H.out.alloc hB _) (by omega) (by omega) (by omega)).mono ?_
        rintro e w1 ⟨rfl, rfl⟩
        rw [HT.out, HK.out]
        go_wp2_with fail
        refine (NumW.num_any A n c B 1 1 l _ ((H.out.alloc hB _).alloc (by simp; omega) _) (by omega) (by omega) (by omega)).mono ?_
        rintro e w1 ⟨rfl, rfl⟩
        rw [HT2.out, HV2.out]
        go_wp2_with fail
        exact bodyPost_ret (v := .tuple #[.agg #[.int .i64 0, .slice none 0 0, .int .i64 0, .int .i64 0, .int .i64 0], .int .i64 0, .int .i64 13]) (by simp [results, Try.results70, go_sem]) rfl ⟨none, 0, 0, rfl, Bytes.none_ _ _, by repeat (first | refine Below.setCell ?_ (by simp) _ | exact balloc (balloc (bsame _) _) _)⟩
      · have HT2 := Lib.hid (NumW.there_yes l 1 1 (by omega))
        have HV2 := Lib.hid (CellP.len1_val l (by omega))
        have hm := CellP.len1_lt l
        obtain ⟨m, hm'⟩ : ∃ m, CellP.len1 l = m := ⟨_, rfl⟩
        have HM := Lib.hid hm'
        rw [hm'] at hm
        by_cases h3 : l.length < 2 + CellP.len1 l
        · have HG := Lib.hid (CellP.get_rec_short l h0 hk1 (.inr h3))
          rw [HG.out]
          have h4 : (n : Int) < 2 + (m : Int) := by omega
          clear hk1 hm'
          go_enter Try.func70, Try.ntmps70
          go_wp2_with fail
          refine (NumW.num_any A n c B 0 1 l _ (H.out.alloc hB _) (by omega) (by omega) (by omega)).mono ?_
          rintro e w1 ⟨rfl, rfl⟩
          rw [HT.out, HK.out]
          go_wp2_with fail
          refine (NumW.num_any A n c B 1 1 l _ ((H.out.alloc hB _).alloc (by simp; omega) _) (by omega) (by omega) (by omega)).mono ?_
          rintro e w1 ⟨rfl, rfl⟩
          rw [HT2.out, HV2.out, HM.out]
          go_wp2_with fail
          exact bodyPost_ret (v := .tuple #[.agg #[.int .i64 0, .slice none 0 0, .int .i64 0, .int .i64 0, .int .i64 0], .int .i64 0, .int .i64 13]) (by simp [results, Try.results70, go_sem]) rfl ⟨none, 0, 0, rfl, Bytes.none_ _ _, by repeat (first | refine Below.setCell ?_ (by simp) _ | exact balloc (balloc (bsame _) _) _)⟩
        · have hnl : ¬ (l.length < 2 ∨ l.length < 2 + CellP.len1 l) := by omega
          have h4 : ¬ (n : Int) < 2 + (m : Int) := by omega
          have h5 : 2 + m ≤ n := by omega
          have hcn := h.2.1
          have hcm := h.2.2.1
          have hcut := h.cut 2 (2 + m) c (by omega) h5 (by omega) (by omega)
          rw [show 2 + m - 2 = m by omega] at hcut
          have hld := hcut.len
          obtain ⟨d, hd⟩ : ∃ d, (l.drop 2).take m = d := ⟨_, rfl⟩
          have HD := Lib.hid hd
          rw [hd] at hcut hld
          clear hd
          obtain ⟨W2, hW2⟩ : ∃ W2, (w.alloc (.cells #[.int .i64 0, .slice none 0 0, .int .i64 0, .int .i64 0, .int .i64 0] 76)).alloc (.cells #[.int .i64 1, .slice none 0 0, .int .i64 0, .int .i64 0, .int .i64 0] 76) = W2 := ⟨_, rfl⟩
          have hz2' : W2.heap.size = w.heap.size + 1 + 1 := by rw [← hW2]; simp
          have hbyW : Bytes W2 B (cutA A 2 c 1) m (c - 2) d := by
            rw [← hW2]
            exact (hcut.alloc hB _).alloc (by simp; omega) _
          obtain ⟨v', w3, happ, hown3, hgrow3⟩ := run_append_bytes (P := Try.prog) W2 W2.heap.size 57 57 5 i0 _ Try.underlying57 hi hz0 hz1 hz2 rfl (.slice none 0 0) 0 [] (World.ownsRow_nil _ _ _ _) B _ m _ d hbyW (by omega) (Nat.le_refl _)
          simp only [Nat.zero_add, List.nil_append] at hown3
          obtain ⟨A3, c3, rfl⟩ := own_slice hown3
          have hb3 : Below W2.heap.size W2 w3 := (Below.refl _ W2).grown hgrow3 (Nat.le_refl _) (fun k e => by simp [Value.ownBlock] at e)
          rw [hz2'] at hown3
          have HO3 := Lib.hid hown3
          have HB3 := Lib.hid hb3
          obtain ⟨hc3, hf3⟩ := bcell hb3
          rw [← hW2] at hc3 hf3 happ
          have hs3 := hb3.size
          rw [hz2'] at hs3
          have hs3' : w.heap.size < w3.heap.size := by omega
          have hs3'' : w.heap.size + 1 < w3.heap.size := by omega
          have HW3 : Hid (Below w.heap.size w w3) := Lib.hid (by
            refine Below.trans ?_ (hb3.mono (by rw [hz2']; omega))
            rw [← hW2]
            exact balloc (balloc (bsame _) _) _)
          have HS0 : Hid (Str w3 w.heap.size #[.int .i64 0, .slice none 0 0, .int .i64 0, .int .i64 0, .int .i64 0]) := Lib.hid (by
            refine Str.next ?_ hb3
            rw [← hW2]
            exact (Str.new w _ _).alloc _)
          have HS1 : Hid (Str w3 (w.heap.size + 1) #[.int .i64 1, .slice none 0 0, .int .i64 0, .int .i64 0, .int .i64 0]) := Lib.hid (by
            refine Str.next ?_ hb3
            rw [← hW2]
            have := Str.new (w.alloc (.cells #[.int .i64 0, .slice none 0 0, .int .i64 0, .int .i64 0, .int .i64 0] 76)) #[.int .i64 1, .slice none 0 0, .int .i64 0, .int .i64 0, .int .i64 0] 76
            simpa using this)
          clear hown3 hgrow3 hcut hbyW hb3 hs3 hz2'
          subst hW2
          by_cases hr : d.length ≤ 32
          · have HG : Hid (CellP.get l = (⟨1, d, 0, 0, 0⟩, 2 + (m : Int), 0)) := Lib.hid (by rw [CellP.get_rec l h0 hk1 hnl (by omega), hm', HD.out])
            rw [HG.out]
            have HR := Lib.hid (CellP.right_rec d hr)
            clear hk1 hm' hnl h3
            have hcd : CellP.code true = 0 := rfl
            go_enter Try.func70, Try.ntmps70
            go_wp2_with fail
            refine (NumW.num_any A n c B 0 1 l _ (H.out.alloc hB _) (by omega) (by omega) (by omega)).mono ?_
            rintro e w1 ⟨rfl, rfl⟩
            rw [HT.out, HK.out]
            go_wp2_with fail
            refine (NumW.num_any A n c B 1 1 l _ ((H.out.alloc hB _).alloc (by simp; omega) _) (by omega) (by omega) (by omega)).mono ?_
            rintro e w1 ⟨rfl, rfl⟩
            rw [HT2.out, HV2.out, HM.out]
            go_wp2_with fail
            refine (CellW.check_any A3 m c3 ⟨1, d, 0, 0, 0⟩ _ hld (by unfold maxLen at *; omega)).mono ?_
            rintro e w4 ⟨rfl, hb4⟩
            rw [HR.out]
            have hS := ((HS0.out.other 1 (.slice A3 m c3) (by omega : w.heap.size ≠ w.heap.size + 1)).next hb4)
            have hS1 := ((HS1.out.set 1 (.slice A3 m c3)).next hb4)
            obtain ⟨k0, k1, k2, k3, k4⟩ := str5 hS
            obtain ⟨q0, q1, q2, q3, q4⟩ := str5 hS1
            have kf := fun i => hS.frozen i
            have hb34 : Below w.heap.size w w4 := (HW3.out.setCell (by simp) _).trans (hb4.mono (by simp; omega))
            have HB34 := Lib.hid hb34
            have HB4 := Lib.hid hb4
            clear hS hS1 hb34 hb4 hc3 hf3 happ
            go_wp2_with fail
            refine bodyPost_ret (v := .tuple #[.agg #[.int .i64 1, .slice A3 m c3, .int .i64 0, .int .i64 0, .int .i64 0], .int .i64 (2 + (m : Int)), .int .i64 0]) (by simp [results, Try.results70, go_sem, *]) rfl ⟨A3, m, c3, rfl, ?_, by repeat (first | refine Below.setCell ?_ (by simp) _ | exact HB34.out)⟩
            refine Bytes.own (base := w.heap.size + 1 + 1) (k := m) (e := 5) ?_
            repeat (first | refine own_set ?_ (by omega) _ _ | exact own_next (own_set HO3.out (by omega) _ _) HB4.out)
          · have HG : Hid (CellP.get l = (CellP.none, 0, 12)) := Lib.hid (CellP.get_rec_form l h0 hk1 hnl (by omega))
            rw [HG.out]
            have HR := Lib.hid (CellP.right_rec_no d hr)
            clear hk1 hm' hnl h3
            have hcd : CellP.code false = 1 := rfl
            go_enter Try.func70, Try.ntmps70
            go_wp2_with fail
            refine (NumW.num_any A n c B 0 1 l _ (H.out.alloc hB _) (by omega) (by omega) (by omega)).mono ?_
            rintro e w1 ⟨rfl, rfl⟩
            rw [HT.out, HK.out]
            go_wp2_with fail
            refine (NumW.num_any A n c B 1 1 l _ ((H.out.alloc hB _).alloc (by simp; omega) _) (by omega) (by omega) (by omega)).mono ?_
            rintro e w1 ⟨rfl, rfl⟩
            rw [HT2.out, HV2.out, HM.out]
            go_wp2_with fail
            refine (CellW.check_any A3 m c3 ⟨1, d, 0, 0, 0⟩ _ hld (by unfold maxLen at *; omega)).mono ?_
            rintro e w4 ⟨rfl, hb4⟩
            rw [HR.out]
            have hS := ((HS0.out.other 1 (.slice A3 m c3) (by omega : w.heap.size ≠ w.heap.size + 1)).next hb4)
            have hS1 := ((HS1.out.set 1 (.slice A3 m c3)).next hb4)
            obtain ⟨k0, k1, k2, k3, k4⟩ := str5 hS
            obtain ⟨q0, q1, q2, q3, q4⟩ := str5 hS1
            have kf := fun i => hS.frozen i
            have hb34 : Below w.heap.size w w4 := (HW3.out.setCell (by simp) _).trans (hb4.mono (by simp; omega))
            have HB34 := Lib.hid hb34
            have HB4 := Lib.hid hb4
            clear hS hS1 hb34 hb4 hc3 hf3 happ
            go_wp2_with fail
            exact bodyPost_ret (v := .tuple #[.agg #[.int .i64 0, .slice none 0 0, .int .i64 0, .int .i64 0, .int .i64 0], .int .i64 0, .int .i64 12]) (by simp [results, Try.results70, go_sem, *]) rfl ⟨none, 0, 0, rfl, Bytes.none_ _ _, by repeat (first | refine Below.setCell ?_ (by simp) _ | exact HB34.out)⟩
    · by_cases hk2 : NumP.val l 0 1 = 2
      · have HK := Lib.hid hk2
        by_cases h2 : l.length < 25
        · have HG := Lib.hid (CellP.get_cnt_short l h0 hk2 h2)
          rw [HG.out]
          have h4 : (n : Int) < 25 := by omega
          clear hk1 hk2
          go_enter Try.func70, Try.ntmps70
          go_wp2_with fail
          refine (NumW.num_any A n c B 0 1 l _ (H.out.alloc hB _) (by omega) (by omega) (by omega)).mono ?_
          rintro e w1 ⟨rfl, rfl⟩
          rw [HT.out, HK.out]
          go_wp2_with fail
          exact bodyPost_ret (v := .tuple #[.agg #[.int .i64 0, .slice none 0 0, .int .i64 0, .int .i64 0, .int .i64 0], .int .i64 0, .int .i64 13]) (by simp [results, Try.results70, go_sem]) rfl ⟨none, 0, 0, rfl, Bytes.none_ _ _, by repeat (first | refine Below.setCell ?_ (by simp) _ | exact balloc (balloc (bsame _) _) _)⟩
        · have h4 : ¬ (n : Int) < 25 := by omega
          have hx1 := CellP.val_in l 1 8 (by omega)
          have hx2 := CellP.val_in l 9 8 (by omega)
          have hx3 := CellP.val_in l 17 8 (by omega)
          have HGY := fun h3 => Lib.hid (CellP.get_cnt l h0 hk2 h2 h3)
          have HGN := fun h3 => Lib.hid (CellP.get_cnt_form l h0 hk2 h2 h3)
          obtain ⟨lo, hlo⟩ : ∃ x, NumP.val l 1 8 = x := ⟨_, rfl⟩
          obtain ⟨hi', hhi⟩ : ∃ x, NumP.val l 9 8 = x := ⟨_, rfl⟩
          obtain ⟨v, hv⟩ : ∃ x, NumP.val l 17 8 = x := ⟨_, rfl⟩
          rw [hlo, hhi, hv] at HGY HGN
          rw [hlo] at hx1
          rw [hhi] at hx2
          rw [hv] at hx3
          have HLO := Lib.hid hlo
          have HHI := Lib.hid hhi
          have HV := Lib.hid hv
          clear hlo hhi hv hk1 hk2
          by_cases h3 : lo ≤ v ∧ v ≤ hi'
          · have HG := HGY h3
            rw [HG.out]
            have HR := Lib.hid (CellP.right_cnt lo hi' v h3)
            clear HGY HGN h3
            have hcd : CellP.code true = 0 := rfl
            go_enter Try.func70, Try.ntmps70
            go_wp2_with fail
            refine (NumW.num_any A n c B 0 1 l _ (H.out.alloc hB _) (by omega) (by omega) (by omega)).mono ?_
            rintro e w1 ⟨rfl, rfl⟩
            rw [HT.out, HK.out]
            go_wp2_with fail
            refine (NumW.num_any A n c B 1 8 l _ ((H.out.alloc hB _).alloc (by simp; omega) _) (by omega) (by omega) (by omega)).mono ?_
            rintro e w1 ⟨rfl, rfl⟩
            rw [HLO.out]
            go_wp2_with fail
            refine (NumW.num_any A n c B 9 8 l _ ((H.out.alloc hB _).alloc (by simp; omega) _) (by omega) (by omega) (by omega)).mono ?_
            rintro e w1 ⟨rfl, rfl⟩
            rw [HHI.out]
            go_wp2_with fail
            refine (NumW.num_any A n c B 17 8 l _ ((H.out.alloc hB _).alloc (by simp; omega) _) (by omega) (by omega) (by omega)).mono ?_
            rintro e w1 ⟨rfl, rfl⟩
            rw [HV.out]
            go_wp2_with fail
            refine (CellW.check_any none 0 0 ⟨2, [], lo, hi', v⟩ _ rfl (Nat.zero_le _)).mono ?_
            rintro e w4 ⟨rfl, hb4⟩
            rw [HR.out]
            have hS := ((Str.new w #[.int .i64 0, .slice none 0 0, .int .i64 0, .int .i64 0, .int .i64 0] 76).alloc _).next hb4
            have hS1 := (Str.new (w.alloc (.cells #[.int .i64 0, .slice none 0 0, .int .i64 0, .int .i64 0, .int .i64 0] 76)) #[.int .i64 2, .slice none 0 0, .int .i64 lo, .int .i64 hi', .int .i64 v] 76).next hb4
            simp only [World.size_alloc] at hS1
            obtain ⟨k0, k1, k2, k3, k4⟩ := str5 hS
            obtain ⟨q0, q1, q2, q3, q4⟩ := str5 hS1
            have kf := fun i => hS.frozen i
            have HB34 := Lib.hid (bstep (balloc (balloc (bsame _) _) _) hb4)
            clear hS hS1 hb4
            go_wp2_with fail
            exact bodyPost_ret (v := .tuple #[.agg #[.int .i64 2, .slice none 0 0, .int .i64 lo, .int .i64 hi', .int .i64 v], .int .i64 25, .int .i64 0]) (by simp [results, Try.results70, go_sem, *]) rfl ⟨none, 0, 0, rfl, Bytes.none_ _ _, by repeat (first | refine Below.setCell ?_ (by simp) _ | exact HB34.out)⟩
          · have HG := HGN h3
            rw [HG.out]
            have HR := Lib.hid (CellP.right_cnt_no lo hi' v h3)
            clear HGY HGN h3
            have hcd : CellP.code false = 1 := rfl
            go_enter Try.func70, Try.ntmps70
            go_wp2_with fail
            refine (NumW.num_any A n c B 0 1 l _ (H.out.alloc hB _) (by omega) (by omega) (by omega)).mono ?_
            rintro e w1 ⟨rfl, rfl⟩
            rw [HT.out, HK.out]
            go_wp2_with fail
            refine (NumW.num_any A n c B 1 8 l _ ((H.out.alloc hB _).alloc (by simp; omega) _) (by omega) (by omega) (by omega)).mono ?_
            rintro e w1 ⟨rfl, rfl⟩
            rw [HLO.out]
            go_wp2_with fail
            refine (NumW.num_any A n c B 9 8 l _ ((H.out.alloc hB _).alloc (by simp; omega) _) (by omega) (by omega) (by omega)).mono ?_
            rintro e w1 ⟨rfl, rfl⟩
            rw [HHI.out]
            go_wp2_with fail
            refine (NumW.num_any A n c B 17 8 l _ ((H.out.alloc hB _).alloc (by simp; omega) _) (by omega) (by omega) (by omega)).mono ?_
            rintro e w1 ⟨rfl, rfl⟩
            rw [HV.out]
            go_wp2_with fail
            refine (CellW.check_any none 0 0 ⟨2, [], lo, hi', v⟩ _ rfl (Nat.zero_le _)).mono ?_
            rintro e w4 ⟨rfl, hb4⟩
            rw [HR.out]
            have hS := ((Str.new w #[.int .i64 0, .slice none 0 0, .int .i64 0, .int .i64 0, .int .i64 0] 76).alloc _).next hb4
            have hS1 := (Str.new (w.alloc (.cells #[.int .i64 0, .slice none 0 0, .int .i64 0, .int .i64 0, .int .i64 0] 76)) #[.int .i64 2, .slice none 0 0, .int .i64 lo, .int .i64 hi', .int .i64 v] 76).next hb4
            simp only [World.size_alloc] at hS1
            obtain ⟨k0, k1, k2, k3, k4⟩ := str5 hS
            obtain ⟨q0, q1, q2, q3, q4⟩ := str5 hS1
            have kf := fun i => hS.frozen i
            have HB34 := Lib.hid (bstep (balloc (balloc (bsame _) _) _) hb4)
            clear hS hS1 hb4
            go_wp2_with fail
            exact bodyPost_ret (v := .tuple #[.agg #[.int .i64 0, .slice none 0 0, .int .i64 0, .int .i64 0, .int .i64 0], .int .i64 0, .int .i64 12]) (by simp [results, Try.results70, go_sem, *]) rfl ⟨none, 0, 0, rfl, Bytes.none_ _ _, by repeat (first | refine Below.setCell ?_ (by simp) _ | exact HB34.out)⟩
      · have HG := Lib.hid (CellP.get_other l h0 hk1 hk2)
        rw [HG.out]
        have HR := Lib.hid (CellP.right_other (NumP.val l 0 1) [] 0 0 0 hk1 hk2)
        obtain ⟨k, hk⟩ : ∃ k, NumP.val l 0 1 = k := ⟨_, rfl⟩
        have HK := Lib.hid hk
        rw [hk] at hk1 hk2 HR
        clear hk
        have hcf : CellP.code false = 1 := rfl
        go_enter Try.func70, Try.ntmps70
        go_wp2_with fail
        refine (NumW.num_any A n c B 0 1 l _ (H.out.alloc hB _) (by omega) (by omega) (by omega)).mono ?_
        rintro e w1 ⟨rfl, rfl⟩
        rw [HT.out, HK.out]
        go_wp2_with fail
        refine (CellW.check_any none 0 0 ⟨k, [], 0, 0, 0⟩ _ rfl (Nat.zero_le _)).mono ?_
        rintro e w1 ⟨rfl, hb⟩
        rw [HR.out]
        have hS := ((Str.new w #[.int .i64 0, .slice none 0 0, .int .i64 0, .int .i64 0, .int .i64 0] 76).alloc _).next hb
        obtain ⟨k0, k1, k2, k3, k4⟩ := str5 hS
        have kf := fun i => hS.frozen i
        clear hS
        go_wp2_with fail
        exact bodyPost_ret (v := .tuple #[.agg #[.int .i64 0, .slice none 0 0, .int .i64 0, .int .i64 0, .int .i64 0], .int .i64 0, .int .i64 12]) (by simp [results, Try.results70, go_sem, *]) rfl ⟨none, 0, 0, rfl, Bytes.none_ _ _, by repeat (first | refine Below.setCell ?_ (by simp) _ | exact bstep (balloc (balloc (bsame _) _) _) hb)⟩
end Go.Proofs.Ytcfieofcnpalgaa.CellGet
end
section
namespace Go.Proofs.Ytcfieofcnpalgaa.SlotGet
open Go.RowKit
/-- the call hands back this item, and this error's number -/
def GotItem (w : World) (r : Item × Int) (e : Ending) (w' : World) : Prop := ∃ A n cap, e = .returned (.tuple #[.agg #[.int .i64 r.1.state, .string r.1.key, .int .i64 r.1.cell.kind, .slice A n cap, .int .i64 r.1.cell.lo, .int .i64 r.1.cell.hi, .int .i64 r.1.cell.val], .int .i64 r.2]) ∧
  Bytes w' w'.heap.size A n cap r.1.cell.data ∧ Below w.heap.size w w'
end Go.Proofs.Ytcfieofcnpalgaa.SlotGet
end
