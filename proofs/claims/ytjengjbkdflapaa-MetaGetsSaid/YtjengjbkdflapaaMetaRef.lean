/-
  The walk of the reference's Get of a layout.
-/
import Derived.Test.YtjengjbkdflapaaMeta
namespace Go.Proofs.Ytjengjbkdflapaa.MetaW
open Go.RowKit


set_option maxHeartbeats 2000000 in
theorem refGet_any (A : Option Addr) (c B : Nat) (l : List UInt8) (hl : l.length = 512) (w : World) (h : Bytes w B A 512 c l) (hB : B ≤ w.heap.size) : Calls Try.prog 61 #[.slice A 512 c] w fun e w' => e = .returned (.tuple #[.agg #[.int .i64 (MetaP.cb l), .int .i64 (MetaP.cp l), .int .i64 (MetaP.cf l), .int .i64 (MetaP.cc l), .int .i64 (MetaP.cl l)], .int .i64 (MetaP.used l), .bool (!MetaP.bad l)]) ∧ Below w.heap.size w w' := by
  obtain ⟨b, o, rfl, hb, hcell⟩ := h.at_ (k := 16) (by omega)
  have hb' : b < w.heap.size := by omega
  have hvb := NumP.val_byte l 16 (by omega)
  unfold byteV at hcell
  generalize hu : l[16].toNat = u at hcell hvb
  have hbd : MetaP.bad l = ((((NumP.val l 12 2 != 0) || ((u : Int) != 0)) || !MetaP.right (NumP.val l 17 1) (NumP.val l 18 2) (NumP.val l 20 1) (NumP.val l 21 1) (NumP.val l 22 2)) || !MetaP.within (NumP.val l 14 2) (NumP.val l 17 1 + 1) (NumP.val l 18 2)) := by rw [MetaP.bad, MetaP.check_ne, hvb]
  have HBD := Lib.hid hbd
  have H := Lib.hid h
  clear h hvb hbd hu
  generalize hX : MetaP.bad l = bd at HBD
  have HX := Lib.hid hX
  clear hX
  go_enter Try.func61, Try.ntmps61
  go_wp2_with fail
  refine (RefPage.num_any _ _ _ B 17 1 l _ (H.out.alloc hB _) (by omega) (by omega) (by omega)).mono ?_
  rintro e w' ⟨rfl, rfl⟩
  go_wp2_with fail
  refine (RefPage.num_any _ _ _ B 18 2 l _ (H.out.alloc hB _) (by omega) (by omega) (by omega)).mono ?_
  rintro e w' ⟨rfl, rfl⟩
  go_wp2_with fail
  refine (RefPage.num_any _ _ _ B 20 1 l _ (H.out.alloc hB _) (by omega) (by omega) (by omega)).mono ?_
  rintro e w' ⟨rfl, rfl⟩
  go_wp2_with fail
  refine (RefPage.num_any _ _ _ B 21 1 l _ (H.out.alloc hB _) (by omega) (by omega) (by omega)).mono ?_
  rintro e w' ⟨rfl, rfl⟩
  go_wp2_with fail
  refine (RefPage.num_any _ _ _ B 22 2 l _ (H.out.alloc hB _) (by omega) (by omega) (by omega)).mono ?_
  rintro e w' ⟨rfl, rfl⟩
  go_wp2_with fail
  refine (RefPage.next_any _ _ _ B l _ ((H.out.alloc hB _).alloc (by simp; omega) _)).mono ?_
  rintro e w' ⟨rfl, rfl⟩
  go_wp2_with fail
  refine (RefPage.no_any _ _ _ B l _ ((H.out.alloc hB _).alloc (by simp; omega) _)).mono ?_
  rintro e w' ⟨rfl, rfl⟩
  generalize hn12 : NumP.val l 12 2 = n12 at HBD ⊢
  generalize hn14 : NumP.val l 14 2 = n14 at HBD ⊢
  generalize hn17 : NumP.val l 17 1 = n17 at HBD ⊢
  generalize hn18 : NumP.val l 18 2 = n18 at HBD ⊢
  generalize hn20 : NumP.val l 20 1 = n20 at HBD ⊢
  generalize hn21 : NumP.val l 21 1 = n21 at HBD ⊢
  generalize hn22 : NumP.val l 22 2 = n22 at HBD ⊢
  have HN : Hid (NumP.val l 12 2 = n12 ∧ NumP.val l 14 2 = n14 ∧ NumP.val l 17 1 = n17 ∧ NumP.val l 18 2 = n18 ∧ NumP.val l 20 1 = n20 ∧ NumP.val l 21 1 = n21 ∧ NumP.val l 22 2 = n22) := Lib.hid ⟨hn12, hn14, hn17, hn18, hn20, hn21, hn22⟩
  clear hn12 hn14 hn17 hn18 hn20 hn21 hn22
  generalize hW0 : ((w).alloc (.cells #[.int .i64 0, .int .i64 0, .int .i64 0, .int .i64 0, .int .i64 0] 70)).alloc (.cells #[.int .i64 n17, .int .i64 n18, .int .i64 n20, .int .i64 n21, .int .i64 n22] 70) = W0
  have HS0_0 : Hid (Str W0 (w.heap.size) #[.int .i64 0, .int .i64 0, .int .i64 0, .int .i64 0, .int .i64 0]) := Lib.hid (by rw [← hW0]; have := (Str.new (w) #[.int .i64 0, .int .i64 0, .int .i64 0, .int .i64 0, .int .i64 0] 70).alloc (.cells #[.int .i64 n17, .int .i64 n18, .int .i64 n20, .int .i64 n21, .int .i64 n22] 70); simpa using this)
  have HS1_0 : Hid (Str W0 (w.heap.size + 1) #[.int .i64 n17, .int .i64 n18, .int .i64 n20, .int .i64 n21, .int .i64 n22]) := Lib.hid (by rw [← hW0]; have := Str.new ((w).alloc (.cells #[.int .i64 0, .int .i64 0, .int .i64 0, .int .i64 0, .int .i64 0] 70)) #[.int .i64 n17, .int .i64 n18, .int .i64 n20, .int .i64 n21, .int .i64 n22] 70; simpa using this)
  have HB_0 : Hid (Below w.heap.size w W0) := Lib.hid (by rw [← hW0]; exact balloc (balloc (bsame w) _) _)
  have hw_0 := HB_0.out.size
  clear hW0
  obtain ⟨f0_0_0, f0_0_1, f0_0_2, f0_0_3, f0_0_4⟩ := str5 HS0_0.out
  have hl0_0 := HS0_0.out.lt
  obtain ⟨f1_0_0, f1_0_1, f1_0_2, f1_0_3, f1_0_4⟩ := str5 HS1_0.out
  have hl1_0 := HS1_0.out.lt
  have hcell0 := HB_0.out.cell (p := ⟨b, o + 16, none⟩) hb'
  rw [hcell] at hcell0
  clear hcell
  have hfz := fun j => HS0_0.out.frozen j
  by_cases h1 : n12 = 0
  case neg =>
    have HT2 : Hid (bd = true) := Lib.hid (by rw [HBD.out]; simp [h1])
    have HT : Hid (MetaP.bad l = true) := Lib.hid (HX.out.trans HT2.out)
    go_wp2_with fail
    exact bodyPost_ret (v := .tuple #[.agg #[.int .i64 0, .int .i64 0, .int .i64 0, .int .i64 0, .int .i64 0], .int .i64 0, .bool false]) (by simp [results, Try.results61, go_sem, *]) rfl ⟨(by simp [MetaP.cb, MetaP.cp, MetaP.cf, MetaP.cc, MetaP.cl, MetaP.used, HT.out, HT2.out]), below_grown HB_0.out (grown_set (grown_set (grown_set (grown_set (grown_set (grown_refl _ _) 0 _) 1 _) 2 _) 3 _) 4 _) (by omega)⟩
  by_cases h2 : u = 0
  case neg =>
    have HT2 : Hid (bd = true) := Lib.hid (by rw [HBD.out]; simp [h1, h2])
    have HT : Hid (MetaP.bad l = true) := Lib.hid (HX.out.trans HT2.out)
    go_wp2_with fail
    exact bodyPost_ret (v := .tuple #[.agg #[.int .i64 0, .int .i64 0, .int .i64 0, .int .i64 0, .int .i64 0], .int .i64 0, .bool false]) (by simp [results, Try.results61, go_sem, *]) rfl ⟨(by simp [MetaP.cb, MetaP.cp, MetaP.cf, MetaP.cc, MetaP.cl, MetaP.used, HT.out, HT2.out]), below_grown HB_0.out (grown_set (grown_set (grown_set (grown_set (grown_set (grown_refl _ _) 0 _) 1 _) 2 _) 3 _) 4 _) (by omega)⟩
  go_wp2_with fail
  refine (right_any _ _ _ _ _ _).mono ?_
  rintro e W1 ⟨rfl, hb1⟩
  have HS0_1 := Lib.hid (HS0_0.out.next hb1)
  have HS1_1 := Lib.hid (HS1_0.out.next hb1)
  have HB_1 := Lib.hid (bstep HB_0.out hb1)
  have hw_1 := HB_1.out.size
  have hws_1 := (hb1).size
  clear f0_0_0 f0_0_1 f0_0_2 f0_0_3 f0_0_4 HS0_0 f1_0_0 f1_0_1 f1_0_2 f1_0_3 f1_0_4 HS1_0
  clear hb1
  obtain ⟨f0_1_0, f0_1_1, f0_1_2, f0_1_3, f0_1_4⟩ := str5 HS0_1.out
  have hl0_1 := HS0_1.out.lt
  obtain ⟨f1_1_0, f1_1_1, f1_1_2, f1_1_3, f1_1_4⟩ := str5 HS1_1.out
  have hl1_1 := HS1_1.out.lt
  clear hfz
  have hfz := fun j => HS0_1.out.frozen j
  cases h3 : MetaP.right n17 n18 n20 n21 n22
  case false =>
    have HT2 : Hid (bd = true) := Lib.hid (by rw [HBD.out]; simp [h1, h2, h3])
    have HT : Hid (MetaP.bad l = true) := Lib.hid (HX.out.trans HT2.out)
    go_wp2_with fail
    exact bodyPost_ret (v := .tuple #[.agg #[.int .i64 0, .int .i64 0, .int .i64 0, .int .i64 0, .int .i64 0], .int .i64 0, .bool false]) (by simp [results, Try.results61, go_sem, *]) rfl ⟨(by simp [MetaP.cb, MetaP.cp, MetaP.cf, MetaP.cc, MetaP.cl, MetaP.used, HT.out, HT2.out]), below_grown HB_1.out (grown_set (grown_set (grown_set (grown_set (grown_set (grown_refl _ _) 0 _) 1 _) 2 _) 3 _) 4 _) (by omega)⟩
  case true =>
    by_cases h4 : n14 ≤ n17
    case pos =>
      have HT2 : Hid (bd = true) := Lib.hid (by rw [HBD.out]; simp [MetaP.within, h1, h2, h3]; omega)
      have HT : Hid (MetaP.bad l = true) := Lib.hid (HX.out.trans HT2.out)
      go_wp2_with fail
      exact bodyPost_ret (v := .tuple #[.agg #[.int .i64 0, .int .i64 0, .int .i64 0, .int .i64 0, .int .i64 0], .int .i64 0, .bool false]) (by simp [results, Try.results61, go_sem, *]) rfl ⟨(by simp [MetaP.cb, MetaP.cp, MetaP.cf, MetaP.cc, MetaP.cl, MetaP.used, HT.out, HT2.out]), below_grown HB_1.out (grown_set (grown_set (grown_set (grown_set (grown_set (grown_refl _ _) 0 _) 1 _) 2 _) 3 _) 4 _) (by omega)⟩
    by_cases h5 : n18 < n14
    case pos =>
      have HT2 : Hid (bd = true) := Lib.hid (by rw [HBD.out]; simp [MetaP.within, h1, h2, h3, h5])
      have HT : Hid (MetaP.bad l = true) := Lib.hid (HX.out.trans HT2.out)
      go_wp2_with fail
      exact bodyPost_ret (v := .tuple #[.agg #[.int .i64 0, .int .i64 0, .int .i64 0, .int .i64 0, .int .i64 0], .int .i64 0, .bool false]) (by simp [results, Try.results61, go_sem, *]) rfl ⟨(by simp [MetaP.cb, MetaP.cp, MetaP.cf, MetaP.cc, MetaP.cl, MetaP.used, HT.out, HT2.out]), below_grown HB_1.out (grown_set (grown_set (grown_set (grown_set (grown_set (grown_refl _ _) 0 _) 1 _) 2 _) 3 _) 4 _) (by omega)⟩
    have HT2 : Hid (bd = false) := Lib.hid (by rw [HBD.out]; simp [MetaP.within, h1, h2, h3]; omega)
    have HT : Hid (MetaP.bad l = false) := Lib.hid (HX.out.trans HT2.out)
    obtain ⟨e12, e14, e17, e18, e20, e21, e22⟩ := HN.out
    have HV : Hid (MetaP.cb l = n17 ∧ MetaP.cp l = n18 ∧ MetaP.cf l = n20 ∧ MetaP.cc l = n21 ∧ MetaP.cl l = n22 ∧ MetaP.used l = n14) := Lib.hid (by simp [MetaP.cb, MetaP.cp, MetaP.cf, MetaP.cc, MetaP.cl, MetaP.used, HT.out, e14, e17, e18, e20, e21, e22])
    clear e12 e14 e17 e18 e20 e21 e22
    go_wp2_with fail
    obtain ⟨e1, e2, e3, e4, e5, e6⟩ := HV.out
    exact bodyPost_ret (v := .tuple #[.agg #[.int .i64 n17, .int .i64 n18, .int .i64 n20, .int .i64 n21, .int .i64 n22], .int .i64 n14, .bool true]) (by simp [results, Try.results61, go_sem, *]) rfl ⟨by rw [e1, e2, e3, e4, e5, e6, HT2.out]; rfl, below_grown HB_1.out (grown_set (grown_set (grown_set (grown_set (grown_set (grown_refl _ _) 0 _) 1 _) 2 _) 3 _) 4 _) (by omega)⟩
end Go.Proofs.Ytjengjbkdflapaa.MetaW
