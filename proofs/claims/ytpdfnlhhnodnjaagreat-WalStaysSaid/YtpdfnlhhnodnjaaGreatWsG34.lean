/-
  Parts of the proof of WalStays.
-/
import Derived.Test.YtpdfnlhhnodnjaaGreatWsG33
import Derived.Test.YtpdfnlhhnodnjaaGreatWsG30
section
namespace Go.Proofs.YtpdfnlhhnodnjaaGreat.DevW
open Go.RowKit Go.Maps
set_option linter.unusedVariables false
set_option linter.unusedSimpArgs false
variable {d sb mb : Nat} {bp bs : List Nat} {gb : Option Nat} {A : Option Addr} {n c nm : Nat} {es : List (Int × SlV)} {X : DevX}
/-- how many bytes of the log stay, that were not safe -/
def _root_.Go.Proofs.YtpdfnlhhnodnjaaGreat.DevP.stay (X : DevX) (m : Int) : Int := min (max m 0) (X.head + (X.log.length : Nat) - X.sure)
/-- the device when the power has failed, and come back -/
def _root_.Go.Proofs.YtpdfnlhhnodnjaaGreat.DevP.crashed (X : DevX) (m : Int) : DevX := { X with now := X.safe, log := X.log.take (X.sure + DevP.stay X m - X.head).toNat, sure := X.sure + DevP.stay X m, fused := false, fuse := 0, off := false }
theorem nodup_le : ∀ (N : Nat) (l : List Nat), l.Nodup → (∀ x ∈ l, x < N) → l.length ≤ N
  | 0, l, _, h => by
    cases l with
    | nil => exact Nat.le_refl _
    | cons x r => exact absurd (h x (by simp)) (Nat.not_lt_zero _)
  | N + 1, l, hn, h => by
    have h1 := nodup_le N (l.erase N) (hn.erase N) (fun x hx => by
      have h2 := (hn.mem_erase_iff).1 hx
      have := h x h2.2
      have := h2.1
      omega)
    rw [List.length_erase] at h1
    split at h1 <;> omega
theorem Pages.few {w : World} {safe now : List (List UInt8)} {wr : Nat} (h : Pages w sb mb bp safe now wr nm es) : es.length ≤ safe.length := by
  have hn : (es.map (fun p => p.1.toNat)).Nodup := by
    have h1 : (es.map (·.1)).Nodup := h.map.nd
    refine List.pairwise_map.2 ((List.pairwise_map.1 h1).imp_of_mem ?_)
    intro a b ha hb hne e
    have := (h.ent a ha).k0
    have := (h.ent b hb).k0
    omega
  have := nodup_le safe.length _ hn (fun x hx => by
    obtain ⟨p, hp, rfl⟩ := List.mem_map.1 hx
    have := (h.ent p hp).k1
    have := (h.ent p hp).k0
    omega)
  simpa using this
/-- all writings that were not safe are let go of -/
theorem In.cleared {w w' : World} (h : In w d sb mb bp gb A n c nm es X) (hM : MapM Tryz.prog intK slE 3 w' mb 0 []) (hg : w.grownBy w' (some mb)) : In w' d sb mb [sb, mb] gb A n c 0 [] { X with now := X.safe } ∧ (∀ b ∈ d :: (gb.toList ++ [sb, mb]), b ∈ d :: (gb.toList ++ bp)) := by
  have ho := h.ok
  have h1 := h.nd
  have h0 := h.pages.nd
  rw [h.pages.bpe] at h0
  have hsub : ∀ b ∈ [sb, mb], b ∈ bp := fun b hb => by
    rw [h.pages.bpe]
    simp only [List.mem_cons, List.not_mem_nil, or_false] at hb ⊢
    rcases hb with h | h
    · exact .inl h
    · exact .inr (.inl h)
  simp only [List.nodup_cons, List.mem_cons, not_or] at h0
  simp only [List.nodup_cons, List.nodup_append, List.mem_append, not_or] at h1
  have hdm : d ≠ mb := fun e => h1.1.2 (by rw [e]; exact hsub mb (by simp))
  have hnd : (d :: (gb.toList ++ [sb, mb])).Nodup := by
    simp only [List.nodup_cons, List.nodup_append, List.mem_append, not_or]
    refine ⟨⟨h1.1.1, fun hm => h1.1.2 (hsub d hm)⟩, h1.2.1, ⟨by simpa using h0.1.1, List.not_mem_nil, List.nodup_nil⟩, fun x hx y hy e => h1.2.2.2 x hx y (hsub y hy) e⟩
  refine ⟨⟨h.box.grown hg hdm, ⟨h.pages.row.at_ (hg.block sb h.pages.row.lt (by intro e; injection e with e; exact h0.1.1 e)), hM, (fun p hp => absurd hp List.not_mem_nil), (fun k hk _ => rfl), rfl, by simpa using h0.1.1, Nat.zero_le _⟩, h.log.grown hg ?_, hnd, ⟨ho.n0, ho.n1, rfl, ho.h0, ho.s0, ho.s1, ho.t0, ho.t1, ho.o0, ho.f0, ho.f1, ho.w0, ho.w0⟩⟩, fun b hb => ?_⟩
  · intro e
    exact h1.2.2.2 mb (by simp [e]) mb (hsub mb (by simp)) rfl
  · simp only [List.mem_cons, List.mem_append] at hb ⊢
    rcases hb with h | h | h
    · exact .inl h
    · exact .inr (.inl h)
    · exact .inr (.inr (hsub b (by simpa using h)))
attribute [local go_sem ↓] clr_fold cut_fold app_fold
/-- what was collected is not looked at -/
def Col (w W0 wr : World) (mb nm : Nat) (es : List (Int × SlV)) (left : Lit → Bool) (cnt : Nat) (A : Option Addr) (m c : Nat) (ss : List Int) : Prop :=
  wr.ranges Tryz.prog 3 (MapP.rdE slE) mb W0.heap.size nm (MapP.dat intK es) left cnt ∧ m + cnt ≤ es.length ∧ OwnE IntE 3 wr (W0.heap.size + 1) A m c ss ∧ Below W0.heap.size W0 wr ∧ W0.heap.size + 1 ≤ wr.heap.size
set_option maxRecDepth 100000 in
set_option maxHeartbeats 4000000 in
theorem Crash_any (m : Int) (hm : In64 m) (w : World) (hD : Dev w d bs X) (hs : DevP.Small X) :
    Calls Tryz.prog 11 #[.pointer (some ⟨d, 0, none⟩), .agg #[.slice none 0 0, .int .i64 m]] w (Told w d bs (DevP.crashed X m) (.tuple #[])) := by
  obtain ⟨i0, hi0, iz0, iz1, iz2⟩ := info_parts infoI
  have HI0 := Lib.hid hi0
  have HM := Lib.hid hm
  have HD := Lib.hid hD
  have hok := hD.ok
  have hN := hok.n1
  have HSM := Lib.hid hs
  have hs2 := hs.2.1
  have hh0 := hok.h0
  have hu0 := hok.s0
  have hu1 := hok.s1
  obtain ⟨sb, mb, bp, gb, A0, n0, c0, nm, es, hI, hbs⟩ := hD
  have hl := hI.box.lt
  have hml := hI.pages.map.lt
  have hfew : es.length ≤ 1024 := Nat.le_trans hI.pages.few hN
  have HN0 : Hid (X.log.length = n0) := Lib.hid hI.log.len
  have hnc := hI.log.2.1
  have hcm := hI.log.2.2.1
  unfold maxLen at hcm
  have HI := Lib.hid hI
  have HB := Lib.hid hbs
  have HOK := Lib.hid hok
  obtain ⟨W0, hW0⟩ : ∃ W, w.alloc (.cells #[.slice none 0 0, .int .i64 m] 48) = W := ⟨_, rfl⟩
  have hS0 : Str W0 w.heap.size #[.slice none 0 0, .int .i64 m] := by rw [← hW0]; exact Str.new _ _ _
  have hb0 : Below w.heap.size w W0 := by rw [← hW0]; exact balloc (bsame w) _
  have hz0 : w.heap.size < W0.heap.size := by rw [← hW0]; simp
  have hI0 := HI.out.at_ (fun b hm => hb0.block b (HI.out.lt b hm))
  have HS0 := Lib.hid hS0
  have HBW := Lib.hid hb0
  have HIW := Lib.hid hI0
  have f1 := str10 hI0.box
  have f2 := str2 hS0
  have hl0 := hI0.box.lt
  have hlf := hS0.lt
  clear hI hbs hok hs hm hi0 hS0 hb0 hI0
  go_enter Tryz.func11, Tryz.ntmps11
  go_wp2_with (first
    | (at_range; refine wpList_range_own _ rfl _ 56 rfl 3 55 law Tryz.underlying56 (MapP.rdE slE) mb nm (MapP.dat intK es) rfl HIW.out.pages.map.own ?_; intro w0 hrg0 hg0 hs0)
    | go_in)
  go_frame
  have HRG := Lib.hid hrg0
  have HB0 : Hid (Below W0.heap.size W0 w0) := Lib.hid ⟨hg0.os, hg0.tape, hg0.output, hg0.size, fun k hk => hg0.block k hk (by simp)⟩
  have HZ0 := Lib.hid hs0
  clear hrg0 hg0 hs0 f1 f2
  go_loopw [4] (fun sv wr => ∃ (left : Lit → Bool) (cnt q c : Nat) (A : Option Addr) (ss : List Int), sv = .slice A q c ∧ Hid (Col w W0 wr mb nm es left cnt A q c ss))
    (fun _ wr => wr.rangeLeft mb W0.heap.size)
  case atStart =>
    exact ⟨_, _, 0, 0, none, [], rfl, Lib.hid ⟨HRG.out, by rw [MapP.size_dat]; omega, OwnE.none_ _ _ _ _, HB0.out, by have := HZ0.out; omega⟩⟩
  case round =>
    obtain ⟨left, cnt, q, c, A, ss, rfl, HK⟩ := hrel
    have hwr := HK.out.2.2.2.2
    have hmc := HK.out.2.1
    have hml2 : q ≤ 1024 := by omega
    go_wp2_with (first
      | (at_next; refine wpList_next_ranges _ rfl _ rfl 3 law (MapP.rdE slE) (fun x : Int => Value.int .i64 x) (fun s : SlV => Value.slice s.A s.n s.c) (fun key kl hk => key_inv hk) (fun v y hv => by obtain ⟨s, rfl, _⟩ := MapP.rd_inv slE hv; exact ⟨s, rfl⟩) mb W0.heap.size nm _ _ _ rfl HK.out.1 ?_ ?_)
      | go_in)
    · intro _ hl0
      clear hl0
      go_wp2_with fail
      refine (TxnW.sort_own A q c _ ss _ HK.out.2.2.1 (by omega)).mono ?_
      rintro e W2 ⟨rfl, hO, hg⟩
      have HO := Lib.hid hO
      have hbW2 : Below W0.heap.size W0 W2 := below_grownO HK.out.2.2.2.1 hg (by omega) (by
        intro j hj
        cases A with
        | none => cases hj
        | some a => cases hj; have := HK.out.2.2.1.ge a rfl; omega)
      have HB2 := Lib.hid hbW2
      have HI2 := Lib.hid (HIW.out.at_ (fun b hb => hbW2.block b (HIW.out.lt b hb)))
      have HS2 := Lib.hid (HS0.out.next hbW2)
      have hsz2 := hbW2.size
      have f1 := str10 HI2.out.box
      have f2 := str2 HS2.out
      have hl2 := HI2.out.box.lt
      have hlf2 := HS2.out.lt
      have hml3 := HI2.out.pages.map.lt
      clear hO hg HK hbW2
      go_wp2_with fail
      go_loopw [30] (fun iv wr => iv = .int .i64 0 ∧ wr = W2) (fun _ _ => 0)
      case atStart => exact ⟨rfl, rfl⟩
      case round =>
        obtain ⟨rfl, hwe⟩ := hrel
        subst hwe
        by_cases hq0 : q = 0
        · subst hq0
          have hd31 : decide ((0 : Int) < ((0 : Nat) : Int)) = false := by decide
          obtain ⟨W4, hclr0, hM4, ht4⟩ := HI2.out.pages.map.clear Tryz.underlying56 0
          have hclr : (clrSem #[56] 0 #[.map (some mb)]).run Tryz.prog wr = .ok (.tuple #[]) W4 := hclr0
          obtain ⟨hI4, hsub4⟩ := HI2.out.cleared hM4 ht4.grown
          have HG4 := Lib.hid ht4.grown
          have HI4 := Lib.hid hI4
          have HSUB := Lib.hid hsub4
          have hlf4 : w.heap.size ≠ mb := by
            intro e
            obtain ⟨t, ht⟩ := HS2.out
            obtain ⟨es5, c5, hb5, -⟩ := HI2.out.pages.map.own
            rw [e, hb5] at ht
            cases ht
          have HS4 := Lib.hid (HS2.out.grown HG4.out hlf4)
          have HK4 := Lib.hid ((Reg.KeepB.of (b0 := bs) (HBW.out.trans (HB2.out.mono (by omega)))).grown HG4.out (Nat.le_trans HBW.out.size HB2.out.size) (.inr (by rw [HB.out]; have hm : mb ∈ bp := by { rw [HI.out.pages.bpe]; simp }; simp [hm])))
          clear hclr0 hM4 ht4 hI4 hsub4
          go_wp2_with fail
          have HD4 : Hid (Dev W4 d (d :: (gb.toList ++ [sb, mb])) { X with now := X.safe }) := Lib.hid ⟨sb, mb, _, gb, A0, n0, c0, 0, [], HI4.out, rfl⟩
          have HSM4 : Hid (DevP.Small { X with now := X.safe }) := Lib.hid ⟨HSM.out.1, HSM.out.2.1, HSM.out.2.2⟩
          obtain ⟨s, hs⟩ : ∃ s, DevP.stay X m = s := ⟨_, rfl⟩
          have HST := Lib.hid hs
          have hst : min (max m 0) (X.head + (X.log.length : Nat) - X.sure) = s := hs
          have hs0 : 0 ≤ s := by omega
          have hs1 : s ≤ X.head + (X.log.length : Nat) - X.sure := by omega
          have hmi := HM.out
          unfold In64 at hmi
          have HMI := Lib.hid hmi
          clear hs hmi hclr f1 f2
          obtain ⟨y, hy⟩ : ∃ y : Int, X.head + (X.log.length : Nat) = y := ⟨_, rfl⟩
          have HY := Lib.hid hy
          have hy1 : 0 ≤ y := by omega
          have hy2 : y ≤ 100000000000000 := by omega
          have hy3 : X.sure ≤ y := by omega
          have hst2 : min (max m 0) (y - X.sure) = s := by rw [← hy]; exact hst
          have HST2 := Lib.hid hst2
          have hs1' : s ≤ y - X.sure := by omega
          clear hst hs1 hy hst2
          have hl4 := HI4.out.box.lt
          have hlf4' := HS4.out.lt
          refine Reg.wp_region_vals (R := ext) (W := W4) [Reg.eqv (.pointer (some ⟨w.heap.size, 1, none⟩)), Reg.eqv (.int .i64 m), Reg.eqv (.int .i64 (max m 0)), Reg.eqv (.pointer (some ⟨d, 0, none⟩)), Reg.eqv (.int .i64 y), Reg.eqv (.pointer (some ⟨d, 0, none⟩)), Reg.eqv (.pointer (some ⟨d, 0, none⟩)), Reg.eqv (.pointer (some ⟨d, 5, none⟩)), Reg.eqv (.int .i64 (X.sure)), Reg.eqv (.int .i64 (y - X.sure)), Reg.eqv (.int .i64 s), Reg.eqv (.int .i64 s)] 116 [[(3, none)], [(72, some 0)], [(73, some 1)], [(0, none)], [(75, some 3)], [(0, none)], [(77, some 5)], [(78, some 6)], [(79, some 7)], [(76, some 4), (80, some 8)], [(74, some 2), (81, some 9)], [(82, some 10)]] rfl (by kernel_rfl) (by kernel_rfl) (by kernel_rfl) ?_ [some 72, some 73, some 74, some 75, some 76, some 77, some 78, some 79, some 80, some 81, some 82, some 10] (by kernel_rfl) ?_
          · refine ⟨?_, ?_, ?_, ?_, ?_, ?_, ?_, ?_, ?_, ?_, ?_, ?_, trivial⟩
            · intro ax wx hx hs
              obtain ⟨e3, -⟩ := hs
              have g3 := Reg.ev (v := .pointer (some ⟨w.heap.size, 0, none⟩)) e3
              exact Reg.obl_free rfl (Reg.wp_eqv (Option.some_ne_none _) (by go_simp) rfl)
            · intro ax wx hx hs
              obtain ⟨e72, -⟩ := hs
              have g72 := Reg.ev (v := .pointer (some ⟨w.heap.size, 1, none⟩)) e72
              have l0 := str10 (HI4.out.box.next hx)
              have l1 := str2 (HS4.out.next hx)
              exact Reg.obl_free rfl (Reg.wp_eqv (Option.some_ne_none _) (by go_simp) rfl)
            · intro ax wx hx hs
              obtain ⟨e73, -⟩ := hs
              have g73 := Reg.ev (v := .int .i64 m) e73
              refine Reg.obl_free rfl ?_
              have hmi := HMI.out
              exact Reg.wp_eqv (Option.some_ne_none _) (by go_simp <;> (first | (split <;> omega) | omega)) rfl
            · intro ax wx hx hs
              obtain ⟨e0, -⟩ := hs
              have g0 := Reg.ev (v := .pointer (some ⟨d, 0, none⟩)) e0
              exact Reg.obl_free rfl (Reg.wp_eqv (Option.some_ne_none _) (by go_simp) rfl)
            · intro ax wx hx hs
              obtain ⟨e75, -⟩ := hs
              have g75 := Reg.ev (v := .pointer (some ⟨d, 0, none⟩)) e75
              refine Reg.obl_free rfl ?_
              have hx' : Below W4.heap.size W4 wx := hx
              go_simp
              refine (end_any wx (HD4.out.below hx') HSM4.out).mono ?_
              rintro e wy ⟨rfl, hby⟩
              exact Reg.done (Option.some_ne_none _) (by show Value.int _ _ = _; exact congrArg (Value.int .i64) HY.out) hby
            · intro ax wx hx hs
              obtain ⟨e0, -⟩ := hs
              have g0 := Reg.ev (v := .pointer (some ⟨d, 0, none⟩)) e0
              exact Reg.obl_free rfl (Reg.wp_eqv (Option.some_ne_none _) (by go_simp) rfl)
            · intro ax wx hx hs
              obtain ⟨e77, -⟩ := hs
              have g77 := Reg.ev (v := .pointer (some ⟨d, 0, none⟩)) e77
              exact Reg.obl_free rfl (Reg.wp_eqv (Option.some_ne_none _) (by go_simp) rfl)
            · intro ax wx hx hs
              obtain ⟨e78, -⟩ := hs
              have g78 := Reg.ev (v := .pointer (some ⟨d, 0, none⟩)) e78
              exact Reg.obl_free rfl (Reg.wp_eqv (Option.some_ne_none _) (by go_simp) rfl)
            · intro ax wx hx hs
              obtain ⟨e79, -⟩ := hs
              have g79 := Reg.ev (v := .pointer (some ⟨d, 5, none⟩)) e79
              have l0 := str10 (HI4.out.box.next hx)
              have l1 := str2 (HS4.out.next hx)
              exact Reg.obl_free rfl (Reg.wp_eqv (Option.some_ne_none _) (by go_simp) rfl)
            · intro ax wx hx hs
              obtain ⟨e76, e80, -⟩ := hs
              have g76 := Reg.ev (v := .int .i64 y) e76
              have g80 := Reg.ev (v := .int .i64 (X.sure)) e80
              refine Reg.obl_free rfl ?_
              exact Reg.wp_eqv (Option.some_ne_none _) (by go_simp; exact IntWalk.i64_in _ (by omega)) rfl
            · intro ax wx hx hs
              obtain ⟨e74, e81, -⟩ := hs
              have g74 := Reg.ev (v := .int .i64 (max m 0)) e74
              have g81 := Reg.ev (v := .int .i64 (y - X.sure)) e81
              refine Reg.obl_free rfl ?_
              have hst2 := HST2.out
              have hmi := HMI.out
              exact Reg.wp_eqv (Option.some_ne_none _) (by go_simp <;> (first | (split <;> omega) | omega)) rfl
            · intro ax wx hx hs
              obtain ⟨e82, -⟩ := hs
              have g82 := Reg.ev (v := .int .i64 s) e82
              exact Reg.obl_free rfl (Reg.wp_eqv (Option.some_ne_none _) (by go_simp) rfl)
          · intro W5 hwf
            simp only [Reg.Fin]
            rintro _ rfl _ rfl _ rfl _ rfl _ rfl _ rfl _ rfl _ rfl _ rfl _ rfl _ rfl _ rfl
            go_simp
            have hwf' : Below W4.heap.size W4 W5 := hwf
            have HI5 := Lib.hid (HI4.out.at_ (fun b hb => hwf'.block b (HI4.out.lt b hb)))
            have HK5 := Lib.hid (HK4.out.step hwf' HK4.out.size)
            clear hwf hwf'
            obtain ⟨k, hk⟩ : ∃ k : Nat, X.sure + s - X.head = (k : Int) := ⟨(X.sure + s - X.head).toNat, by omega⟩
            have HKK := Lib.hid hk
            have hkl : k ≤ X.log.length := by have := HY.out; omega
            have hkn : k ≤ n0 := by rw [← HN0.out]; exact hkl
            have hkc : k ≤ c0 := by omega
            clear hk
            have hl5 := HI5.out.box.lt
            go_wp2_with fail
            refine Reg.wp_region_tail (R := ext) (W := W5) [Reg.eqv (.pointer (some ⟨d, 0, none⟩)), Reg.eqv (.pointer (some ⟨d, 0, none⟩)), Reg.eqv (.pointer (some ⟨d, 0, none⟩)), Reg.eqv (.pointer (some ⟨d, 2, none⟩)), Reg.eqv (.slice A0 n0 c0), Reg.eqv (.pointer (some ⟨d, 0, none⟩)), Reg.eqv (.pointer (some ⟨d, 0, none⟩)), Reg.eqv (.pointer (some ⟨d, 5, none⟩)), Reg.eqv (.int .i64 (X.sure)), Reg.eqv (.int .i64 s), Reg.eqv (.int .i64 (X.sure + s)), Reg.eqv (.pointer (some ⟨d, 0, none⟩)), Reg.eqv (.pointer (some ⟨d, 0, none⟩)), Reg.eqv (.pointer (some ⟨d, 4, none⟩)), Reg.eqv (.int .i64 (X.head)), Reg.eqv (.int .i64 (k : Int)), Reg.eqv (.slice (cutA A0 0 c0 1) k c0), Reg.eqv (.pointer (some ⟨d, 0, none⟩)), Reg.eqv (.pointer (some ⟨d, 2, none⟩))] 116 19 _ [[(0, none)], [(0, none)], [(84, some 1)], [(85, some 2)], [(86, some 3)], [(0, none)], [(88, some 5)], [(89, some 6)], [(90, some 7)], [(10, none)], [(91, some 8), (92, some 9)], [(0, none)], [(94, some 11)], [(95, some 12)], [(96, some 13)], [(93, some 10), (97, some 14)], [(87, some 4), (98, some 15)], [(83, some 0)], [(100, some 17)]] rfl (by kernel_rfl) (by kernel_rfl) (by rfl) (by rfl) rfl (by kernel_rfl) ?_ [some 83, some 84, some 85, some 86, some 87, some 88, some 89, some 90, some 91, some 92, some 93, some 94, some 95, some 96, some 97, some 98, some 99, some 100, some 101] (by kernel_rfl) ?_
            · refine ⟨?_, ?_, ?_, ?_, ?_, ?_, ?_, ?_, ?_, ?_, ?_, ?_, ?_, ?_, ?_, ?_, ?_, ?_, ?_, trivial⟩
              · intro ax wx hx hs
                obtain ⟨e0, -⟩ := hs
                have g0 := Reg.ev (v := .pointer (some ⟨d, 0, none⟩)) e0
                exact Reg.obl_free rfl (Reg.wp_eqv (Option.some_ne_none _) (by go_simp) rfl)
              · intro ax wx hx hs
                obtain ⟨e0, -⟩ := hs
                have g0 := Reg.ev (v := .pointer (some ⟨d, 0, none⟩)) e0
                exact Reg.obl_free rfl (Reg.wp_eqv (Option.some_ne_none _) (by go_simp) rfl)
              · intro ax wx hx hs
                obtain ⟨e84, -⟩ := hs
                have g84 := Reg.ev (v := .pointer (some ⟨d, 0, none⟩)) e84
                exact Reg.obl_free rfl (Reg.wp_eqv (Option.some_ne_none _) (by go_simp) rfl)
              · intro ax wx hx hs
                obtain ⟨e85, -⟩ := hs
                have g85 := Reg.ev (v := .pointer (some ⟨d, 0, none⟩)) e85
                exact Reg.obl_free rfl (Reg.wp_eqv (Option.some_ne_none _) (by go_simp) rfl)
              · intro ax wx hx hs
                obtain ⟨e86, -⟩ := hs
                have g86 := Reg.ev (v := .pointer (some ⟨d, 2, none⟩)) e86
                have l0 := str10 (HI5.out.box.next hx)
                exact Reg.obl_free rfl (Reg.wp_eqv (Option.some_ne_none _) (by go_simp) rfl)
              · intro ax wx hx hs
                obtain ⟨e0, -⟩ := hs
                have g0 := Reg.ev (v := .pointer (some ⟨d, 0, none⟩)) e0
                exact Reg.obl_free rfl (Reg.wp_eqv (Option.some_ne_none _) (by go_simp) rfl)
              · intro ax wx hx hs
                obtain ⟨e88, -⟩ := hs
                have g88 := Reg.ev (v := .pointer (some ⟨d, 0, none⟩)) e88
                exact Reg.obl_free rfl (Reg.wp_eqv (Option.some_ne_none _) (by go_simp) rfl)
              · intro ax wx hx hs
                obtain ⟨e89, -⟩ := hs
                have g89 := Reg.ev (v := .pointer (some ⟨d, 0, none⟩)) e89
                exact Reg.obl_free rfl (Reg.wp_eqv (Option.some_ne_none _) (by go_simp) rfl)
              · intro ax wx hx hs
                obtain ⟨e90, -⟩ := hs
                have g90 := Reg.ev (v := .pointer (some ⟨d, 5, none⟩)) e90
                have l0 := str10 (HI5.out.box.next hx)
                exact Reg.obl_free rfl (Reg.wp_eqv (Option.some_ne_none _) (by go_simp) rfl)
              · intro ax wx hx hs
                obtain ⟨e10, -⟩ := hs
                have g10 := Reg.ev (v := .int .i64 s) e10
                exact Reg.obl_free rfl (Reg.wp_eqv (Option.some_ne_none _) (by go_simp) rfl)
              · intro ax wx hx hs
                obtain ⟨e91, e92, -⟩ := hs
                have g91 := Reg.ev (v := .int .i64 (X.sure)) e91
                have g92 := Reg.ev (v := .int .i64 s) e92
                refine Reg.obl_free rfl ?_
                exact Reg.wp_eqv (Option.some_ne_none _) (by go_simp; exact IntWalk.i64_in _ (by omega)) rfl
              · intro ax wx hx hs
                obtain ⟨e0, -⟩ := hs
                have g0 := Reg.ev (v := .pointer (some ⟨d, 0, none⟩)) e0
                exact Reg.obl_free rfl (Reg.wp_eqv (Option.some_ne_none _) (by go_simp) rfl)
              · intro ax wx hx hs
                obtain ⟨e94, -⟩ := hs
                have g94 := Reg.ev (v := .pointer (some ⟨d, 0, none⟩)) e94
                exact Reg.obl_free rfl (Reg.wp_eqv (Option.some_ne_none _) (by go_simp) rfl)
              · intro ax wx hx hs
                obtain ⟨e95, -⟩ := hs
                have g95 := Reg.ev (v := .pointer (some ⟨d, 0, none⟩)) e95
                exact Reg.obl_free rfl (Reg.wp_eqv (Option.some_ne_none _) (by go_simp) rfl)
              · intro ax wx hx hs
                obtain ⟨e96, -⟩ := hs
                have g96 := Reg.ev (v := .pointer (some ⟨d, 4, none⟩)) e96
                have l0 := str10 (HI5.out.box.next hx)
                exact Reg.obl_free rfl (Reg.wp_eqv (Option.some_ne_none _) (by go_simp) rfl)
              · intro ax wx hx hs
                obtain ⟨e93, e97, -⟩ := hs
                have g93 := Reg.ev (v := .int .i64 (X.sure + s)) e93
                have g97 := Reg.ev (v := .int .i64 (X.head)) e97
                refine Reg.obl_free rfl ?_
                exact Reg.wp_eqv (Option.some_ne_none _) (by go_simp; rw [HKK.out]; exact IntWalk.i64_in _ (by omega)) rfl
              · intro ax wx hx hs
                obtain ⟨e87, e98, -⟩ := hs
                have g87 := Reg.ev (v := .slice A0 n0 c0) e87
                have g98 := Reg.ev (v := .int .i64 (k : Int)) e98
                refine Reg.obl_free rfl ?_
                have hq1 : (0 : Int) ≤ (k : Int) := by omega
                have hq2 : (k : Int) ≤ (c0 : Int) := by omega
                exact Reg.wp_eqv (Option.some_ne_none _) (by go_simp) rfl
              · intro ax wx hx hs
                obtain ⟨e83, -⟩ := hs
                have g83 := Reg.ev (v := .pointer (some ⟨d, 0, none⟩)) e83
                exact Reg.obl_free rfl (Reg.wp_eqv (Option.some_ne_none _) (by go_simp) rfl)
              · intro ax wx hx hs
                obtain ⟨e100, -⟩ := hs
                have g100 := Reg.ev (v := .pointer (some ⟨d, 0, none⟩)) e100
                exact Reg.obl_free rfl (Reg.wp_eqv (Option.some_ne_none _) (by go_simp) rfl)
            · intro W6 hwf
              simp only [Reg.Fin]
              rintro _ rfl _ rfl _ rfl _ rfl _ rfl _ rfl _ rfl _ rfl _ rfl _ rfl _ rfl _ rfl _ rfl _ rfl _ rfl _ rfl _ rfl _ rfl _ rfl
              have hwf' : Below W5.heap.size W5 W6 := hwf
              have hI6 := HI5.out.at_ (fun b hb => hwf'.block b (HI5.out.lt b hb))
              have HK6 := Lib.hid (HK5.out.step hwf' HK5.out.size)
              have hz := fun i => hI6.box.frozen i
              have f1 := str10 hI6.box
              have hl6 := hI6.box.lt
              obtain ⟨gb', hO7, hgb⟩ := hI6.log.cut 0 k c0 (Nat.zero_le _) hkn (by omega) (Nat.le_refl _)
              rw [Nat.sub_zero, List.drop_zero, Nat.sub_zero] at hO7
              have hg7 := grown_set (grown_refl W6 d) 2 (.slice (cutA A0 0 c0 1) k c0)
              have hk1 := HKK.out
              have ho := HOK.out
              have hok5 : DevP.Ok { X with now := X.safe, log := X.log.take k } := ⟨ho.n0, ho.n1, rfl, ho.h0, ho.s0, by show X.sure ≤ X.head + ((X.log.take k).length : Nat); rw [List.length_take]; omega, ho.t0, ho.t1, ho.o0, ho.f0, ho.f1, ho.w0, ho.w0⟩
              obtain ⟨bs7, hD7, hn7⟩ := hI6.relog (X' := { X with now := X.safe, log := X.log.take k }) (fun b hb => hg7.block b (hI6.pages.lt b hb) (by intro e; injection e with e; exact hI6.bp_ne b hb e)) (hI6.box.set 2 (.slice (cutA A0 0 c0 1) k c0)) (hO7.grown hg7 (by intro e; rcases hgb with e1 | e1; exact hI6.gb_ne (e1.symm.trans e); rw [e1] at e; cases e)) (hgb.imp id .inl) rfl rfl (Nat.le_refl _) hok5
              have HK7 := Lib.hid (HK6.out.grown hg7 HK6.out.size (.inr HD.out.mem))
              have hsz6 := HK6.out.size
              have HN7 : Hid (∀ b ∈ bs7, b ∈ bs ∨ w.heap.size ≤ b) := Lib.hid (fun b hb => by
                rcases hn7 b hb with h | h
                · exact .inl (by rw [HB.out]; exact HSUB.out b h)
                · exact .inr (by omega))
              have HD7 := Lib.hid hD7
              clear hwf hwf' hI6 hO7 hgb hg7 hok5 hD7 hn7 hk1 ho
              refine Reg.Goal.mk ?_
              go_simp
              generalize hW7 : W6.setCell ⟨d, 2, none⟩ (.slice (cutA A0 0 c0 1) k c0) = W7
              rw [hW7] at HK7 HD7
              clear hW7 hz f1
              go_wp2_with fail
              refine (end_any W7 HD7.out (by have h := HSM.out; refine ⟨h.1, ?_, h.2.2⟩; have h2 := h.2.1; show X.head + ((X.log.take k).length : Nat) ≤ _; rw [List.length_take]; omega)).mono ?_
              rintro e W8 ⟨rfl, hb8⟩
              have hlen : ((X.log.take k).length : Int) = (k : Int) := by rw [List.length_take]; omega
              have hD8 := HD7.out.below hb8
              have HK8 := Lib.hid (HK7.out.step hb8 HK7.out.size)
              obtain ⟨sb8, mb8, bp8, gb8, A8, n8, c8, nm8, es8, hI8, hbs8⟩ := hD8
              have hz := fun i => hI8.box.frozen i
              have f1 := str10 hI8.box
              have hl8 := hI8.box.lt
              have HI8 := Lib.hid hI8
              have HB8 := Lib.hid hbs8
              have hEE : X.head + ((X.log.take k).length : Nat) = X.sure + s := by have := HKK.out; omega
              have HEE := Lib.hid hEE
              dsimp only
              rw [hEE]
              have hss1 : 0 ≤ X.sure + s := by omega
              have hss2 : X.sure + s ≤ 100000000000000 := by omega
              have hg9 := grown_set (grown_set (grown_set (grown_set (grown_refl W8 d) 5 (.int .i64 (X.sure + s))) 6 (.bool false)) 7 (.int .i64 0)) 8 (.bool false)
              have hS9 := (((HI8.out.box.set 5 (.int .i64 (X.sure + s))).set 6 (.bool false)).set 7 (.int .i64 0)).set 8 (.bool false)
              have HG9 := Lib.hid hg9
              have HS9 := Lib.hid hS9
              clear hb8 hI8 hbs8 hEE hlen hg9 hS9
              go_wp2
              go_end0
              have ho := HOK.out
              have hcr : DevP.crashed X m = { X with now := X.safe, log := X.log.take k, sure := X.sure + s, fused := false, fuse := 0, off := false } := by
                unfold DevP.crashed
                rw [HST.out, HKK.out]
                rfl
              have hok9 : DevP.Ok (DevP.crashed X m) := by
                rw [hcr]
                exact ⟨ho.n0, ho.n1, rfl, ho.h0, by show X.head ≤ X.sure + s; omega, by show X.sure + s ≤ X.head + ((X.log.take k).length : Nat); rw [HEE.out]; exact Int.le_refl _, ho.t0, ho.t1, ho.o0, Int.le_refl _, by show (0 : Int) ≤ _; omega, ho.w0, ho.w0⟩
              refine ⟨rfl, bs7, ⟨sb8, mb8, bp8, gb8, A8, n8, c8, nm8, es8, HI8.out.turn (X' := DevP.crashed X m) HG9.out (by rw [hcr]; exact HS9.out) (by rw [hcr]) (by rw [hcr]) (by rw [hcr]) (by rw [hcr]; exact Nat.le_refl _) hok9, HB8.out⟩, HN7.out, HK8.out.grown HG9.out HK8.out.size (.inr HD.out.mem)⟩
        · have hd31 : decide ((0 : Int) < (q : Int)) = true := by simp; omega
          obtain ⟨b9, o9, vs9, e9, hb9, hr9, hc9⟩ := HO.out.elems.at_ (k := 0) (by omega)
          subst e9
          have hc0 := hc9 0 _ (by rw [show vs9 = _ from hr9]; rfl)
          simp only [Nat.zero_mul, Nat.add_zero] at hc0
          have hq1 : (0 : Int) < (q : Int) := by omega
          clear hc9 hr9
          obtain ⟨W4, hclr0, hM4, ht4⟩ := HI2.out.pages.map.clear Tryz.underlying56 0
          have hclr : (clrSem #[56] 0 #[.map (some mb)]).run Tryz.prog wr = .ok (.tuple #[]) W4 := hclr0
          obtain ⟨hI4, hsub4⟩ := HI2.out.cleared hM4 ht4.grown
          have HG4 := Lib.hid ht4.grown
          have HI4 := Lib.hid hI4
          have HSUB := Lib.hid hsub4
          have hlf4 : w.heap.size ≠ mb := by
            intro e
            obtain ⟨t, ht⟩ := HS2.out
            obtain ⟨es5, c5, hb5, -⟩ := HI2.out.pages.map.own
            rw [e, hb5] at ht
            cases ht
          have HS4 := Lib.hid (HS2.out.grown HG4.out hlf4)
          have HK4 := Lib.hid ((Reg.KeepB.of (b0 := bs) (HBW.out.trans (HB2.out.mono (by omega)))).grown HG4.out (Nat.le_trans HBW.out.size HB2.out.size) (.inr (by rw [HB.out]; have hm : mb ∈ bp := by { rw [HI.out.pages.bpe]; simp }; simp [hm])))
          clear hclr0 hM4 ht4 hI4 hsub4
          go_wp2_with fail
          have HD4 : Hid (Dev W4 d (d :: (gb.toList ++ [sb, mb])) { X with now := X.safe }) := Lib.hid ⟨sb, mb, _, gb, A0, n0, c0, 0, [], HI4.out, rfl⟩
          have HSM4 : Hid (DevP.Small { X with now := X.safe }) := Lib.hid ⟨HSM.out.1, HSM.out.2.1, HSM.out.2.2⟩
          obtain ⟨s, hs⟩ : ∃ s, DevP.stay X m = s := ⟨_, rfl⟩
          have HST := Lib.hid hs
          have hst : min (max m 0) (X.head + (X.log.length : Nat) - X.sure) = s := hs
          have hs0 : 0 ≤ s := by omega
          have hs1 : s ≤ X.head + (X.log.length : Nat) - X.sure := by omega
          have hmi := HM.out
          unfold In64 at hmi
          have HMI := Lib.hid hmi
          clear hs hmi hclr f1 f2
          obtain ⟨y, hy⟩ : ∃ y : Int, X.head + (X.log.length : Nat) = y := ⟨_, rfl⟩
          have HY := Lib.hid hy
          have hy1 : 0 ≤ y := by omega
          have hy2 : y ≤ 100000000000000 := by omega
          have hy3 : X.sure ≤ y := by omega
          have hst2 : min (max m 0) (y - X.sure) = s := by rw [← hy]; exact hst
          have HST2 := Lib.hid hst2
          have hs1' : s ≤ y - X.sure := by omega
          clear hst hs1 hy hst2
          have hl4 := HI4.out.box.lt
          have hlf4' := HS4.out.lt
          refine Reg.wp_region_vals (R := ext) (W := W4) [Reg.eqv (.pointer (some ⟨w.heap.size, 1, none⟩)), Reg.eqv (.int .i64 m), Reg.eqv (.int .i64 (max m 0)), Reg.eqv (.pointer (some ⟨d, 0, none⟩)), Reg.eqv (.int .i64 y), Reg.eqv (.pointer (some ⟨d, 0, none⟩)), Reg.eqv (.pointer (some ⟨d, 0, none⟩)), Reg.eqv (.pointer (some ⟨d, 5, none⟩)), Reg.eqv (.int .i64 (X.sure)), Reg.eqv (.int .i64 (y - X.sure)), Reg.eqv (.int .i64 s), Reg.eqv (.int .i64 s)] 116 [[(3, none)], [(72, some 0)], [(73, some 1)], [(0, none)], [(75, some 3)], [(0, none)], [(77, some 5)], [(78, some 6)], [(79, some 7)], [(76, some 4), (80, some 8)], [(74, some 2), (81, some 9)], [(82, some 10)]] rfl (by kernel_rfl) (by kernel_rfl) (by kernel_rfl) ?_ [some 72, some 73, some 74, some 75, some 76, some 77, some 78, some 79, some 80, some 81, some 82, some 10] (by kernel_rfl) ?_
          · refine ⟨?_, ?_, ?_, ?_, ?_, ?_, ?_, ?_, ?_, ?_, ?_, ?_, trivial⟩
            · intro ax wx hx hs
              obtain ⟨e3, -⟩ := hs
              have g3 := Reg.ev (v := .pointer (some ⟨w.heap.size, 0, none⟩)) e3
              exact Reg.obl_free rfl (Reg.wp_eqv (Option.some_ne_none _) (by go_simp) rfl)
            · intro ax wx hx hs
              obtain ⟨e72, -⟩ := hs
              have g72 := Reg.ev (v := .pointer (some ⟨w.heap.size, 1, none⟩)) e72
              have l0 := str10 (HI4.out.box.next hx)
              have l1 := str2 (HS4.out.next hx)
              exact Reg.obl_free rfl (Reg.wp_eqv (Option.some_ne_none _) (by go_simp) rfl)
            · intro ax wx hx hs
              obtain ⟨e73, -⟩ := hs
              have g73 := Reg.ev (v := .int .i64 m) e73
              refine Reg.obl_free rfl ?_
              have hmi := HMI.out
              exact Reg.wp_eqv (Option.some_ne_none _) (by go_simp <;> (first | (split <;> omega) | omega)) rfl
            · intro ax wx hx hs
              obtain ⟨e0, -⟩ := hs
              have g0 := Reg.ev (v := .pointer (some ⟨d, 0, none⟩)) e0
              exact Reg.obl_free rfl (Reg.wp_eqv (Option.some_ne_none _) (by go_simp) rfl)
            · intro ax wx hx hs
              obtain ⟨e75, -⟩ := hs
              have g75 := Reg.ev (v := .pointer (some ⟨d, 0, none⟩)) e75
              refine Reg.obl_free rfl ?_
              have hx' : Below W4.heap.size W4 wx := hx
              go_simp
              refine (end_any wx (HD4.out.below hx') HSM4.out).mono ?_
              rintro e wy ⟨rfl, hby⟩
              exact Reg.done (Option.some_ne_none _) (by show Value.int _ _ = _; exact congrArg (Value.int .i64) HY.out) hby
            · intro ax wx hx hs
              obtain ⟨e0, -⟩ := hs
              have g0 := Reg.ev (v := .pointer (some ⟨d, 0, none⟩)) e0
              exact Reg.obl_free rfl (Reg.wp_eqv (Option.some_ne_none _) (by go_simp) rfl)
            · intro ax wx hx hs
              obtain ⟨e77, -⟩ := hs
              have g77 := Reg.ev (v := .pointer (some ⟨d, 0, none⟩)) e77
              exact Reg.obl_free rfl (Reg.wp_eqv (Option.some_ne_none _) (by go_simp) rfl)
            · intro ax wx hx hs
              obtain ⟨e78, -⟩ := hs
              have g78 := Reg.ev (v := .pointer (some ⟨d, 0, none⟩)) e78
              exact Reg.obl_free rfl (Reg.wp_eqv (Option.some_ne_none _) (by go_simp) rfl)
            · intro ax wx hx hs
              obtain ⟨e79, -⟩ := hs
              have g79 := Reg.ev (v := .pointer (some ⟨d, 5, none⟩)) e79
              have l0 := str10 (HI4.out.box.next hx)
              have l1 := str2 (HS4.out.next hx)
              exact Reg.obl_free rfl (Reg.wp_eqv (Option.some_ne_none _) (by go_simp) rfl)
            · intro ax wx hx hs
              obtain ⟨e76, e80, -⟩ := hs
              have g76 := Reg.ev (v := .int .i64 y) e76
              have g80 := Reg.ev (v := .int .i64 (X.sure)) e80
              refine Reg.obl_free rfl ?_
              exact Reg.wp_eqv (Option.some_ne_none _) (by go_simp; exact IntWalk.i64_in _ (by omega)) rfl
            · intro ax wx hx hs
              obtain ⟨e74, e81, -⟩ := hs
              have g74 := Reg.ev (v := .int .i64 (max m 0)) e74
              have g81 := Reg.ev (v := .int .i64 (y - X.sure)) e81
              refine Reg.obl_free rfl ?_
              have hst2 := HST2.out
              have hmi := HMI.out
              exact Reg.wp_eqv (Option.some_ne_none _) (by go_simp <;> (first | (split <;> omega) | omega)) rfl
            · intro ax wx hx hs
              obtain ⟨e82, -⟩ := hs
              have g82 := Reg.ev (v := .int .i64 s) e82
              exact Reg.obl_free rfl (Reg.wp_eqv (Option.some_ne_none _) (by go_simp) rfl)
          · intro W5 hwf
            simp only [Reg.Fin]
            rintro _ rfl _ rfl _ rfl _ rfl _ rfl _ rfl _ rfl _ rfl _ rfl _ rfl _ rfl _ rfl
            go_simp
            have hwf' : Below W4.heap.size W4 W5 := hwf
            have HI5 := Lib.hid (HI4.out.at_ (fun b hb => hwf'.block b (HI4.out.lt b hb)))
            have HK5 := Lib.hid (HK4.out.step hwf' HK4.out.size)
            clear hwf hwf'
            obtain ⟨k, hk⟩ : ∃ k : Nat, X.sure + s - X.head = (k : Int) := ⟨(X.sure + s - X.head).toNat, by omega⟩
            have HKK := Lib.hid hk
            have hkl : k ≤ X.log.length := by have := HY.out; omega
            have hkn : k ≤ n0 := by rw [← HN0.out]; exact hkl
            have hkc : k ≤ c0 := by omega
            clear hk
            have hl5 := HI5.out.box.lt
            go_wp2_with fail
            refine Reg.wp_region_tail (R := ext) (W := W5) [Reg.eqv (.pointer (some ⟨d, 0, none⟩)), Reg.eqv (.pointer (some ⟨d, 0, none⟩)), Reg.eqv (.pointer (some ⟨d, 0, none⟩)), Reg.eqv (.pointer (some ⟨d, 2, none⟩)), Reg.eqv (.slice A0 n0 c0), Reg.eqv (.pointer (some ⟨d, 0, none⟩)), Reg.eqv (.pointer (some ⟨d, 0, none⟩)), Reg.eqv (.pointer (some ⟨d, 5, none⟩)), Reg.eqv (.int .i64 (X.sure)), Reg.eqv (.int .i64 s), Reg.eqv (.int .i64 (X.sure + s)), Reg.eqv (.pointer (some ⟨d, 0, none⟩)), Reg.eqv (.pointer (some ⟨d, 0, none⟩)), Reg.eqv (.pointer (some ⟨d, 4, none⟩)), Reg.eqv (.int .i64 (X.head)), Reg.eqv (.int .i64 (k : Int)), Reg.eqv (.slice (cutA A0 0 c0 1) k c0), Reg.eqv (.pointer (some ⟨d, 0, none⟩)), Reg.eqv (.pointer (some ⟨d, 2, none⟩))] 116 19 _ [[(0, none)], [(0, none)], [(84, some 1)], [(85, some 2)], [(86, some 3)], [(0, none)], [(88, some 5)], [(89, some 6)], [(90, some 7)], [(10, none)], [(91, some 8), (92, some 9)], [(0, none)], [(94, some 11)], [(95, some 12)], [(96, some 13)], [(93, some 10), (97, some 14)], [(87, some 4), (98, some 15)], [(83, some 0)], [(100, some 17)]] rfl (by kernel_rfl) (by kernel_rfl) (by rfl) (by rfl) rfl (by kernel_rfl) ?_ [some 83, some 84, some 85, some 86, some 87, some 88, some 89, some 90, some 91, some 92, some 93, some 94, some 95, some 96, some 97, some 98, some 99, some 100, some 101] (by kernel_rfl) ?_
            · refine ⟨?_, ?_, ?_, ?_, ?_, ?_, ?_, ?_, ?_, ?_, ?_, ?_, ?_, ?_, ?_, ?_, ?_, ?_, ?_, trivial⟩
              · intro ax wx hx hs
                obtain ⟨e0, -⟩ := hs
                have g0 := Reg.ev (v := .pointer (some ⟨d, 0, none⟩)) e0
                exact Reg.obl_free rfl (Reg.wp_eqv (Option.some_ne_none _) (by go_simp) rfl)
              · intro ax wx hx hs
                obtain ⟨e0, -⟩ := hs
                have g0 := Reg.ev (v := .pointer (some ⟨d, 0, none⟩)) e0
                exact Reg.obl_free rfl (Reg.wp_eqv (Option.some_ne_none _) (by go_simp) rfl)
              · intro ax wx hx hs
                obtain ⟨e84, -⟩ := hs
                have g84 := Reg.ev (v := .pointer (some ⟨d, 0, none⟩)) e84
                exact Reg.obl_free rfl (Reg.wp_eqv (Option.some_ne_none _) (by go_simp) rfl)
              · intro ax wx hx hs
                obtain ⟨e85, -⟩ := hs
                have g85 := Reg.ev (v := .pointer (some ⟨d, 0, none⟩)) e85
                exact Reg.obl_free rfl (Reg.wp_eqv (Option.some_ne_none _) (by go_simp) rfl)
              · intro ax wx hx hs
                obtain ⟨e86, -⟩ := hs
                have g86 := Reg.ev (v := .pointer (some ⟨d, 2, none⟩)) e86
                have l0 := str10 (HI5.out.box.next hx)
                exact Reg.obl_free rfl (Reg.wp_eqv (Option.some_ne_none _) (by go_simp) rfl)
              · intro ax wx hx hs
                obtain ⟨e0, -⟩ := hs
                have g0 := Reg.ev (v := .pointer (some ⟨d, 0, none⟩)) e0
                exact Reg.obl_free rfl (Reg.wp_eqv (Option.some_ne_none _) (by go_simp) rfl)
              · intro ax wx hx hs
                obtain ⟨e88, -⟩ := hs
                have g88 := Reg.ev (v := .pointer (some ⟨d, 0, none⟩)) e88
                exact Reg.obl_free rfl (Reg.wp_eqv (Option.some_ne_none _) (by go_simp) rfl)
              · intro ax wx hx hs
                obtain ⟨e89, -⟩ := hs
                have g89 := Reg.ev (v := .pointer (some ⟨d, 0, none⟩)) e89
                exact Reg.obl_free rfl (Reg.wp_eqv (Option.some_ne_none _) (by go_simp) rfl)
              · intro ax wx hx hs
                obtain ⟨e90, -⟩ := hs
                have g90 := Reg.ev (v := .pointer (some ⟨d, 5, none⟩)) e90
                have l0 := str10 (HI5.out.box.next hx)
                exact Reg.obl_free rfl (Reg.wp_eqv (Option.some_ne_none _) (by go_simp) rfl)
              · intro ax wx hx hs
                obtain ⟨e10, -⟩ := hs
                have g10 := Reg.ev (v := .int .i64 s) e10
                exact Reg.obl_free rfl (Reg.wp_eqv (Option.some_ne_none _) (by go_simp) rfl)
              · intro ax wx hx hs
                obtain ⟨e91, e92, -⟩ := hs
                have g91 := Reg.ev (v := .int .i64 (X.sure)) e91
                have g92 := Reg.ev (v := .int .i64 s) e92
                refine Reg.obl_free rfl ?_
                exact Reg.wp_eqv (Option.some_ne_none _) (by go_simp; exact IntWalk.i64_in _ (by omega)) rfl
              · intro ax wx hx hs
                obtain ⟨e0, -⟩ := hs
                have g0 := Reg.ev (v := .pointer (some ⟨d, 0, none⟩)) e0
                exact Reg.obl_free rfl (Reg.wp_eqv (Option.some_ne_none _) (by go_simp) rfl)
              · intro ax wx hx hs
                obtain ⟨e94, -⟩ := hs
                have g94 := Reg.ev (v := .pointer (some ⟨d, 0, none⟩)) e94
                exact Reg.obl_free rfl (Reg.wp_eqv (Option.some_ne_none _) (by go_simp) rfl)
              · intro ax wx hx hs
                obtain ⟨e95, -⟩ := hs
                have g95 := Reg.ev (v := .pointer (some ⟨d, 0, none⟩)) e95
                exact Reg.obl_free rfl (Reg.wp_eqv (Option.some_ne_none _) (by go_simp) rfl)
              · intro ax wx hx hs
                obtain ⟨e96, -⟩ := hs
                have g96 := Reg.ev (v := .pointer (some ⟨d, 4, none⟩)) e96
                have l0 := str10 (HI5.out.box.next hx)
                exact Reg.obl_free rfl (Reg.wp_eqv (Option.some_ne_none _) (by go_simp) rfl)
              · intro ax wx hx hs
                obtain ⟨e93, e97, -⟩ := hs
                have g93 := Reg.ev (v := .int .i64 (X.sure + s)) e93
                have g97 := Reg.ev (v := .int .i64 (X.head)) e97
                refine Reg.obl_free rfl ?_
                exact Reg.wp_eqv (Option.some_ne_none _) (by go_simp; rw [HKK.out]; exact IntWalk.i64_in _ (by omega)) rfl
              · intro ax wx hx hs
                obtain ⟨e87, e98, -⟩ := hs
                have g87 := Reg.ev (v := .slice A0 n0 c0) e87
                have g98 := Reg.ev (v := .int .i64 (k : Int)) e98
                refine Reg.obl_free rfl ?_
                have hq1 : (0 : Int) ≤ (k : Int) := by omega
                have hq2 : (k : Int) ≤ (c0 : Int) := by omega
                exact Reg.wp_eqv (Option.some_ne_none _) (by go_simp) rfl
              · intro ax wx hx hs
                obtain ⟨e83, -⟩ := hs
                have g83 := Reg.ev (v := .pointer (some ⟨d, 0, none⟩)) e83
                exact Reg.obl_free rfl (Reg.wp_eqv (Option.some_ne_none _) (by go_simp) rfl)
              · intro ax wx hx hs
                obtain ⟨e100, -⟩ := hs
                have g100 := Reg.ev (v := .pointer (some ⟨d, 0, none⟩)) e100
                exact Reg.obl_free rfl (Reg.wp_eqv (Option.some_ne_none _) (by go_simp) rfl)
            · intro W6 hwf
              simp only [Reg.Fin]
              rintro _ rfl _ rfl _ rfl _ rfl _ rfl _ rfl _ rfl _ rfl _ rfl _ rfl _ rfl _ rfl _ rfl _ rfl _ rfl _ rfl _ rfl _ rfl _ rfl
              have hwf' : Below W5.heap.size W5 W6 := hwf
              have hI6 := HI5.out.at_ (fun b hb => hwf'.block b (HI5.out.lt b hb))
              have HK6 := Lib.hid (HK5.out.step hwf' HK5.out.size)
              have hz := fun i => hI6.box.frozen i
              have f1 := str10 hI6.box
              have hl6 := hI6.box.lt
              obtain ⟨gb', hO7, hgb⟩ := hI6.log.cut 0 k c0 (Nat.zero_le _) hkn (by omega) (Nat.le_refl _)
              rw [Nat.sub_zero, List.drop_zero, Nat.sub_zero] at hO7
              have hg7 := grown_set (grown_refl W6 d) 2 (.slice (cutA A0 0 c0 1) k c0)
              have hk1 := HKK.out
              have ho := HOK.out
              have hok5 : DevP.Ok { X with now := X.safe, log := X.log.take k } := ⟨ho.n0, ho.n1, rfl, ho.h0, ho.s0, by show X.sure ≤ X.head + ((X.log.take k).length : Nat); rw [List.length_take]; omega, ho.t0, ho.t1, ho.o0, ho.f0, ho.f1, ho.w0, ho.w0⟩
              obtain ⟨bs7, hD7, hn7⟩ := hI6.relog (X' := { X with now := X.safe, log := X.log.take k }) (fun b hb => hg7.block b (hI6.pages.lt b hb) (by intro e; injection e with e; exact hI6.bp_ne b hb e)) (hI6.box.set 2 (.slice (cutA A0 0 c0 1) k c0)) (hO7.grown hg7 (by intro e; rcases hgb with e1 | e1; exact hI6.gb_ne (e1.symm.trans e); rw [e1] at e; cases e)) (hgb.imp id .inl) rfl rfl (Nat.le_refl _) hok5
              have HK7 := Lib.hid (HK6.out.grown hg7 HK6.out.size (.inr HD.out.mem))
              have hsz6 := HK6.out.size
              have HN7 : Hid (∀ b ∈ bs7, b ∈ bs ∨ w.heap.size ≤ b) := Lib.hid (fun b hb => by
                rcases hn7 b hb with h | h
                · exact .inl (by rw [HB.out]; exact HSUB.out b h)
                · exact .inr (by omega))
              have HD7 := Lib.hid hD7
              clear hwf hwf' hI6 hO7 hgb hg7 hok5 hD7 hn7 hk1 ho
              refine Reg.Goal.mk ?_
              go_simp
              generalize hW7 : W6.setCell ⟨d, 2, none⟩ (.slice (cutA A0 0 c0 1) k c0) = W7
              rw [hW7] at HK7 HD7
              clear hW7 hz f1
              go_wp2_with fail
              refine (end_any W7 HD7.out (by have h := HSM.out; refine ⟨h.1, ?_, h.2.2⟩; have h2 := h.2.1; show X.head + ((X.log.take k).length : Nat) ≤ _; rw [List.length_take]; omega)).mono ?_
              rintro e W8 ⟨rfl, hb8⟩
              have hlen : ((X.log.take k).length : Int) = (k : Int) := by rw [List.length_take]; omega
              have hD8 := HD7.out.below hb8
              have HK8 := Lib.hid (HK7.out.step hb8 HK7.out.size)
              obtain ⟨sb8, mb8, bp8, gb8, A8, n8, c8, nm8, es8, hI8, hbs8⟩ := hD8
              have hz := fun i => hI8.box.frozen i
              have f1 := str10 hI8.box
              have hl8 := hI8.box.lt
              have HI8 := Lib.hid hI8
              have HB8 := Lib.hid hbs8
              have hEE : X.head + ((X.log.take k).length : Nat) = X.sure + s := by have := HKK.out; omega
              have HEE := Lib.hid hEE
              dsimp only
              rw [hEE]
              have hss1 : 0 ≤ X.sure + s := by omega
              have hss2 : X.sure + s ≤ 100000000000000 := by omega
              have hg9 := grown_set (grown_set (grown_set (grown_set (grown_refl W8 d) 5 (.int .i64 (X.sure + s))) 6 (.bool false)) 7 (.int .i64 0)) 8 (.bool false)
              have hS9 := (((HI8.out.box.set 5 (.int .i64 (X.sure + s))).set 6 (.bool false)).set 7 (.int .i64 0)).set 8 (.bool false)
              have HG9 := Lib.hid hg9
              have HS9 := Lib.hid hS9
              clear hb8 hI8 hbs8 hEE hlen hg9 hS9
              go_wp2
              go_end0
              have ho := HOK.out
              have hcr : DevP.crashed X m = { X with now := X.safe, log := X.log.take k, sure := X.sure + s, fused := false, fuse := 0, off := false } := by
                unfold DevP.crashed
                rw [HST.out, HKK.out]
                rfl
              have hok9 : DevP.Ok (DevP.crashed X m) := by
                rw [hcr]
                exact ⟨ho.n0, ho.n1, rfl, ho.h0, by show X.head ≤ X.sure + s; omega, by show X.sure + s ≤ X.head + ((X.log.take k).length : Nat); rw [HEE.out]; exact Int.le_refl _, ho.t0, ho.t1, ho.o0, Int.le_refl _, by show (0 : Int) ≤ _; omega, ho.w0, ho.w0⟩
              refine ⟨rfl, bs7, ⟨sb8, mb8, bp8, gb8, A8, n8, c8, nm8, es8, HI8.out.turn (X' := DevP.crashed X m) HG9.out (by rw [hcr]; exact HS9.out) (by rw [hcr]) (by rw [hcr]) (by rw [hcr]) (by rw [hcr]; exact Nat.le_refl _) hok9, HB8.out⟩, HN7.out, HK8.out.grown HG9.out HK8.out.size (.inr HD.out.mem)⟩
    · intro x sv kl yd yp w1 cnt1 hkey hlk hv hat hrg1 hcl hg1 hs1 hen
      obtain ⟨x', ex, rfl, -⟩ := Maps.keyOf_int_inv Tryz.underlying3 hkey
      cases ex
      have hsz1 := hg1.size
      have hO1 := IntE.grown HK.out.2.2.1 hg1 (by omega)
      have hB1 := below_grown HK.out.2.2.2.1 hg1 (by omega)
      have hba : Below w1.heap.size w1 (w1.alloc (.cells #[.int .i64 x] 3)) := balloc (bsame w1) _
      have hO2 := hO1.next hba
      obtain ⟨A', c', w3, happ, hO3, hb3, hg3, hA3⟩ := hO2.app (P := Tryz.prog) 46 46 i0 _ 8 Tryz.underlying46 HI0.out iz0 iz1 iz2 rfl (IntE.lit (wr := hid A (w1.alloc (.cells #[.int .i64 x] 3))) (x := x) (Str.new w1 _ _)) (by unfold maxLen; omega) (by omega) (by simp; omega)
      have hrgA := World.ranges.alloc hrg1 (.cells #[.int .i64 x] 3)
      have HRG1 := Lib.hid (hrgA.kept hg3 (by
        intro e
        cases A with
        | none => cases e
        | some a => injection e with e2; have := HK.out.2.2.1.ge a rfl; omega) (by
        intro e
        cases A with
        | none => cases e
        | some a => injection e with e2; have := HK.out.2.2.1.ge a rfl; omega))
      have HB3 := Lib.hid ((hB1.trans (hba.mono (by omega))).trans (hb3.mono (by omega)))
      have HO3 := Lib.hid hO3
      have hsz3 : W0.heap.size + 1 ≤ w3.heap.size := by have := hb3.size; have := hba.size; omega
      have HCL := Lib.hid hcl
      have HRGO := Lib.hid HK.out.1
      clear hkey hlk hv hat hrg1 hcl hg1 hs1 hO1 hB1 hba hO2 hO3 hb3 hg3 hA3 hrgA hsz1 HK
      go_wp2
      go_roundw
      case rel => exact ⟨_, cnt1, q + 1, c', A', _, rfl, Lib.hid ⟨HRG1.out, by have := HCL.out; omega, HO3.out, HB3.out, hsz3⟩⟩
      case measure => rw [HRG1.out.left_eq, HRGO.out.left_eq]; exact HCL.out
end Go.Proofs.YtpdfnlhhnodnjaaGreat.DevW
end
