/-
  Texts of one claim, joined: MetaFmt, MetaFormatsW.
-/
import Derived.Test.YtldgdgfplgdipaaMetaG
import Derived.Test.YtldgdgfplgdipaaCrcG
import Derived.Test.YtldgdgfplgdipaaDevGE
import Derived.Test.YtldgdgfplgdipaaDevGF
namespace Go.Proofs.Ytldgdgfplgdipaa
open Go.RowKit Go.Maps DevW
set_option linter.unusedVariables false
set_option linter.unusedSimpArgs false
namespace FmtP
/-- the page of a number, as Format writes it, not sealed -/
def raw (b p f c l : Int) (j : Nat) : List UInt8 := if j = 0 then MetaP.page b p f c l else SlotP.over (SlotP.zeros 512) 12 (BeP.parts 2 (j : Int))
def pg (b p f c l : Int) (j : Nat) : List UInt8 := PageP.sealed (raw b p f c l j)
theorem new_length (m : Int) : (SlotP.over (SlotP.zeros 512) 12 (BeP.parts 2 m)).length = 512 := by
  rw [SlotP.over_length _ _ _ (by rw [BeP.parts_length, SlotPut.zeros_len]; omega), SlotPut.zeros_len]
theorem raw_length (b p f c l : Int) (j : Nat) : (raw b p f c l j).length = 512 := by
  unfold raw
  split
  · exact MetaP.page_length b p f c l
  · exact new_length _
theorem pg_length (b p f c l : Int) (j : Nat) : (pg b p f c l j).length = 512 := PageP.sealed_length _ (raw_length b p f c l j)
/-- a device behind k writings -/
structure Inv (X : DevX) (N k : Nat) (fz : Bool) (fu : Int) (P : Nat → List UInt8) : Prop where
  n : X.safe.length = N
  off : X.off = false
  fzE : X.fused = fz
  fuE : fz = true → X.fuse = fu - (k : Int)
  log : X.log = []
  head : X.head = 0
  ops : X.ops = (k : Int)
  wr : X.wr ≤ k
  now : ∀ j, j < k → X.now[j]? = some (P j)
variable {X : DevX} {N k : Nat} {fz : Bool} {fu : Int} {P : Nat → List UInt8}
theorem Inv.errs (h : Inv X N k fz fu P) : DevP.err X true = if fz && decide (fu = (k : Int)) then 3 else 0 := by
  unfold DevP.err
  rw [h.off, h.fzE]
  have hf := h.fuE
  cases hz : fz
  · rfl
  · have hx := hf hz
    simp only [Bool.true_and, Bool.false_eq_true, if_false, Bool.not_true, decide_eq_true_eq, hx]
    by_cases e : fu = (k : Int)
    · rw [if_pos (by omega), if_pos e]
    · rw [if_neg (by omega), if_neg e]
theorem Inv.small (h : Inv X N k fz fu P) (hk : k ≤ 1000) : DevP.Small X := by
  refine ⟨by rw [h.ops]; omega, ?_, by have := h.wr; omega⟩
  rw [h.head, h.log]; simp
theorem Inv.small_op (h : Inv X N k fz fu P) (hk : k ≤ 1000) (fits : Bool) {X1 : DevX} (h1 : X1.ops = X.ops) (h2 : X1.head = X.head) (h3 : X1.log = X.log) (h4 : X1.wr ≤ k + 1) : DevP.Small (DevP.op X fits X1) := by
  unfold DevP.op
  split
  · refine ⟨by show X1.ops + 1 ≤ _; rw [h1, h.ops]; omega, ?_, by show X1.wr ≤ _; omega⟩
    show X1.head + (X1.log.length : Nat) ≤ _
    rw [h2, h3, h.head, h.log]; simp
  · unfold DevP.stop
    split
    · exact h.small hk
    split
    · exact h.small hk
    · exact h.small hk
theorem Inv.wrote (h : Inv X N k fz fu P) (ho : DevP.Ok X) (hk : k < N) (he : DevP.err X true = 0) : Inv (DevP.op X true (DevP.wrote X k (P k))) N (k + 1) fz fu P := by
  unfold DevP.op
  rw [if_pos he]
  refine ⟨h.n, h.off, h.fzE, ?_, h.log, h.head, ?_, ?_, ?_⟩
  · intro hz
    show (if X.fused then X.fuse - 1 else X.fuse) = _
    rw [h.fzE, hz, if_pos rfl, h.fuE hz]
    omega
  · show X.ops + 1 = _
    rw [h.ops]; omega
  · show X.wr + 1 ≤ _
    have := h.wr; omega
  · intro j hj
    show (X.now.set k (P k))[j]? = _
    by_cases e : j = k
    · subst e
      rw [List.getElem?_set_self (by rw [ho.nl, h.n]; exact hk)]
    · rw [List.getElem?_set_ne (fun e2 => e e2.symm)]
      exact h.now j (by omega)
/-- the fuse has more than k -/
theorem Inv.left (h : Inv X N k fz fu P) (ho : DevP.Ok X) (hz : fz = true) : (k : Int) ≤ fu := by
  have h1 := h.fuE hz
  have h2 := ho.f0
  omega
def want (b p f c l : Int) (N : Nat) (fz : Bool) (fu : Int) : Int := if MetaP.right b p f c l = false then 1 else if (N : Int) < p then 2 else if fz = true ∧ fu < b + 2 then 3 else 0
end FmtP
namespace FmtW
/-- what Format's rounds keep -/
structure FK (w wr : World) (d : Nat) (bs bs' : List Nat) (cs : Array Value) (X : DevX) : Prop where
  dev : Dev wr d bs' X
  keep : Reg.KeepB w.heap.size bs w wr
  new : ∀ x ∈ bs', x ∈ bs ∨ w.heap.size + 1 ≤ x
  box : Str wr w.heap.size cs
theorem FK.next {w wr wr' : World} {d : Nat} {bs bs' : List Nat} {cs : Array Value} {X : DevX} (h : FK w wr d bs bs' cs X) (hb : Below wr.heap.size wr wr') : FK w wr' d bs bs' cs X :=
  ⟨h.dev.below hb, h.keep.step hb h.keep.size, h.new, h.box.next hb⟩
theorem FK.turn {w wr wr' : World} {d : Nat} {bs bs' bs2 : List Nat} {cs : Array Value} {X X2 : DevX} (h : FK w wr d bs bs' cs X) (hbs : ∀ x ∈ bs, x < w.heap.size) (hd : Dev wr' d bs2 X2) (hn : ∀ x ∈ bs2, x ∈ bs' ∨ wr.heap.size ≤ x) (hk : Reg.KeepB wr.heap.size bs' wr wr') : FK w wr' d bs bs2 cs X2 := by
  have hlt := h.box.lt
  refine ⟨hd, ⟨hk.os.trans h.keep.os, hk.tape.trans h.keep.tape, hk.output.trans h.keep.output, Nat.le_trans h.keep.size hk.size, fun i hi hni => ?_⟩, fun x hx => ?_, h.box.keepB hk (fun hm => ?_)⟩
  · exact (hk.block i (Nat.lt_of_lt_of_le hi h.keep.size) (fun hm => by
      rcases h.new i hm with h1 | h1
      · exact hni h1
      · omega)).trans (h.keep.block i hi hni)
  · rcases hn x hx with h1 | h1
    · exact h.new x h1
    · omega
  · rcases h.new _ hm with h1 | h1
    · have := hbs _ h1; omega
    · omega
/-- what Format tells -/
def Formatted (w : World) (d : Nat) (bs : List Nat) (N : Nat) (b : Int) (P : Nat → List UInt8) (r : Int) (e : Ending) (w' : World) : Prop :=
  e = .returned (.int .i64 r) ∧ ∃ bs' X', Dev w' d bs' X' ∧ Reg.KeepB w.heap.size bs w w' ∧ (∀ x ∈ bs', x ∈ bs ∨ w.heap.size ≤ x) ∧ DevP.Small X' ∧ (r = 0 → X'.safe.length = N ∧ X'.ops ≤ 1000 ∧ ∀ j : Nat, (j : Int) ≤ b → X'.safe[j]? = some (P j))
theorem Format_nil (b p f c l : Int) (w : World) : Calls Try.prog 22 #[.pointer none, .agg #[.int .i64 b, .int .i64 p, .int .i64 f, .int .i64 c, .int .i64 l]] w fun e w' => e = .returned (.int .i64 4) ∧ Below w.heap.size w w' := by
  go_enter Try.func22, Try.ntmps22
  go_wp2
  go_ret
  exact ⟨rfl, balloc (bsame w) _⟩
attribute [local go_sem ↓] ldPage_fold stPage_fold bdPage_fold alPage_fold
set_option maxRecDepth 100000 in
set_option maxHeartbeats 4000000 in
theorem Format_any (b p f c l : Int) (N d : Nat) (bs : List Nat) (X : DevX) (fz : Bool) (fu : Int) (w : World) (hD : Dev w d bs X) (hI : FmtP.Inv X N 0 fz fu (FmtP.pg b p f c l)) :
    Calls Try.prog 22 #[.pointer (some ⟨d, 0, none⟩), .agg #[.int .i64 b, .int .i64 p, .int .i64 f, .int .i64 c, .int .i64 l]] w (Formatted w d bs N b (FmtP.pg b p f c l) (FmtP.want b p f c l N fz fu)) := by
  have hbs := hD.lt
  have HBS := Lib.hid hbs
  have HI := Lib.hid hI
  have hal := fun W => run_al (P := Try.prog) arrPage W
  have hz : (SlotP.zeros 512).length = 512 := List.length_replicate
  obtain ⟨W0, hW0⟩ : ∃ W, w.alloc (.cells #[.int .i64 b, .int .i64 p, .int .i64 f, .int .i64 c, .int .i64 l] 48) = W := ⟨_, rfl⟩
  obtain ⟨HS0, HB0, hw0, hz0⟩ := new1 hW0
  have HK : Hid (FK w W0 d bs bs #[.int .i64 b, .int .i64 p, .int .i64 f, .int .i64 c, .int .i64 l] X) := Lib.hid ⟨hD.below HB0.out, Reg.KeepB.of HB0.out, fun x hx => .inl hx, HS0.out⟩
  have g0 := str5 HS0.out
  have hl0 := HS0.out.lt
  have HD := Lib.hid hD
  clear hD hbs hz0
  go_enter Try.func22, Try.ntmps22
  go_wp2_with fail
  refine (MetaW.check_any b p f c l W0).mono ?_
  rintro e W1 ⟨rfl, hb1⟩
  replace HK := Lib.hid (HK.out.next hb1)
  clear hb1 g0 hl0 HS0 HB0
  have g1 := str5 HK.out.box
  have hl1 := HK.out.box.lt
  cases hR : MetaP.right b p f c l with
  | false =>
    have hE : MetaP.check b p f c l = 1 := by unfold MetaP.check; rw [hR]; rfl
    rw [hE]
    go_wp2
    go_ret
    exact ⟨by unfold FmtP.want; rw [if_pos hR]; rfl, bs, X, HK.out.dev, HK.out.keep, fun x hx => .inl hx, HI.out.small (by omega), fun h => by rw [FmtP.want, if_pos hR] at h; cases h⟩
  | true =>
    have hE : MetaP.check b p f c l = 0 := by unfold MetaP.check; rw [hR]; rfl
    rw [hE]
    have hb16 : 1 ≤ b ∧ b ≤ 16 ∧ b + 1 ≤ p := by
      unfold MetaP.right at hR
      simp only [Bool.and_eq_true, MetaP.within_iff] at hR
      omega
    have HR := Lib.hid hR
    clear hE hR
    by_cases hNp : (N : Int) < p
    · have hd : decide ((N : Int) < p) = true := by simpa using hNp
      have hw2 : FmtP.want b p f c l N fz fu = 2 := by unfold FmtP.want; rw [HR.out, if_neg (by decide), if_pos hNp]
      clear hNp
      go_wp2_with fail
      refine Reg.wp_region_vals (R := ext) (W := W1) [Reg.eqv (.pointer (some ⟨d, 0, none⟩)), Reg.eqv (.int .i64 (N : Int)), Reg.eqv (.pointer (some ⟨w.heap.size, 1, none⟩)), Reg.eqv (.int .i64 p), Reg.eqv (.bool true)] 41 [[(0, none)], [(13, some 0)], [(3, none)], [(15, some 2)], [(14, some 1), (16, some 3)]] rfl (by kernel_rfl) (by kernel_rfl) (by kernel_rfl) ?_ [some 13, some 14, some 15, some 16, some 17] (by kernel_rfl) ?_
      · refine ⟨?_, ?_, ?_, ?_, ?_, trivial⟩
        · intro ax wx hx hs
          obtain ⟨e0, -⟩ := hs
          have g0 := Reg.ev (v := .pointer (some ⟨d, 0, none⟩)) e0
          exact Reg.obl_free rfl (Reg.wp_eqv (Option.some_ne_none _) (by go_simp) rfl)
        · intro ax wx hx hs
          obtain ⟨e13, -⟩ := hs
          have g13 := Reg.ev (v := .pointer (some ⟨d, 0, none⟩)) e13
          refine Reg.obl_free rfl ?_
          have hx' : Below W1.heap.size W1 wx := hx
          go_simp
          refine (pages_any wx (HK.out.dev.below hx')).mono ?_
          rintro e wy ⟨rfl, hby⟩
          rw [HI.out.n]
          exact Reg.done (Option.some_ne_none _) rfl hby
        · intro ax wx hx hs
          obtain ⟨e3, -⟩ := hs
          have g3 := Reg.ev (v := .pointer (some ⟨w.heap.size, 0, none⟩)) e3
          exact Reg.obl_free rfl (Reg.wp_eqv (Option.some_ne_none _) (by go_simp) rfl)
        · intro ax wx hx hs
          obtain ⟨e15, -⟩ := hs
          have g15 := Reg.ev (v := .pointer (some ⟨w.heap.size, 1, none⟩)) e15
          have l0 := str5 (HK.out.box.next hx)
          exact Reg.obl_free rfl (Reg.wp_eqv (Option.some_ne_none _) (by go_simp) rfl)
        · intro ax wx hx hs
          obtain ⟨e14, e16, -⟩ := hs
          have g14 := Reg.ev (v := .int .i64 (N : Int)) e14
          have g16 := Reg.ev (v := .int .i64 p) e16
          exact Reg.obl_free rfl (Reg.wp_eqv (Option.some_ne_none _) (by go_simp) rfl)
      · intro W2 hwf
        simp only [Reg.Fin]
        rintro _ rfl _ rfl _ rfl _ rfl _ rfl
        go_simp
        have hwf' : Below W1.heap.size W1 W2 := hwf
        replace HK := Lib.hid (HK.out.next hwf')
        clear hwf hwf' g1 hl1
        go_wp2
        go_ret
        exact ⟨by rw [hw2]; rfl, bs, X, HK.out.dev, HK.out.keep, fun x hx => (HK.out.new x hx).imp id (by omega), HI.out.small (by omega), fun h => by rw [hw2] at h; cases h⟩
    · have hd : decide ((N : Int) < p) = false := by simpa using hNp
      have HW : Hid (FmtP.want b p f c l N fz fu = if fz = true ∧ fu < b + 2 then 3 else 0) := Lib.hid (by unfold FmtP.want; rw [HR.out, if_neg (by decide), if_neg hNp])
      obtain ⟨B, rfl⟩ : ∃ B : Nat, b = (B : Int) := ⟨b.toNat, by omega⟩
      have hBN : B < N := by omega
      have hB16 : B ≤ 16 := by omega
      have HP := Lib.hid (fun j => FmtP.pg_length (B : Int) p f c l j)
      have HQ := Lib.hid (fun j => FmtP.raw_length (B : Int) p f c l j)
      clear hNp hb16
      go_wp2_with fail
      refine Reg.wp_region_vals (R := ext) (W := W1) [Reg.eqv (.pointer (some ⟨d, 0, none⟩)), Reg.eqv (.int .i64 (N : Int)), Reg.eqv (.pointer (some ⟨w.heap.size, 1, none⟩)), Reg.eqv (.int .i64 p), Reg.eqv (.bool false)] 41 [[(0, none)], [(13, some 0)], [(3, none)], [(15, some 2)], [(14, some 1), (16, some 3)]] rfl (by kernel_rfl) (by kernel_rfl) (by kernel_rfl) ?_ [some 13, some 14, some 15, some 16, some 17] (by kernel_rfl) ?_
      · refine ⟨?_, ?_, ?_, ?_, ?_, trivial⟩
        · intro ax wx hx hs
          obtain ⟨e0, -⟩ := hs
          have g0 := Reg.ev (v := .pointer (some ⟨d, 0, none⟩)) e0
          exact Reg.obl_free rfl (Reg.wp_eqv (Option.some_ne_none _) (by go_simp) rfl)
        · intro ax wx hx hs
          obtain ⟨e13, -⟩ := hs
          have g13 := Reg.ev (v := .pointer (some ⟨d, 0, none⟩)) e13
          refine Reg.obl_free rfl ?_
          have hx' : Below W1.heap.size W1 wx := hx
          go_simp
          refine (pages_any wx (HK.out.dev.below hx')).mono ?_
          rintro e wy ⟨rfl, hby⟩
          rw [HI.out.n]
          exact Reg.done (Option.some_ne_none _) rfl hby
        · intro ax wx hx hs
          obtain ⟨e3, -⟩ := hs
          have g3 := Reg.ev (v := .pointer (some ⟨w.heap.size, 0, none⟩)) e3
          exact Reg.obl_free rfl (Reg.wp_eqv (Option.some_ne_none _) (by go_simp) rfl)
        · intro ax wx hx hs
          obtain ⟨e15, -⟩ := hs
          have g15 := Reg.ev (v := .pointer (some ⟨w.heap.size, 1, none⟩)) e15
          have l0 := str5 (HK.out.box.next hx)
          exact Reg.obl_free rfl (Reg.wp_eqv (Option.some_ne_none _) (by go_simp) rfl)
        · intro ax wx hx hs
          obtain ⟨e14, e16, -⟩ := hs
          have g14 := Reg.ev (v := .int .i64 (N : Int)) e14
          have g16 := Reg.ev (v := .int .i64 p) e16
          exact Reg.obl_free rfl (Reg.wp_eqv (Option.some_ne_none _) (by go_simp) rfl)
      · intro W2 hwf
        simp only [Reg.Fin]
        rintro _ rfl _ rfl _ rfl _ rfl _ rfl
        go_simp
        have hwf' : Below W1.heap.size W1 W2 := hwf
        replace HK := Lib.hid (HK.out.next hwf')
        clear hwf hwf' g1 hl1
        have g2 := str5 HK.out.box
        have hl2 := HK.out.box.lt
        go_wp2
        go_loopw [21] (fun iv wr => ∃ (i : Nat) (bs' : List Nat) (X' : DevX), i ≤ B + 1 ∧ iv = .int .i64 (i : Int) ∧ Hid (FK w wr d bs bs' #[.int .i64 (B : Int), .int .i64 p, .int .i64 f, .int .i64 c, .int .i64 l] X' ∧ FmtP.Inv X' N i fz fu (FmtP.pg (B : Int) p f c l))) (fun iv _ => B + 1 - (intOf iv).toNat)
        case atStart => exact ⟨0, bs, X, by omega, rfl, Lib.hid ⟨HK.out, HI.out⟩⟩
        case round =>
          obtain ⟨i, bs', X', hi, rfl, HH⟩ := hrel
          have HV := Lib.hid HH.out.2
          replace HK := Lib.hid HH.out.1
          clear HH HI
          clear g2 hl2 hd
          have gr := str5 HK.out.box
          have hlr := HK.out.box.lt
          have hii : (0 : Int) ≤ (i : Int) := by omega
          have hops : X'.ops ≤ 1000000000 := by rw [HV.out.ops]; omega
          by_cases hlt : i < B + 1
          · have hd : decide ((i : Int) < (B : Int) + 1) = true := by simp; omega
            have hsm := HV.out.small (by omega)
            have HSM := Lib.hid hsm
            have hfit : (decide ((0 : Int) ≤ (i : Int)) && decide ((i : Int) < (X'.safe.length : Nat))) = true := by rw [HV.out.n]; simp; omega
            have HFIT := Lib.hid hfit
            clear hsm hfit
            go_wp2_with fail
            refine (PageW.new_any (i : Int) wr).mono ?_
            rintro e W3 ⟨rfl, hb3⟩
            replace HK := Lib.hid (HK.out.next hb3)
            clear hb3 gr hlr
            have hst3 := run_st (P := Try.prog) arrPage (Str.new W3 (rowV (SlotP.zeros 512)) 30) (by rw [rowV_size]; exact hz) (FmtP.new_length (i : Int))
            obtain ⟨W4, hW4⟩ : ∃ W, (W3.alloc (.cells (rowV (SlotP.zeros 512)) 30)).setRow W3.heap.size (rowV (SlotP.over (SlotP.zeros 512) 12 (BeP.parts 2 (i : Int)))) = W := ⟨_, rfl⟩
            rw [hW4] at hst3
            have HPB : Hid (Str W4 W3.heap.size (rowV (SlotP.over (SlotP.zeros 512) 12 (BeP.parts 2 (i : Int))))) := Lib.hid (by rw [← hW4]; exact (Str.new W3 _ _).setRow)
            have hb4 : Below W3.heap.size W3 W4 := by rw [← hW4]; exact below_setRow (balloc (bsame _) _) (Nat.le_refl _) _
            have hpw : w.heap.size < W3.heap.size := HK.out.box.lt
            have hpd : W3.heap.size ∉ bs' := fun h => by have := HK.out.dev.lt _ h; omega
            replace HK := Lib.hid (HK.out.next hb4)
            have hws4 := hb4.size
            clear hb4 hW4
            have gr := str5 HK.out.box
            have hlr := HK.out.box.lt
            have hlp := HPB.out.lt
            by_cases hi0 : i = 0
            · subst hi0
              have he0 : (((0 : Nat) : Int) == 0) = true := rfl
              simp only [Int.cast_ofNat_Int] at hst3
              go_wp2_with fail
              refine (MetaW.new_any (B : Int) p f c l (by omega) (by omega) W4).mono ?_
              rintro e W5 ⟨rfl, hb5⟩
              replace HK := Lib.hid (HK.out.next hb5)
              replace HPB := Lib.hid (HPB.out.next hb5)
              have hws5 := hb5.size
              clear hb5 gr hlr hlp hst3
              have hst5 := run_st (P := Try.prog) arrPage HPB.out (by rw [rowV_size]; exact FmtP.new_length _) (MetaP.page_length (B : Int) p f c l)
              obtain ⟨W6, hW6⟩ : ∃ W, W5.setRow W3.heap.size (rowV (MetaP.page (B : Int) p f c l)) = W := ⟨_, rfl⟩
              rw [hW6] at hst5
              have hg6 : W5.grownBy W6 (some W3.heap.size) := by rw [← hW6]; exact grown_setRow W5 _ _
              have HPB6 : Hid (Str W6 W3.heap.size (rowV (FmtP.raw (B : Int) p f c l 0))) := Lib.hid (by rw [← hW6]; exact HPB.out.setRow)
              replace HK : Hid (FK w W6 d bs bs' _ X') := Lib.hid ⟨HK.out.dev.grown hg6 hpd, HK.out.keep.grown hg6 HK.out.keep.size (.inl (by omega)), HK.out.new, HK.out.box.grown hg6 (by omega)⟩
              have hws6 := hg6.size
              clear hg6 hW6 HPB
              have hld := run_ld (P := Try.prog) arrPage HPB6.out (HQ.out 0)
              have hlp := HPB6.out.lt
              have HD8 := Lib.hid HK.out.dev.ok
              go_wp2_with fail
              refine (PageW.sealed_any _ (HQ.out 0) _).mono ?_
              rintro e W7 ⟨rfl, hb7⟩
              replace HK := Lib.hid (HK.out.next hb7)
              have hws7 := hb7.size
              clear hb7 hld hlp hst5
              have gr := str5 HK.out.box
              have hlr := HK.out.box.lt
              go_wp2_with fail
              refine (Write_any ((0 : Nat) : Int) (FmtP.pg (B : Int) p f c l 0) (HP.out 0) W7 HK.out.dev HSM.out).mono ?_
              rintro e W8 ⟨rfl, bs8, hd8, hn8, hk8⟩
              rw [HFIT.out] at hd8 ⊢
              replace HK := Lib.hid (HK.out.turn HBS.out hd8 hn8 hk8)
              clear hd8 hn8 hk8 gr hlr
              have gr := str5 HK.out.box
              have hlr := HK.out.box.lt
              have hes := HV.out.errs
              by_cases hee : DevP.err X' true = 0
              · have HV8 := Lib.hid (HV.out.wrote HD8.out (by omega) hee)
                rw [hee]
                clear hes
                go_wp2
                go_roundw
                case rel => exact ⟨0 + 1, bs8, _, by omega, by first | rfl | go_num, Lib.hid ⟨HK.out, HV8.out⟩⟩
                case measure => first | (simp [intOf]; done) | (simp [intOf]; omega)
              · have he3 : DevP.err X' true = 3 := by
                  rw [hes] at hee ⊢
                  split at hee
                  · rename_i h1; rw [if_pos h1]
                  · exact absurd rfl hee
                have hw3 : FmtP.want (B : Int) p f c l N fz fu = 3 := by
                  rw [HW.out]
                  rw [hes] at he3
                  split at he3
                  · rename_i h1
                    simp only [Bool.and_eq_true, decide_eq_true_eq] at h1
                    rw [if_pos ⟨h1.1, by omega⟩]
                  · cases he3
                rw [he3]
                have HWW := Lib.hid hw3
                clear hes hee he3 hw3
                go_wp2
                go_ret
                exact ⟨by rw [HWW.out]; rfl, bs8, _, HK.out.dev, HK.out.keep, fun x hx => (HK.out.new x hx).imp id (by omega), HV.out.small_op (by omega) true rfl rfl rfl (by show X'.wr + 1 ≤ _; have := HV.out.wr; omega), fun h => by rw [HWW.out] at h; cases h⟩
            · have he0 : ((i : Int) == 0) = false := by simpa using hi0
              have hraw : FmtP.raw (B : Int) p f c l i = SlotP.over (SlotP.zeros 512) 12 (BeP.parts 2 (i : Int)) := by unfold FmtP.raw; rw [if_neg hi0]
              have HPB6 : Hid (Str W4 W3.heap.size (rowV (FmtP.raw (B : Int) p f c l i))) := Lib.hid (by rw [hraw]; exact HPB.out)
              have hld := run_ld (P := Try.prog) arrPage HPB6.out (HQ.out i)
              clear hi0 HPB hraw
              have HD8 := Lib.hid HK.out.dev.ok
              go_wp2_with fail
              refine (PageW.sealed_any _ (HQ.out i) _).mono ?_
              rintro e W7 ⟨rfl, hb7⟩
              replace HK := Lib.hid (HK.out.next hb7)
              have hws7 := hb7.size
              clear hb7 hld hlp hst3
              have gr := str5 HK.out.box
              have hlr := HK.out.box.lt
              go_wp2_with fail
              refine (Write_any ((i : Nat) : Int) (FmtP.pg (B : Int) p f c l i) (HP.out i) W7 HK.out.dev HSM.out).mono ?_
              rintro e W8 ⟨rfl, bs8, hd8, hn8, hk8⟩
              rw [HFIT.out] at hd8 ⊢
              replace HK := Lib.hid (HK.out.turn HBS.out hd8 hn8 hk8)
              clear hd8 hn8 hk8 gr hlr
              have gr := str5 HK.out.box
              have hlr := HK.out.box.lt
              have hes := HV.out.errs
              by_cases hee : DevP.err X' true = 0
              · have HV8 := Lib.hid (HV.out.wrote HD8.out (by omega) hee)
                rw [hee]
                clear hes
                go_wp2
                go_roundw
                case rel => exact ⟨i + 1, bs8, _, by omega, by first | rfl | go_num, Lib.hid ⟨HK.out, HV8.out⟩⟩
                case measure => first | (simp [intOf]; done) | (simp [intOf]; omega)
              · have he3 : DevP.err X' true = 3 := by
                  rw [hes] at hee ⊢
                  split at hee
                  · rename_i h1; rw [if_pos h1]
                  · exact absurd rfl hee
                have hw3 : FmtP.want (B : Int) p f c l N fz fu = 3 := by
                  rw [HW.out]
                  rw [hes] at he3
                  split at he3
                  · rename_i h1
                    simp only [Bool.and_eq_true, decide_eq_true_eq] at h1
                    rw [if_pos ⟨h1.1, by omega⟩]
                  · cases he3
                rw [he3]
                have HWW := Lib.hid hw3
                clear hes hee he3 hw3
                go_wp2
                go_ret
                exact ⟨by rw [HWW.out]; rfl, bs8, _, HK.out.dev, HK.out.keep, fun x hx => (HK.out.new x hx).imp id (by omega), HV.out.small_op (by omega) true rfl rfl rfl (by show X'.wr + 1 ≤ _; have := HV.out.wr; omega), fun h => by rw [HWW.out] at h; cases h⟩
          · have hd : decide ((i : Int) < (B : Int) + 1) = false := by simp; omega
            have hik : i = B + 1 := by omega
            subst hik
            clear hlt hi gr hlr
            go_wp2_with fail
            refine (Sync_any wr HK.out.dev hops).mono ?_
            rintro e W9 ⟨rfl, bs9, hd9, hn9, hk9⟩
            have HK9 := Lib.hid (HK.out.turn HBS.out hd9 hn9 hk9)
            have hew : DevP.err X' true = FmtP.want (B : Int) p f c l N fz fu := by
              rw [HV.out.errs, HW.out]
              have hlf := HV.out.left HK.out.dev.ok
              cases hfz : fz with
              | false => rfl
              | true =>
                have h2 := hlf hfz
                simp only [Bool.true_and, decide_eq_true_eq, true_and]
                by_cases e1 : fu = ((B + 1 : Nat) : Int)
                · rw [if_pos e1, if_pos (by omega)]
                · rw [if_neg e1, if_neg (by omega)]
            rw [hew]
            go_wp2
            go_ret
            refine ⟨rfl, bs9, _, HK9.out.dev, HK9.out.keep, fun x hx => (HK9.out.new x hx).imp id (by omega), HV.out.small_op (by omega) true rfl rfl rfl (by show X'.wr ≤ _; have := HV.out.wr; omega), fun h => ?_⟩
            rw [← hew] at h
            unfold DevP.op
            rw [if_pos h]
            refine ⟨?_, ?_, fun j hj => ?_⟩
            · show X'.now.length = N
              rw [HK.out.dev.ok.nl, HV.out.n]
            · show X'.ops + 1 ≤ 1000
              rw [HV.out.ops]; omega
            · exact HV.out.now j (by omega)
end FmtW
end Go.Proofs.Ytldgdgfplgdipaa
namespace Go.Proofs.Ytldgdgfplgdipaa.metaFormats
open Go.RowKit Go.Maps DevW
set_option linter.unusedVariables false
set_option linter.unusedSimpArgs false
attribute [local go_sem ↓] ldPage_fold stPage_fold bdPage_fold alPage_fold
/-- what is kept: the device, the layout's box -/
structure LK (w wr : World) (d : Nat) (bs : List Nat) (cs : Array Value) (X : DevX) : Prop where
  dev : Dev wr d bs X
  bel : Below w.heap.size w wr
  new : ∀ x ∈ bs, w.heap.size + 1 ≤ x
  box : Str wr w.heap.size cs
theorem LK.next {w wr wr' : World} {d : Nat} {bs : List Nat} {cs : Array Value} {X : DevX} (h : LK w wr d bs cs X) (hb : Below wr.heap.size wr wr') : LK w wr' d bs cs X :=
  ⟨h.dev.below hb, bstep h.bel hb, h.new, h.box.next hb⟩
theorem LK.turn {w wr wr' : World} {d : Nat} {bs bs2 : List Nat} {cs : Array Value} {X X2 : DevX} (h : LK w wr d bs cs X) (hd : Dev wr' d bs2 X2) (hn : ∀ x ∈ bs2, x ∈ bs ∨ wr.heap.size ≤ x) (hk : Reg.KeepB wr.heap.size bs wr wr') : LK w wr' d bs2 cs X2 := by
  have hlt := h.box.lt
  refine ⟨hd, h.bel.trans (hk.below h.bel.size (fun x hx => by have := h.new x hx; omega)), fun x hx => ?_, h.box.keepB hk (fun hm => ?_)⟩
  · rcases hn x hx with h1 | h1
    · exact h.new x h1
    · omega
  · have := h.new _ hm; omega
/-- a device behind the failure of the power, that was laid out -/
structure LI (X : DevX) (N : Nat) (b : Int) (k : Nat) (P : Nat → List UInt8) : Prop where
  n : X.safe.length = N
  off : X.off = false
  fz : X.fused = false
  ops : X.ops ≤ 1000 + (k : Int)
  now : ∀ j : Nat, (j : Int) ≤ b → X.now[j]? = some (P j)
theorem LI.errs {X : DevX} {N : Nat} {b : Int} {k : Nat} {P : Nat → List UInt8} (h : LI X N b k P) : DevP.err X true = 0 := by
  unfold DevP.err
  rw [h.off, h.fz]; rfl
theorem LI.read {X : DevX} {N : Nat} {b : Int} {k i : Nat} {P : Nat → List UInt8} (h : LI X N b k P) (hi : (i : Int) ≤ b) : DevP.read X (i : Int) true = P i := by
  unfold DevP.read
  rw [if_pos h.errs, show ((i : Int)).toNat = i from rfl, h.now i hi]; rfl
theorem LI.more {X : DevX} {N : Nat} {b : Int} {k : Nat} {P : Nat → List UInt8} (h : LI X N b k P) : LI (DevP.op X true X) N b (k + 1) P := by
  unfold DevP.op
  rw [if_pos h.errs]
  exact ⟨h.n, h.off, h.fz, by show X.ops + 1 ≤ _; have := h.ops; omega, h.now⟩
theorem inv0 (N : Nat) (m : Int) (P : Nat → List UInt8) : FmtP.Inv (DevP.fused (DevP.new N) m) N 0 (decide (0 ≤ m)) (max m 0) P :=
  ⟨by simp [DevP.fused, DevP.new], rfl, rfl, fun _ => by show max m 0 = max m 0 - ((0 : Nat) : Int); omega, rfl, rfl, rfl, Nat.le_refl _, fun j hj => absurd hj (Nat.not_lt_zero _)⟩
set_option maxRecDepth 100000 in
set_option maxHeartbeats 1000000 in
theorem walk_out (b p f c l n m : Int) (w : World) (h : 60 < n ∨ n < 1) : Calls Try.prog 5 #[.agg #[.int .i64 b, .int .i64 p, .int .i64 f, .int .i64 c, .int .i64 l], .int .i64 n, .int .i64 m] w fun e w' => e = .returned (.bool true) ∧ Below w.heap.size w w' := by
  by_cases h1 : 60 < n
  · have hd : decide (60 < n) = true := by simpa using h1
    clear h h1
    go_enter Try.func5, Try.ntmps5
    go_wp2_with fail
    refine (MetaW.live_any _).mono ?_
    rintro e w3 ⟨rfl, hb⟩
    go_wp2
    go_ret
    exact ⟨rfl, bstep (balloc (bsame w) _) hb⟩
  · have hd : decide (60 < n) = false := by simpa using h1
    have hd1 : decide (n < 1) = true := by simp; omega
    clear h h1
    go_enter Try.func5, Try.ntmps5
    go_wp2_with fail
    refine (MetaW.live_any _).mono ?_
    rintro e w3 ⟨rfl, hb⟩
    go_wp2
    go_ret
    exact ⟨rfl, bstep (balloc (bsame w) _) hb⟩
set_option maxRecDepth 100000 in
set_option maxHeartbeats 1000000 in
theorem walk_wrong (b p f c l m : Int) (N : Nat) (w : World) (h1 : 1 ≤ N) (h2 : N ≤ 60) (hm : In64 m) (hR : MetaP.right b p f c l = false) : Calls Try.prog 5 #[.agg #[.int .i64 b, .int .i64 p, .int .i64 f, .int .i64 c, .int .i64 l], .int .i64 (N : Int), .int .i64 m] w fun e w' => e = .returned (.bool true) ∧ Below w.heap.size w w' := by
  have HM := Lib.hid hm
  have hn1 : decide (60 < (N : Int)) = false := by simp; omega
  have hn2 : decide ((N : Int) < 1) = false := by simp; omega
  have HRR := Lib.hid hR
  clear hR
  have hal := fun W => run_al (P := Try.prog) arrPage W
  have hz : (SlotP.zeros 512).length = 512 := List.length_replicate
  obtain ⟨W0, hW0⟩ : ∃ W, w.alloc (.cells #[.int .i64 b, .int .i64 p, .int .i64 f, .int .i64 c, .int .i64 l] 48) = W := ⟨_, rfl⟩
  obtain ⟨HS0, HB0, hw0, hz0⟩ := new1 hW0
  have g0 := str5 HS0.out
  have hl0 := HS0.out.lt
  go_enter Try.func5, Try.ntmps5
  go_wp2_with fail
  refine (new_mid (N : Int) N rfl h1 (by omega) W0).mono ?_
  rintro e W1 ⟨d, bs1, rfl, hd1, hn1', hb1⟩
  have HK1 : Hid (LK w W1 d bs1 #[.int .i64 b, .int .i64 p, .int .i64 f, .int .i64 c, .int .i64 l] (DevP.new N)) := Lib.hid ⟨hd1, bstep HB0.out hb1, fun x hx => by have := hn1' x hx; omega, HS0.out.next hb1⟩
  clear hd1 hn1' hb1 HS0 HB0 hz0 g0 hl0
  go_wp2_with fail
  refine (fuse_any m HM.out W1 HK1.out.dev).mono ?_
  rintro e W2 ⟨rfl, hd2, hk2⟩
  have HK2 := Lib.hid (HK1.out.turn hd2 (fun x hx => .inl hx) hk2)
  clear hd2 hk2 HK1
  have g0 := str5 HK2.out.box
  have hl0 := HK2.out.box.lt
  go_wp2_with fail
  refine (FmtW.Format_any b p f c l N d bs1 _ _ _ W2 HK2.out.dev (inv0 N m _)).mono ?_
  rintro e W3 ⟨rfl, bs3, X3, hd3, hk3, hn3, hs3, hr3⟩
  have HK3 := Lib.hid (HK2.out.turn hd3 hn3 hk3)
  have HR3 := Lib.hid hr3
  have HS3 := Lib.hid hs3
  have HW : Hid (FmtP.want b p f c l N (decide (0 ≤ m)) (max m 0) = 1) := Lib.hid (by
    unfold FmtP.want; rw [if_pos HRR.out])
  rw [HW.out] at HR3 ⊢
  clear hd3 hk3 hn3 hs3 hr3 HK2 g0 hl0
  have g0 := str5 HK3.out.box
  have hl0 := HK3.out.box.lt
  go_wp2_with fail
  refine (MetaW.code_any _ _).mono ?_
  rintro e w' ⟨rfl, rfl⟩
  go_wp2_with fail
  refine (MetaW.right_any b p f c l W3).mono ?_
  rintro e W4 ⟨rfl, hb4⟩
  rw [HRR.out]
  have HK4 := Lib.hid (HK3.out.next hb4)
  clear hb4 HK3 g0 hl0
  have g0 := str5 HK4.out.box
  have hl0 := HK4.out.box.lt
  go_wp2_with fail
  refine (FmtW.Format_nil b p f c l W4).mono ?_
  rintro e W5 ⟨rfl, hb5⟩
  have HK5 := Lib.hid (HK4.out.next hb5)
  clear hb5 HK4 g0 hl0
  have g0 := str5 HK5.out.box
  have hl0 := HK5.out.box.lt
  go_wp2_with fail
  refine (MetaW.code_any _ _).mono ?_
  rintro e w' ⟨rfl, rfl⟩
  go_wp2_with fail
  refine (Crash_any 0 ⟨by decide, by decide⟩ W5 HK5.out.dev HS3.out).mono ?_
  rintro e W6 ⟨rfl, bs6, hd6, hn6, hk6⟩
  have HK6 := Lib.hid (HK5.out.turn hd6 hn6 hk6)
  clear hd6 hn6 hk6 HK5 g0 hl0
  have g0 := str5 HK6.out.box
  have hl0 := HK6.out.box.lt
  go_wp2
  go_loopw [10] (fun iv wr => iv = .int .i64 0 ∧ wr = W6) (fun iv _ => 0)
  case atStart => exact ⟨rfl, rfl⟩
  case round =>
    obtain ⟨rfl, hwr⟩ := hrel
    subst hwr
    by_cases hb0 : 0 ≤ b
    · have hd0 : decide (0 ≤ b) = true := by simpa using hb0
      go_wp2_with fail
      refine (MetaW.live_any _).mono ?_
      rintro e w3 ⟨rfl, hb⟩
      go_wp2
      go_ret
      exact ⟨rfl, bstep HK6.out.bel hb⟩
    · have hd0 : decide (0 ≤ b) = false := by simpa using hb0
      go_wp2_with fail
      refine (MetaW.live_any _).mono ?_
      rintro e w3 ⟨rfl, hb⟩
      go_wp2
      go_ret
      exact ⟨rfl, bstep HK6.out.bel hb⟩
set_option maxRecDepth 100000 in
set_option maxHeartbeats 1000000 in
theorem walk_small (b p f c l m : Int) (N : Nat) (w : World) (h1 : 1 ≤ N) (h2 : N ≤ 60) (hm : In64 m) (hR : MetaP.right b p f c l = true) (hp : (N : Int) < p) : Calls Try.prog 5 #[.agg #[.int .i64 b, .int .i64 p, .int .i64 f, .int .i64 c, .int .i64 l], .int .i64 (N : Int), .int .i64 m] w fun e w' => e = .returned (.bool true) ∧ Below w.heap.size w w' := by
  have HM := Lib.hid hm
  have hn1 : decide (60 < (N : Int)) = false := by simp; omega
  have hn2 : decide ((N : Int) < 1) = false := by simp; omega
  have hb16 : 1 ≤ b ∧ b ≤ 16 ∧ b + 1 ≤ p := by
    unfold MetaP.right at hR
    simp only [Bool.and_eq_true, MetaP.within_iff] at hR
    omega
  have HRR := Lib.hid hR
  clear hR
  have hdp : decide ((N : Int) < p) = true := by simpa using hp
  have HP := Lib.hid hp
  clear hp
  have hal := fun W => run_al (P := Try.prog) arrPage W
  have hz : (SlotP.zeros 512).length = 512 := List.length_replicate
  obtain ⟨W0, hW0⟩ : ∃ W, w.alloc (.cells #[.int .i64 b, .int .i64 p, .int .i64 f, .int .i64 c, .int .i64 l] 48) = W := ⟨_, rfl⟩
  obtain ⟨HS0, HB0, hw0, hz0⟩ := new1 hW0
  have g0 := str5 HS0.out
  have hl0 := HS0.out.lt
  go_enter Try.func5, Try.ntmps5
  go_wp2_with fail
  refine (new_mid (N : Int) N rfl h1 (by omega) W0).mono ?_
  rintro e W1 ⟨d, bs1, rfl, hd1, hn1', hb1⟩
  have HK1 : Hid (LK w W1 d bs1 #[.int .i64 b, .int .i64 p, .int .i64 f, .int .i64 c, .int .i64 l] (DevP.new N)) := Lib.hid ⟨hd1, bstep HB0.out hb1, fun x hx => by have := hn1' x hx; omega, HS0.out.next hb1⟩
  clear hd1 hn1' hb1 HS0 HB0 hz0 g0 hl0
  go_wp2_with fail
  refine (fuse_any m HM.out W1 HK1.out.dev).mono ?_
  rintro e W2 ⟨rfl, hd2, hk2⟩
  have HK2 := Lib.hid (HK1.out.turn hd2 (fun x hx => .inl hx) hk2)
  clear hd2 hk2 HK1
  have g0 := str5 HK2.out.box
  have hl0 := HK2.out.box.lt
  go_wp2_with fail
  refine (FmtW.Format_any b p f c l N d bs1 _ _ _ W2 HK2.out.dev (inv0 N m _)).mono ?_
  rintro e W3 ⟨rfl, bs3, X3, hd3, hk3, hn3, hs3, hr3⟩
  have HK3 := Lib.hid (HK2.out.turn hd3 hn3 hk3)
  have HR3 := Lib.hid hr3
  have HS3 := Lib.hid hs3
  have HW : Hid (FmtP.want b p f c l N (decide (0 ≤ m)) (max m 0) = 2) := Lib.hid (by
    unfold FmtP.want; rw [HRR.out, if_neg (by decide), if_pos HP.out])
  rw [HW.out] at HR3 ⊢
  clear hd3 hk3 hn3 hs3 hr3 HK2 g0 hl0
  have g0 := str5 HK3.out.box
  have hl0 := HK3.out.box.lt
  go_wp2_with fail
  refine (MetaW.code_any _ _).mono ?_
  rintro e w' ⟨rfl, rfl⟩
  go_wp2_with fail
  refine (MetaW.right_any b p f c l W3).mono ?_
  rintro e W4 ⟨rfl, hb4⟩
  rw [HRR.out]
  have HK4 := Lib.hid (HK3.out.next hb4)
  clear hb4 HK3 g0 hl0
  have g0 := str5 HK4.out.box
  have hl0 := HK4.out.box.lt
  go_wp2_with fail
  refine (FmtW.Format_nil b p f c l W4).mono ?_
  rintro e W5 ⟨rfl, hb5⟩
  have HK5 := Lib.hid (HK4.out.next hb5)
  clear hb5 HK4 g0 hl0
  have g0 := str5 HK5.out.box
  have hl0 := HK5.out.box.lt
  go_wp2_with fail
  refine (MetaW.code_any _ _).mono ?_
  rintro e w' ⟨rfl, rfl⟩
  go_wp2_with fail
  refine (Crash_any 0 ⟨by decide, by decide⟩ W5 HK5.out.dev HS3.out).mono ?_
  rintro e W6 ⟨rfl, bs6, hd6, hn6, hk6⟩
  have HK6 := Lib.hid (HK5.out.turn hd6 hn6 hk6)
  clear hd6 hn6 hk6 HK5 g0 hl0
  have g0 := str5 HK6.out.box
  have hl0 := HK6.out.box.lt
  go_wp2
  go_loopw [10] (fun iv wr => iv = .int .i64 0 ∧ wr = W6) (fun iv _ => 0)
  case atStart => exact ⟨rfl, rfl⟩
  case round =>
    obtain ⟨rfl, hwr⟩ := hrel
    subst hwr
    by_cases hb0 : 0 ≤ b
    · have hd0 : decide (0 ≤ b) = true := by simpa using hb0
      go_wp2_with fail
      refine (MetaW.live_any _).mono ?_
      rintro e w3 ⟨rfl, hb⟩
      go_wp2
      go_ret
      exact ⟨rfl, bstep HK6.out.bel hb⟩
    · exact absurd hb0 (by omega)
set_option maxRecDepth 100000 in
set_option maxHeartbeats 1000000 in
theorem walk_power (b p f c l m : Int) (N : Nat) (w : World) (h1 : 1 ≤ N) (h2 : N ≤ 60) (hm : In64 m) (hR : MetaP.right b p f c l = true) (hp : ¬ (N : Int) < p) (hf : 0 ≤ m ∧ m < b + 2) : Calls Try.prog 5 #[.agg #[.int .i64 b, .int .i64 p, .int .i64 f, .int .i64 c, .int .i64 l], .int .i64 (N : Int), .int .i64 m] w fun e w' => e = .returned (.bool true) ∧ Below w.heap.size w w' := by
  have HM := Lib.hid hm
  have hn1 : decide (60 < (N : Int)) = false := by simp; omega
  have hn2 : decide ((N : Int) < 1) = false := by simp; omega
  have hb16 : 1 ≤ b ∧ b ≤ 16 ∧ b + 1 ≤ p := by
    unfold MetaP.right at hR
    simp only [Bool.and_eq_true, MetaP.within_iff] at hR
    omega
  have HRR := Lib.hid hR
  clear hR
  have hdp : decide ((N : Int) < p) = false := by simpa using hp
  have HP := Lib.hid hp
  have hm0 : decide (0 ≤ m) = true := by simpa using hf.1
  have hm1 : decide (m < b + 2) = true := by simpa using hf.2
  have HF := Lib.hid hf
  clear hp hf
  have hal := fun W => run_al (P := Try.prog) arrPage W
  have hz : (SlotP.zeros 512).length = 512 := List.length_replicate
  obtain ⟨W0, hW0⟩ : ∃ W, w.alloc (.cells #[.int .i64 b, .int .i64 p, .int .i64 f, .int .i64 c, .int .i64 l] 48) = W := ⟨_, rfl⟩
  obtain ⟨HS0, HB0, hw0, hz0⟩ := new1 hW0
  have g0 := str5 HS0.out
  have hl0 := HS0.out.lt
  go_enter Try.func5, Try.ntmps5
  go_wp2_with fail
  refine (new_mid (N : Int) N rfl h1 (by omega) W0).mono ?_
  rintro e W1 ⟨d, bs1, rfl, hd1, hn1', hb1⟩
  have HK1 : Hid (LK w W1 d bs1 #[.int .i64 b, .int .i64 p, .int .i64 f, .int .i64 c, .int .i64 l] (DevP.new N)) := Lib.hid ⟨hd1, bstep HB0.out hb1, fun x hx => by have := hn1' x hx; omega, HS0.out.next hb1⟩
  clear hd1 hn1' hb1 HS0 HB0 hz0 g0 hl0
  go_wp2_with fail
  refine (fuse_any m HM.out W1 HK1.out.dev).mono ?_
  rintro e W2 ⟨rfl, hd2, hk2⟩
  have HK2 := Lib.hid (HK1.out.turn hd2 (fun x hx => .inl hx) hk2)
  clear hd2 hk2 HK1
  have g0 := str5 HK2.out.box
  have hl0 := HK2.out.box.lt
  go_wp2_with fail
  refine (FmtW.Format_any b p f c l N d bs1 _ _ _ W2 HK2.out.dev (inv0 N m _)).mono ?_
  rintro e W3 ⟨rfl, bs3, X3, hd3, hk3, hn3, hs3, hr3⟩
  have HK3 := Lib.hid (HK2.out.turn hd3 hn3 hk3)
  have HR3 := Lib.hid hr3
  have HS3 := Lib.hid hs3
  have HW : Hid (FmtP.want b p f c l N (decide (0 ≤ m)) (max m 0) = 3) := Lib.hid (by
    unfold FmtP.want; rw [HRR.out, if_neg (by decide), if_neg (by have := HP.out; omega), hm0, if_pos ⟨rfl, by have := HF.out; omega⟩])
  rw [HW.out] at HR3 ⊢
  clear hd3 hk3 hn3 hs3 hr3 HK2 g0 hl0
  have g0 := str5 HK3.out.box
  have hl0 := HK3.out.box.lt
  go_wp2_with fail
  refine (MetaW.code_any _ _).mono ?_
  rintro e w' ⟨rfl, rfl⟩
  go_wp2_with fail
  refine (MetaW.right_any b p f c l W3).mono ?_
  rintro e W4 ⟨rfl, hb4⟩
  rw [HRR.out]
  have HK4 := Lib.hid (HK3.out.next hb4)
  clear hb4 HK3 g0 hl0
  have g0 := str5 HK4.out.box
  have hl0 := HK4.out.box.lt
  go_wp2_with fail
  refine (FmtW.Format_nil b p f c l W4).mono ?_
  rintro e W5 ⟨rfl, hb5⟩
  have HK5 := Lib.hid (HK4.out.next hb5)
  clear hb5 HK4 g0 hl0
  have g0 := str5 HK5.out.box
  have hl0 := HK5.out.box.lt
  go_wp2_with fail
  refine (MetaW.code_any _ _).mono ?_
  rintro e w' ⟨rfl, rfl⟩
  go_wp2_with fail
  refine (Crash_any 0 ⟨by decide, by decide⟩ W5 HK5.out.dev HS3.out).mono ?_
  rintro e W6 ⟨rfl, bs6, hd6, hn6, hk6⟩
  have HK6 := Lib.hid (HK5.out.turn hd6 hn6 hk6)
  clear hd6 hn6 hk6 HK5 g0 hl0
  have g0 := str5 HK6.out.box
  have hl0 := HK6.out.box.lt
  go_wp2
  go_loopw [10] (fun iv wr => iv = .int .i64 0 ∧ wr = W6) (fun iv _ => 0)
  case atStart => exact ⟨rfl, rfl⟩
  case round =>
    obtain ⟨rfl, hwr⟩ := hrel
    subst hwr
    by_cases hb0 : 0 ≤ b
    · have hd0 : decide (0 ≤ b) = true := by simpa using hb0
      go_wp2_with fail
      refine (MetaW.live_any _).mono ?_
      rintro e w3 ⟨rfl, hb⟩
      go_wp2
      go_ret
      exact ⟨rfl, bstep HK6.out.bel hb⟩
    · exact absurd hb0 (by omega)
set_option maxRecDepth 100000 in
set_option maxHeartbeats 4000000 in
theorem walk_none (b p f c l m : Int) (N : Nat) (w : World) (h1 : 1 ≤ N) (h2 : N ≤ 60) (hm : In64 m) (hR : MetaP.right b p f c l = true) (hp : ¬ (N : Int) < p) (hf : m < 0) : Calls Try.prog 5 #[.agg #[.int .i64 b, .int .i64 p, .int .i64 f, .int .i64 c, .int .i64 l], .int .i64 (N : Int), .int .i64 m] w fun e w' => e = .returned (.bool true) ∧ Below w.heap.size w w' := by
  have HM := Lib.hid hm
  have hn1 : decide (60 < (N : Int)) = false := by simp; omega
  have hn2 : decide ((N : Int) < 1) = false := by simp; omega
  have hb16 : 1 ≤ b ∧ b ≤ 16 ∧ b + 1 ≤ p := by
    unfold MetaP.right at hR
    simp only [Bool.and_eq_true, MetaP.within_iff] at hR
    omega
  have HRR := Lib.hid hR
  clear hR
  have hdp : decide ((N : Int) < p) = false := by simpa using hp
  have HP := Lib.hid hp
  have hm0 : decide (0 ≤ m) = false := by simpa using hf
  have HF := Lib.hid hf
  clear hp hf

  have hal := fun W => run_al (P := Try.prog) arrPage W
  have hz : (SlotP.zeros 512).length = 512 := List.length_replicate
  obtain ⟨W0, hW0⟩ : ∃ W, w.alloc (.cells #[.int .i64 b, .int .i64 p, .int .i64 f, .int .i64 c, .int .i64 l] 48) = W := ⟨_, rfl⟩
  obtain ⟨HS0, HB0, hw0, hz0⟩ := new1 hW0
  have g0 := str5 HS0.out
  have hl0 := HS0.out.lt
  go_enter Try.func5, Try.ntmps5
  go_wp2_with fail
  refine (new_mid (N : Int) N rfl h1 (by omega) W0).mono ?_
  rintro e W1 ⟨d, bs1, rfl, hd1, hn1', hb1⟩
  have HK1 : Hid (LK w W1 d bs1 #[.int .i64 b, .int .i64 p, .int .i64 f, .int .i64 c, .int .i64 l] (DevP.new N)) := Lib.hid ⟨hd1, bstep HB0.out hb1, fun x hx => by have := hn1' x hx; omega, HS0.out.next hb1⟩
  clear hd1 hn1' hb1 HS0 HB0 hz0 g0 hl0
  go_wp2_with fail
  refine (fuse_any m HM.out W1 HK1.out.dev).mono ?_
  rintro e W2 ⟨rfl, hd2, hk2⟩
  have HK2 := Lib.hid (HK1.out.turn hd2 (fun x hx => .inl hx) hk2)
  clear hd2 hk2 HK1
  have g0 := str5 HK2.out.box
  have hl0 := HK2.out.box.lt
  go_wp2_with fail
  refine (FmtW.Format_any b p f c l N d bs1 _ _ _ W2 HK2.out.dev (inv0 N m _)).mono ?_
  rintro e W3 ⟨rfl, bs3, X3, hd3, hk3, hn3, hs3, hr3⟩
  have HK3 := Lib.hid (HK2.out.turn hd3 hn3 hk3)
  have HR3 := Lib.hid hr3
  have HS3 := Lib.hid hs3
  have HW : Hid (FmtP.want b p f c l N (decide (0 ≤ m)) (max m 0) = 0) := Lib.hid (by
    unfold FmtP.want; rw [HRR.out, if_neg (by decide), if_neg (by have := HP.out; omega), if_neg (fun h => by have := HF.out; simp only [decide_eq_true_eq] at h; omega)])
  rw [HW.out] at HR3 ⊢
  clear hd3 hk3 hn3 hs3 hr3 HK2 g0 hl0
  have g0 := str5 HK3.out.box
  have hl0 := HK3.out.box.lt
  go_wp2_with fail
  refine (MetaW.code_any _ _).mono ?_
  rintro e w' ⟨rfl, rfl⟩
  go_wp2_with fail
  refine (MetaW.right_any b p f c l W3).mono ?_
  rintro e W4 ⟨rfl, hb4⟩
  rw [HRR.out]
  have HK4 := Lib.hid (HK3.out.next hb4)
  clear hb4 HK3 g0 hl0
  have g0 := str5 HK4.out.box
  have hl0 := HK4.out.box.lt
  go_wp2_with fail
  refine (FmtW.Format_nil b p f c l W4).mono ?_
  rintro e W5 ⟨rfl, hb5⟩
  have HK5 := Lib.hid (HK4.out.next hb5)
  clear hb5 HK4 g0 hl0
  have g0 := str5 HK5.out.box
  have hl0 := HK5.out.box.lt
  go_wp2_with fail
  refine (MetaW.code_any _ _).mono ?_
  rintro e w' ⟨rfl, rfl⟩
  go_wp2_with fail
  refine (Crash_any 0 ⟨by decide, by decide⟩ W5 HK5.out.dev HS3.out).mono ?_
  rintro e W6 ⟨rfl, bs6, hd6, hn6, hk6⟩
  have HK6 := Lib.hid (HK5.out.turn hd6 hn6 hk6)
  clear hd6 hn6 hk6 HK5 g0 hl0
  have g0 := str5 HK6.out.box
  have hl0 := HK6.out.box.lt
  have hli : LI (DevP.crashed X3 0) N b 0 (FmtP.pg b p f c l) := by
    obtain ⟨q1, q2, q3⟩ := HR3.out (by first | rfl | trivial)
    exact ⟨q1, rfl, rfl, by show X3.ops ≤ _; omega, q3⟩
  have HLI := Lib.hid hli
  clear hli HR3 HS3 HM
  obtain ⟨X6, hX6⟩ : ∃ X, DevP.crashed X3 0 = X := ⟨_, rfl⟩
  rw [hX6] at HLI HK6
  obtain ⟨B, rfl⟩ : ∃ B : Nat, b = (B : Int) := ⟨b.toNat, by omega⟩
  have hBN : B < N := by have := HP.out; omega
  have hB16 : B ≤ 16 := by omega
  have HPL := Lib.hid (fun j => FmtP.pg_length (B : Int) p f c l j)
  have HQL := Lib.hid (fun j => FmtP.raw_length (B : Int) p f c l j)
  clear hX6
  go_wp2
  go_loopw [10] (fun iv wr => ∃ (i : Nat) (bs' : List Nat) (X' : DevX), i ≤ B + 1 ∧ iv = .int .i64 (i : Int) ∧ Hid (LK w wr d bs' #[.int .i64 (B : Int), .int .i64 p, .int .i64 f, .int .i64 c, .int .i64 l] X' ∧ LI X' N (B : Int) i (FmtP.pg (B : Int) p f c l))) (fun iv _ => B + 1 - (intOf iv).toNat)
  case atStart => exact ⟨0, bs6, X6, by omega, rfl, Lib.hid ⟨HK6.out, HLI.out⟩⟩
  case round =>
    obtain ⟨i, bs', X', hi, rfl, HH⟩ := hrel
    clear HLI HK6 g0 hl0
    have HV := Lib.hid HH.out.2
    have HK := Lib.hid HH.out.1
    clear HH
    have g0 := str5 HK.out.box
    have hl0 := HK.out.box.lt
    have hops : X'.ops ≤ 1000000000 := by have := HV.out.ops; omega
    by_cases hlt : i ≤ B
    · have hd : decide ((i : Int) ≤ (B : Int)) = true := by simp; omega
      have hfit : fitsN X' (i : Int) = true := by unfold fitsN; rw [HV.out.n]; simp; omega
      go_wp2_with fail
      refine (Read_any (i : Int) wr HK.out.dev hops).mono ?_
      rintro e W7 ⟨rfl, bs7, hd7, hn7, hk7⟩
      rw [hfit] at hd7 ⊢
      rw [HV.out.read (by omega), HV.out.errs]
      have HK7 := Lib.hid (HK.out.turn hd7 hn7 hk7)
      have HV7 := Lib.hid HV.out.more
      obtain ⟨X7, hX7⟩ : ∃ X, DevP.op X' true X' = X := ⟨_, rfl⟩
      rw [hX7] at HV7 HK7
      clear hd7 hn7 hk7 hX7 HK HV g0 hl0 hfit hops
      have g0 := str5 HK7.out.box
      have hl0 := HK7.out.box.lt
      have hst7 := run_st (P := Try.prog) arrPage (Str.new W7 (rowV (SlotP.zeros 512)) 30) (by rw [rowV_size]; exact hz) (HPL.out i)
      obtain ⟨W8, hW8⟩ : ∃ W, (W7.alloc (.cells (rowV (SlotP.zeros 512)) 30)).setRow W7.heap.size (rowV (FmtP.pg (B : Int) p f c l i)) = W := ⟨_, rfl⟩
      rw [hW8] at hst7
      have HPB : Hid (Str W8 W7.heap.size (rowV (FmtP.pg (B : Int) p f c l i))) := Lib.hid (by rw [← hW8]; exact (Str.new W7 _ _).setRow)
      have hb8 : Below W7.heap.size W7 W8 := by rw [← hW8]; exact below_setRow (balloc (bsame _) _) (Nat.le_refl _) _
      have HK8 := Lib.hid (HK7.out.next hb8)
      clear hb8 hW8 HK7 g0 hl0
      have g0 := str5 HK8.out.box
      have hl0 := HK8.out.box.lt
      have hlp := HPB.out.lt
      go_wp2_with fail
      refine (RefMeta.New_any (B : Int) p f c l (by omega) (by omega) W8).mono ?_
      rintro e W9 ⟨A9, n9, c9, rfl, hy9, hb9⟩
      have hn9 : n9 = 512 := by rw [← hy9.len, MetaP.page_length]
      subst hn9
      have HK9 := Lib.hid (HK8.out.next hb9)
      have HPB9 := Lib.hid (HPB.out.next hb9)
      have HY9 := Lib.hid hy9
      clear hb9 hy9 HK8 HPB g0 hl0 hlp hst7
      have g0 := str5 HK9.out.box
      have hl0 := HK9.out.box.lt
      by_cases hi0 : i = 0
      · subst hi0
        have HYR : Hid (Bytes W9 W9.heap.size A9 512 c9 (FmtP.raw (B : Int) p f c l 0)) := Lib.hid HY9.out
        go_wp2_with fail
        have hsl := fun W => run_sl_all (P := Try.prog) arrPage W7.heap.size W
        refine Reg.wp_region_vals (R := ext) (W := W9) [Reg.eqv (.int .i64 0), Reg.eqv (.int .i64 0), Reg.eqv (.bool false), Reg.eqv (.bool false), Reg.eqv (.slice (some ⟨W7.heap.size, 0, none⟩) 512 512), Reg.eqv (.slice A9 512 c9), Reg.bytes (FmtP.pg (B : Int) p f c l 0), Reg.eqv (.bool true), Reg.eqv (.bool false), Reg.eqv (.bool false)] 91 [[(12, none)], [(80, some 0)], [(81, some 1)], [(82, some 2)], [(11, none), (83, some 3)], [(13, none), (83, some 3)], [(85, some 5), (83, some 3)], [(84, some 4), (86, some 6), (83, some 3)], [(87, some 7), (83, some 3)], [(83, some 3), (88, some 8)]] rfl (by kernel_rfl) (by kernel_rfl) (by kernel_rfl) ?_ [some 80, some 81, some 82, some 83, some 84, some 85, some 86, some 87, some 88, some 89] (by kernel_rfl) ?_
        · refine ⟨?_, ?_, ?_, ?_, ?_, ?_, ?_, ?_, ?_, ?_, trivial⟩
          · intro ax wx hx hs
            obtain ⟨e12, -⟩ := hs
            have g12 := Reg.ev (v := .int .i64 0) e12
            exact Reg.obl_free rfl (Reg.wp_eqv (Option.some_ne_none _) (by go_simp) rfl)
          · intro ax wx hx hs
            obtain ⟨e80, -⟩ := hs
            have g80 := Reg.ev (v := .int .i64 0) e80
            refine Reg.obl_free rfl ?_
            go_simp
            refine (MetaW.code_any _ _).mono ?_
            rintro e wy ⟨rfl, rfl⟩
            exact Reg.done (Option.some_ne_none _) rfl (bsame _)
          · intro ax wx hx hs
            obtain ⟨e81, -⟩ := hs
            have g81 := Reg.ev (v := .int .i64 0) e81
            exact Reg.obl_free rfl (Reg.wp_eqv (Option.some_ne_none _) (by go_simp) rfl)
          · intro ax wx hx hs
            obtain ⟨e82, -⟩ := hs
            have g82 := Reg.ev (v := .bool false) e82
            exact Reg.obl_free rfl (Reg.wp_eqv (Option.some_ne_none _) (by go_simp) rfl)
          · intro ax wx hx hs
            obtain ⟨e11, e83, -⟩ := hs
            have g11 := Reg.ev (v := .pointer (some ⟨W7.heap.size, 0, none⟩)) e11
            have g83 := Reg.ev (v := .bool false) e83
            exact Reg.obl_want rfl rfl e83 (Reg.wp_eqv (Option.some_ne_none _) (by go_simp) rfl)
          · intro ax wx hx hs
            obtain ⟨e13, e83, -⟩ := hs
            have g13 := Reg.ev (v := .slice A9 512 c9) e13
            have g83 := Reg.ev (v := .bool false) e83
            exact Reg.obl_want rfl rfl e83 (Reg.wp_eqv (Option.some_ne_none _) (by go_simp) rfl)
          · intro ax wx hx hs
            obtain ⟨e85, e83, -⟩ := hs
            have g85 := Reg.ev (v := .slice A9 512 c9) e85
            have g83 := Reg.ev (v := .bool false) e83
            refine Reg.obl_want rfl rfl e83 ?_
            have hx' : Below W9.heap.size W9 wx := hx
            have hy' := HYR.out.next hx'
            go_simp
            refine (RefPage.sealed_any _ _ _ _ _ hy' (Nat.le_refl _)).mono ?_
            rintro e wy ⟨A8, n8, c8, rfl, hy8, hby⟩
            exact Reg.done (Option.some_ne_none _) ⟨A8, n8, c8, rfl, hy8⟩ hby
          · intro ax wx hx hs
            obtain ⟨e84, e86, e83, -⟩ := hs
            have g84 := Reg.ev (v := .slice (some ⟨W7.heap.size, 0, none⟩) 512 512) e84
            have g83 := Reg.ev (v := .bool false) e83
            refine Reg.obl_want rfl rfl e83 ?_
            have hx' : Below W9.heap.size W9 wx := hx
            obtain ⟨A8, n8, c8, e86, hy8⟩ := e86
            have g86 := Reg.ev e86
            have hpt := (HPB9.out.next hx').part 0 512 512 (by rw [HPL.out]; omega) (by omega) (by unfold maxLen; omega)
            rw [List.drop_zero, List.take_of_length_le (by rw [HPL.out]; omega)] at hpt
            go_simp
            refine (Same.same_any _ _ _ _ _ _ _ _ _ _ _ hpt hy8).mono ?_
            rintro e wy ⟨rfl, rfl⟩
            rw [beq_self_eq_true]
            exact Reg.done (Option.some_ne_none _) rfl (bsame _)
          · intro ax wx hx hs
            obtain ⟨e87, e83, -⟩ := hs
            have g87 := Reg.ev (v := .bool true) e87
            have g83 := Reg.ev (v := .bool false) e83
            exact Reg.obl_want rfl rfl e83 (Reg.wp_eqv (Option.some_ne_none _) (by go_simp) rfl)
          · intro ax wx hx hs
            obtain ⟨e83, e88, -⟩ := hs
            have g83 := Reg.ev (v := .bool false) e83
            have g88 := Reg.ev (v := .bool false) e88
            exact Reg.obl_free rfl (Reg.wp_eqv (Option.some_ne_none _) (by go_simp) rfl)
        · intro W11 hwf
          simp only [Reg.Fin]
          rintro _ rfl _ rfl _ rfl _ rfl _ rfl _ rfl v86 h86 _ rfl _ rfl _ rfl
          go_simp
          have hwf' : Below W9.heap.size W9 W11 := hwf
          have HK11 := Lib.hid (HK9.out.next hwf')
          clear hwf hwf' hsl g0 hl0
          go_wp2
          go_roundw
          case rel => exact ⟨0 + 1, bs7, X7, by omega, by first | rfl | go_num, Lib.hid ⟨HK11.out, HV7.out⟩⟩
          case measure => first | (simp [intOf]; done) | (simp [intOf]; omega)
      · have hd0 : decide (0 < (i : Int)) = true := by simp; omega
        go_wp2_with fail
        refine (RefPage.new_any (i : Int) W9).mono ?_
        rintro e W10 ⟨A10, n10, c10, rfl, hy10, hb10⟩
        have hn10 : n10 = 512 := by rw [← hy10.len]; exact FmtP.new_length _
        subst hn10
        have HK10 := Lib.hid (HK9.out.next hb10)
        have HPB10 := Lib.hid (HPB9.out.next hb10)
        have hraw : FmtP.raw (B : Int) p f c l i = SlotP.over (SlotP.zeros 512) 12 (BeP.parts 2 (i : Int)) := by unfold FmtP.raw; rw [if_neg hi0]
        have HYR : Hid (Bytes W10 W10.heap.size A10 512 c10 (FmtP.raw (B : Int) p f c l i)) := Lib.hid (by rw [hraw]; exact hy10)
        clear hb10 hy10 HK9 HPB9 g0 hl0 HY9 hraw
        have g0 := str5 HK10.out.box
        have hl0 := HK10.out.box.lt
        go_wp2_with fail
        have hsl := fun W => run_sl_all (P := Try.prog) arrPage W7.heap.size W
        refine Reg.wp_region_vals (R := ext) (W := W10) [Reg.eqv (.int .i64 0), Reg.eqv (.int .i64 0), Reg.eqv (.bool false), Reg.eqv (.bool false), Reg.eqv (.slice (some ⟨W7.heap.size, 0, none⟩) 512 512), Reg.eqv (.slice A10 512 c10), Reg.bytes (FmtP.pg (B : Int) p f c l i), Reg.eqv (.bool true), Reg.eqv (.bool false), Reg.eqv (.bool false)] 91 [[(12, none)], [(80, some 0)], [(81, some 1)], [(82, some 2)], [(11, none), (83, some 3)], [(13, none), (83, some 3)], [(85, some 5), (83, some 3)], [(84, some 4), (86, some 6), (83, some 3)], [(87, some 7), (83, some 3)], [(83, some 3), (88, some 8)]] rfl (by kernel_rfl) (by kernel_rfl) (by kernel_rfl) ?_ [some 80, some 81, some 82, some 83, some 84, some 85, some 86, some 87, some 88, some 89] (by kernel_rfl) ?_
        · refine ⟨?_, ?_, ?_, ?_, ?_, ?_, ?_, ?_, ?_, ?_, trivial⟩
          · intro ax wx hx hs
            obtain ⟨e12, -⟩ := hs
            have g12 := Reg.ev (v := .int .i64 0) e12
            exact Reg.obl_free rfl (Reg.wp_eqv (Option.some_ne_none _) (by go_simp) rfl)
          · intro ax wx hx hs
            obtain ⟨e80, -⟩ := hs
            have g80 := Reg.ev (v := .int .i64 0) e80
            refine Reg.obl_free rfl ?_
            go_simp
            refine (MetaW.code_any _ _).mono ?_
            rintro e wy ⟨rfl, rfl⟩
            exact Reg.done (Option.some_ne_none _) rfl (bsame _)
          · intro ax wx hx hs
            obtain ⟨e81, -⟩ := hs
            have g81 := Reg.ev (v := .int .i64 0) e81
            exact Reg.obl_free rfl (Reg.wp_eqv (Option.some_ne_none _) (by go_simp) rfl)
          · intro ax wx hx hs
            obtain ⟨e82, -⟩ := hs
            have g82 := Reg.ev (v := .bool false) e82
            exact Reg.obl_free rfl (Reg.wp_eqv (Option.some_ne_none _) (by go_simp) rfl)
          · intro ax wx hx hs
            obtain ⟨e11, e83, -⟩ := hs
            have g11 := Reg.ev (v := .pointer (some ⟨W7.heap.size, 0, none⟩)) e11
            have g83 := Reg.ev (v := .bool false) e83
            exact Reg.obl_want rfl rfl e83 (Reg.wp_eqv (Option.some_ne_none _) (by go_simp) rfl)
          · intro ax wx hx hs
            obtain ⟨e13, e83, -⟩ := hs
            have g13 := Reg.ev (v := .slice A10 512 c10) e13
            have g83 := Reg.ev (v := .bool false) e83
            exact Reg.obl_want rfl rfl e83 (Reg.wp_eqv (Option.some_ne_none _) (by go_simp) rfl)
          · intro ax wx hx hs
            obtain ⟨e85, e83, -⟩ := hs
            have g85 := Reg.ev (v := .slice A10 512 c10) e85
            have g83 := Reg.ev (v := .bool false) e83
            refine Reg.obl_want rfl rfl e83 ?_
            have hx' : Below W10.heap.size W10 wx := hx
            have hy' := HYR.out.next hx'
            go_simp
            refine (RefPage.sealed_any _ _ _ _ _ hy' (Nat.le_refl _)).mono ?_
            rintro e wy ⟨A8, n8, c8, rfl, hy8, hby⟩
            exact Reg.done (Option.some_ne_none _) ⟨A8, n8, c8, rfl, hy8⟩ hby
          · intro ax wx hx hs
            obtain ⟨e84, e86, e83, -⟩ := hs
            have g84 := Reg.ev (v := .slice (some ⟨W7.heap.size, 0, none⟩) 512 512) e84
            have g83 := Reg.ev (v := .bool false) e83
            refine Reg.obl_want rfl rfl e83 ?_
            have hx' : Below W10.heap.size W10 wx := hx
            obtain ⟨A8, n8, c8, e86, hy8⟩ := e86
            have g86 := Reg.ev e86
            have hpt := (HPB10.out.next hx').part 0 512 512 (by rw [HPL.out]; omega) (by omega) (by unfold maxLen; omega)
            rw [List.drop_zero, List.take_of_length_le (by rw [HPL.out]; omega)] at hpt
            go_simp
            refine (Same.same_any _ _ _ _ _ _ _ _ _ _ _ hpt hy8).mono ?_
            rintro e wy ⟨rfl, rfl⟩
            rw [beq_self_eq_true]
            exact Reg.done (Option.some_ne_none _) rfl (bsame _)
          · intro ax wx hx hs
            obtain ⟨e87, e83, -⟩ := hs
            have g87 := Reg.ev (v := .bool true) e87
            have g83 := Reg.ev (v := .bool false) e83
            exact Reg.obl_want rfl rfl e83 (Reg.wp_eqv (Option.some_ne_none _) (by go_simp) rfl)
          · intro ax wx hx hs
            obtain ⟨e83, e88, -⟩ := hs
            have g83 := Reg.ev (v := .bool false) e83
            have g88 := Reg.ev (v := .bool false) e88
            exact Reg.obl_free rfl (Reg.wp_eqv (Option.some_ne_none _) (by go_simp) rfl)
        · intro W11 hwf
          simp only [Reg.Fin]
          rintro _ rfl _ rfl _ rfl _ rfl _ rfl _ rfl v86 h86 _ rfl _ rfl _ rfl
          go_simp
          have hwf' : Below W10.heap.size W10 W11 := hwf
          have HK11 := Lib.hid (HK10.out.next hwf')
          clear hwf hwf' hsl g0 hl0
          go_wp2
          go_roundw
          case rel => exact ⟨i + 1, bs7, X7, by omega, by first | rfl | go_num, Lib.hid ⟨HK11.out, HV7.out⟩⟩
          case measure => first | (simp [intOf]; done) | (simp [intOf]; omega)
    · have hd : decide ((i : Int) ≤ (B : Int)) = false := by simp; omega
      go_wp2_with fail
      refine (MetaW.live_any _).mono ?_
      rintro e w3 ⟨rfl, hb⟩
      go_wp2
      go_ret
      exact ⟨rfl, bstep HK.out.bel hb⟩
set_option maxRecDepth 100000 in
set_option maxHeartbeats 4000000 in
theorem walk_long (b p f c l m : Int) (N : Nat) (w : World) (h1 : 1 ≤ N) (h2 : N ≤ 60) (hm : In64 m) (hR : MetaP.right b p f c l = true) (hp : ¬ (N : Int) < p) (hf : 0 ≤ m ∧ b + 2 ≤ m) : Calls Try.prog 5 #[.agg #[.int .i64 b, .int .i64 p, .int .i64 f, .int .i64 c, .int .i64 l], .int .i64 (N : Int), .int .i64 m] w fun e w' => e = .returned (.bool true) ∧ Below w.heap.size w w' := by
  have HM := Lib.hid hm
  have hn1 : decide (60 < (N : Int)) = false := by simp; omega
  have hn2 : decide ((N : Int) < 1) = false := by simp; omega
  have hb16 : 1 ≤ b ∧ b ≤ 16 ∧ b + 1 ≤ p := by
    unfold MetaP.right at hR
    simp only [Bool.and_eq_true, MetaP.within_iff] at hR
    omega
  have HRR := Lib.hid hR
  clear hR
  have hdp : decide ((N : Int) < p) = false := by simpa using hp
  have HP := Lib.hid hp
  have hm0 : decide (0 ≤ m) = true := by simpa using hf.1
  have hm1 : decide (m < b + 2) = false := by simpa using hf.2
  have HF := Lib.hid hf
  clear hp hf

  have hal := fun W => run_al (P := Try.prog) arrPage W
  have hz : (SlotP.zeros 512).length = 512 := List.length_replicate
  obtain ⟨W0, hW0⟩ : ∃ W, w.alloc (.cells #[.int .i64 b, .int .i64 p, .int .i64 f, .int .i64 c, .int .i64 l] 48) = W := ⟨_, rfl⟩
  obtain ⟨HS0, HB0, hw0, hz0⟩ := new1 hW0
  have g0 := str5 HS0.out
  have hl0 := HS0.out.lt
  go_enter Try.func5, Try.ntmps5
  go_wp2_with fail
  refine (new_mid (N : Int) N rfl h1 (by omega) W0).mono ?_
  rintro e W1 ⟨d, bs1, rfl, hd1, hn1', hb1⟩
  have HK1 : Hid (LK w W1 d bs1 #[.int .i64 b, .int .i64 p, .int .i64 f, .int .i64 c, .int .i64 l] (DevP.new N)) := Lib.hid ⟨hd1, bstep HB0.out hb1, fun x hx => by have := hn1' x hx; omega, HS0.out.next hb1⟩
  clear hd1 hn1' hb1 HS0 HB0 hz0 g0 hl0
  go_wp2_with fail
  refine (fuse_any m HM.out W1 HK1.out.dev).mono ?_
  rintro e W2 ⟨rfl, hd2, hk2⟩
  have HK2 := Lib.hid (HK1.out.turn hd2 (fun x hx => .inl hx) hk2)
  clear hd2 hk2 HK1
  have g0 := str5 HK2.out.box
  have hl0 := HK2.out.box.lt
  go_wp2_with fail
  refine (FmtW.Format_any b p f c l N d bs1 _ _ _ W2 HK2.out.dev (inv0 N m _)).mono ?_
  rintro e W3 ⟨rfl, bs3, X3, hd3, hk3, hn3, hs3, hr3⟩
  have HK3 := Lib.hid (HK2.out.turn hd3 hn3 hk3)
  have HR3 := Lib.hid hr3
  have HS3 := Lib.hid hs3
  have HW : Hid (FmtP.want b p f c l N (decide (0 ≤ m)) (max m 0) = 0) := Lib.hid (by
    unfold FmtP.want; rw [HRR.out, if_neg (by decide), if_neg (by have := HP.out; omega), if_neg (fun h => by have := HF.out; simp only [decide_eq_true_eq] at h; omega)])
  rw [HW.out] at HR3 ⊢
  clear hd3 hk3 hn3 hs3 hr3 HK2 g0 hl0
  have g0 := str5 HK3.out.box
  have hl0 := HK3.out.box.lt
  go_wp2_with fail
  refine (MetaW.code_any _ _).mono ?_
  rintro e w' ⟨rfl, rfl⟩
  go_wp2_with fail
  refine (MetaW.right_any b p f c l W3).mono ?_
  rintro e W4 ⟨rfl, hb4⟩
  rw [HRR.out]
  have HK4 := Lib.hid (HK3.out.next hb4)
  clear hb4 HK3 g0 hl0
  have g0 := str5 HK4.out.box
  have hl0 := HK4.out.box.lt
  go_wp2_with fail
  refine (FmtW.Format_nil b p f c l W4).mono ?_
  rintro e W5 ⟨rfl, hb5⟩
  have HK5 := Lib.hid (HK4.out.next hb5)
  clear hb5 HK4 g0 hl0
  have g0 := str5 HK5.out.box
  have hl0 := HK5.out.box.lt
  go_wp2_with fail
  refine (MetaW.code_any _ _).mono ?_
  rintro e w' ⟨rfl, rfl⟩
  go_wp2_with fail
  refine (Crash_any 0 ⟨by decide, by decide⟩ W5 HK5.out.dev HS3.out).mono ?_
  rintro e W6 ⟨rfl, bs6, hd6, hn6, hk6⟩
  have HK6 := Lib.hid (HK5.out.turn hd6 hn6 hk6)
  clear hd6 hn6 hk6 HK5 g0 hl0
  have g0 := str5 HK6.out.box
  have hl0 := HK6.out.box.lt
  have hli : LI (DevP.crashed X3 0) N b 0 (FmtP.pg b p f c l) := by
    obtain ⟨q1, q2, q3⟩ := HR3.out (by first | rfl | trivial)
    exact ⟨q1, rfl, rfl, by show X3.ops ≤ _; omega, q3⟩
  have HLI := Lib.hid hli
  clear hli HR3 HS3 HM
  obtain ⟨X6, hX6⟩ : ∃ X, DevP.crashed X3 0 = X := ⟨_, rfl⟩
  rw [hX6] at HLI HK6
  obtain ⟨B, rfl⟩ : ∃ B : Nat, b = (B : Int) := ⟨b.toNat, by omega⟩
  have hBN : B < N := by have := HP.out; omega
  have hB16 : B ≤ 16 := by omega
  have HPL := Lib.hid (fun j => FmtP.pg_length (B : Int) p f c l j)
  have HQL := Lib.hid (fun j => FmtP.raw_length (B : Int) p f c l j)
  clear hX6
  go_wp2
  go_loopw [10] (fun iv wr => ∃ (i : Nat) (bs' : List Nat) (X' : DevX), i ≤ B + 1 ∧ iv = .int .i64 (i : Int) ∧ Hid (LK w wr d bs' #[.int .i64 (B : Int), .int .i64 p, .int .i64 f, .int .i64 c, .int .i64 l] X' ∧ LI X' N (B : Int) i (FmtP.pg (B : Int) p f c l))) (fun iv _ => B + 1 - (intOf iv).toNat)
  case atStart => exact ⟨0, bs6, X6, by omega, rfl, Lib.hid ⟨HK6.out, HLI.out⟩⟩
  case round =>
    obtain ⟨i, bs', X', hi, rfl, HH⟩ := hrel
    clear HLI HK6 g0 hl0
    have HV := Lib.hid HH.out.2
    have HK := Lib.hid HH.out.1
    clear HH
    have g0 := str5 HK.out.box
    have hl0 := HK.out.box.lt
    have hops : X'.ops ≤ 1000000000 := by have := HV.out.ops; omega
    by_cases hlt : i ≤ B
    · have hd : decide ((i : Int) ≤ (B : Int)) = true := by simp; omega
      have hfit : fitsN X' (i : Int) = true := by unfold fitsN; rw [HV.out.n]; simp; omega
      go_wp2_with fail
      refine (Read_any (i : Int) wr HK.out.dev hops).mono ?_
      rintro e W7 ⟨rfl, bs7, hd7, hn7, hk7⟩
      rw [hfit] at hd7 ⊢
      rw [HV.out.read (by omega), HV.out.errs]
      have HK7 := Lib.hid (HK.out.turn hd7 hn7 hk7)
      have HV7 := Lib.hid HV.out.more
      obtain ⟨X7, hX7⟩ : ∃ X, DevP.op X' true X' = X := ⟨_, rfl⟩
      rw [hX7] at HV7 HK7
      clear hd7 hn7 hk7 hX7 HK HV g0 hl0 hfit hops
      have g0 := str5 HK7.out.box
      have hl0 := HK7.out.box.lt
      have hst7 := run_st (P := Try.prog) arrPage (Str.new W7 (rowV (SlotP.zeros 512)) 30) (by rw [rowV_size]; exact hz) (HPL.out i)
      obtain ⟨W8, hW8⟩ : ∃ W, (W7.alloc (.cells (rowV (SlotP.zeros 512)) 30)).setRow W7.heap.size (rowV (FmtP.pg (B : Int) p f c l i)) = W := ⟨_, rfl⟩
      rw [hW8] at hst7
      have HPB : Hid (Str W8 W7.heap.size (rowV (FmtP.pg (B : Int) p f c l i))) := Lib.hid (by rw [← hW8]; exact (Str.new W7 _ _).setRow)
      have hb8 : Below W7.heap.size W7 W8 := by rw [← hW8]; exact below_setRow (balloc (bsame _) _) (Nat.le_refl _) _
      have HK8 := Lib.hid (HK7.out.next hb8)
      clear hb8 hW8 HK7 g0 hl0
      have g0 := str5 HK8.out.box
      have hl0 := HK8.out.box.lt
      have hlp := HPB.out.lt
      go_wp2_with fail
      refine (RefMeta.New_any (B : Int) p f c l (by omega) (by omega) W8).mono ?_
      rintro e W9 ⟨A9, n9, c9, rfl, hy9, hb9⟩
      have hn9 : n9 = 512 := by rw [← hy9.len, MetaP.page_length]
      subst hn9
      have HK9 := Lib.hid (HK8.out.next hb9)
      have HPB9 := Lib.hid (HPB.out.next hb9)
      have HY9 := Lib.hid hy9
      clear hb9 hy9 HK8 HPB g0 hl0 hlp hst7
      have g0 := str5 HK9.out.box
      have hl0 := HK9.out.box.lt
      by_cases hi0 : i = 0
      · subst hi0
        have HYR : Hid (Bytes W9 W9.heap.size A9 512 c9 (FmtP.raw (B : Int) p f c l 0)) := Lib.hid HY9.out
        go_wp2_with fail
        have hsl := fun W => run_sl_all (P := Try.prog) arrPage W7.heap.size W
        refine Reg.wp_region_vals (R := ext) (W := W9) [Reg.eqv (.int .i64 0), Reg.eqv (.int .i64 0), Reg.eqv (.bool false), Reg.eqv (.bool false), Reg.eqv (.slice (some ⟨W7.heap.size, 0, none⟩) 512 512), Reg.eqv (.slice A9 512 c9), Reg.bytes (FmtP.pg (B : Int) p f c l 0), Reg.eqv (.bool true), Reg.eqv (.bool false), Reg.eqv (.bool false)] 91 [[(12, none)], [(80, some 0)], [(81, some 1)], [(82, some 2)], [(11, none), (83, some 3)], [(13, none), (83, some 3)], [(85, some 5), (83, some 3)], [(84, some 4), (86, some 6), (83, some 3)], [(87, some 7), (83, some 3)], [(83, some 3), (88, some 8)]] rfl (by kernel_rfl) (by kernel_rfl) (by kernel_rfl) ?_ [some 80, some 81, some 82, some 83, some 84, some 85, some 86, some 87, some 88, some 89] (by kernel_rfl) ?_
        · refine ⟨?_, ?_, ?_, ?_, ?_, ?_, ?_, ?_, ?_, ?_, trivial⟩
          · intro ax wx hx hs
            obtain ⟨e12, -⟩ := hs
            have g12 := Reg.ev (v := .int .i64 0) e12
            exact Reg.obl_free rfl (Reg.wp_eqv (Option.some_ne_none _) (by go_simp) rfl)
          · intro ax wx hx hs
            obtain ⟨e80, -⟩ := hs
            have g80 := Reg.ev (v := .int .i64 0) e80
            refine Reg.obl_free rfl ?_
            go_simp
            refine (MetaW.code_any _ _).mono ?_
            rintro e wy ⟨rfl, rfl⟩
            exact Reg.done (Option.some_ne_none _) rfl (bsame _)
          · intro ax wx hx hs
            obtain ⟨e81, -⟩ := hs
            have g81 := Reg.ev (v := .int .i64 0) e81
            exact Reg.obl_free rfl (Reg.wp_eqv (Option.some_ne_none _) (by go_simp) rfl)
          · intro ax wx hx hs
            obtain ⟨e82, -⟩ := hs
            have g82 := Reg.ev (v := .bool false) e82
            exact Reg.obl_free rfl (Reg.wp_eqv (Option.some_ne_none _) (by go_simp) rfl)
          · intro ax wx hx hs
            obtain ⟨e11, e83, -⟩ := hs
            have g11 := Reg.ev (v := .pointer (some ⟨W7.heap.size, 0, none⟩)) e11
            have g83 := Reg.ev (v := .bool false) e83
            exact Reg.obl_want rfl rfl e83 (Reg.wp_eqv (Option.some_ne_none _) (by go_simp) rfl)
          · intro ax wx hx hs
            obtain ⟨e13, e83, -⟩ := hs
            have g13 := Reg.ev (v := .slice A9 512 c9) e13
            have g83 := Reg.ev (v := .bool false) e83
            exact Reg.obl_want rfl rfl e83 (Reg.wp_eqv (Option.some_ne_none _) (by go_simp) rfl)
          · intro ax wx hx hs
            obtain ⟨e85, e83, -⟩ := hs
            have g85 := Reg.ev (v := .slice A9 512 c9) e85
            have g83 := Reg.ev (v := .bool false) e83
            refine Reg.obl_want rfl rfl e83 ?_
            have hx' : Below W9.heap.size W9 wx := hx
            have hy' := HYR.out.next hx'
            go_simp
            refine (RefPage.sealed_any _ _ _ _ _ hy' (Nat.le_refl _)).mono ?_
            rintro e wy ⟨A8, n8, c8, rfl, hy8, hby⟩
            exact Reg.done (Option.some_ne_none _) ⟨A8, n8, c8, rfl, hy8⟩ hby
          · intro ax wx hx hs
            obtain ⟨e84, e86, e83, -⟩ := hs
            have g84 := Reg.ev (v := .slice (some ⟨W7.heap.size, 0, none⟩) 512 512) e84
            have g83 := Reg.ev (v := .bool false) e83
            refine Reg.obl_want rfl rfl e83 ?_
            have hx' : Below W9.heap.size W9 wx := hx
            obtain ⟨A8, n8, c8, e86, hy8⟩ := e86
            have g86 := Reg.ev e86
            have hpt := (HPB9.out.next hx').part 0 512 512 (by rw [HPL.out]; omega) (by omega) (by unfold maxLen; omega)
            rw [List.drop_zero, List.take_of_length_le (by rw [HPL.out]; omega)] at hpt
            go_simp
            refine (Same.same_any _ _ _ _ _ _ _ _ _ _ _ hpt hy8).mono ?_
            rintro e wy ⟨rfl, rfl⟩
            rw [beq_self_eq_true]
            exact Reg.done (Option.some_ne_none _) rfl (bsame _)
          · intro ax wx hx hs
            obtain ⟨e87, e83, -⟩ := hs
            have g87 := Reg.ev (v := .bool true) e87
            have g83 := Reg.ev (v := .bool false) e83
            exact Reg.obl_want rfl rfl e83 (Reg.wp_eqv (Option.some_ne_none _) (by go_simp) rfl)
          · intro ax wx hx hs
            obtain ⟨e83, e88, -⟩ := hs
            have g83 := Reg.ev (v := .bool false) e83
            have g88 := Reg.ev (v := .bool false) e88
            exact Reg.obl_free rfl (Reg.wp_eqv (Option.some_ne_none _) (by go_simp) rfl)
        · intro W11 hwf
          simp only [Reg.Fin]
          rintro _ rfl _ rfl _ rfl _ rfl _ rfl _ rfl v86 h86 _ rfl _ rfl _ rfl
          go_simp
          have hwf' : Below W9.heap.size W9 W11 := hwf
          have HK11 := Lib.hid (HK9.out.next hwf')
          clear hwf hwf' hsl g0 hl0
          go_wp2
          go_roundw
          case rel => exact ⟨0 + 1, bs7, X7, by omega, by first | rfl | go_num, Lib.hid ⟨HK11.out, HV7.out⟩⟩
          case measure => first | (simp [intOf]; done) | (simp [intOf]; omega)
      · have hd0 : decide (0 < (i : Int)) = true := by simp; omega
        go_wp2_with fail
        refine (RefPage.new_any (i : Int) W9).mono ?_
        rintro e W10 ⟨A10, n10, c10, rfl, hy10, hb10⟩
        have hn10 : n10 = 512 := by rw [← hy10.len]; exact FmtP.new_length _
        subst hn10
        have HK10 := Lib.hid (HK9.out.next hb10)
        have HPB10 := Lib.hid (HPB9.out.next hb10)
        have hraw : FmtP.raw (B : Int) p f c l i = SlotP.over (SlotP.zeros 512) 12 (BeP.parts 2 (i : Int)) := by unfold FmtP.raw; rw [if_neg hi0]
        have HYR : Hid (Bytes W10 W10.heap.size A10 512 c10 (FmtP.raw (B : Int) p f c l i)) := Lib.hid (by rw [hraw]; exact hy10)
        clear hb10 hy10 HK9 HPB9 g0 hl0 HY9 hraw
        have g0 := str5 HK10.out.box
        have hl0 := HK10.out.box.lt
        go_wp2_with fail
        have hsl := fun W => run_sl_all (P := Try.prog) arrPage W7.heap.size W
        refine Reg.wp_region_vals (R := ext) (W := W10) [Reg.eqv (.int .i64 0), Reg.eqv (.int .i64 0), Reg.eqv (.bool false), Reg.eqv (.bool false), Reg.eqv (.slice (some ⟨W7.heap.size, 0, none⟩) 512 512), Reg.eqv (.slice A10 512 c10), Reg.bytes (FmtP.pg (B : Int) p f c l i), Reg.eqv (.bool true), Reg.eqv (.bool false), Reg.eqv (.bool false)] 91 [[(12, none)], [(80, some 0)], [(81, some 1)], [(82, some 2)], [(11, none), (83, some 3)], [(13, none), (83, some 3)], [(85, some 5), (83, some 3)], [(84, some 4), (86, some 6), (83, some 3)], [(87, some 7), (83, some 3)], [(83, some 3), (88, some 8)]] rfl (by kernel_rfl) (by kernel_rfl) (by kernel_rfl) ?_ [some 80, some 81, some 82, some 83, some 84, some 85, some 86, some 87, some 88, some 89] (by kernel_rfl) ?_
        · refine ⟨?_, ?_, ?_, ?_, ?_, ?_, ?_, ?_, ?_, ?_, trivial⟩
          · intro ax wx hx hs
            obtain ⟨e12, -⟩ := hs
            have g12 := Reg.ev (v := .int .i64 0) e12
            exact Reg.obl_free rfl (Reg.wp_eqv (Option.some_ne_none _) (by go_simp) rfl)
          · intro ax wx hx hs
            obtain ⟨e80, -⟩ := hs
            have g80 := Reg.ev (v := .int .i64 0) e80
            refine Reg.obl_free rfl ?_
            go_simp
            refine (MetaW.code_any _ _).mono ?_
            rintro e wy ⟨rfl, rfl⟩
            exact Reg.done (Option.some_ne_none _) rfl (bsame _)
          · intro ax wx hx hs
            obtain ⟨e81, -⟩ := hs
            have g81 := Reg.ev (v := .int .i64 0) e81
            exact Reg.obl_free rfl (Reg.wp_eqv (Option.some_ne_none _) (by go_simp) rfl)
          · intro ax wx hx hs
            obtain ⟨e82, -⟩ := hs
            have g82 := Reg.ev (v := .bool false) e82
            exact Reg.obl_free rfl (Reg.wp_eqv (Option.some_ne_none _) (by go_simp) rfl)
          · intro ax wx hx hs
            obtain ⟨e11, e83, -⟩ := hs
            have g11 := Reg.ev (v := .pointer (some ⟨W7.heap.size, 0, none⟩)) e11
            have g83 := Reg.ev (v := .bool false) e83
            exact Reg.obl_want rfl rfl e83 (Reg.wp_eqv (Option.some_ne_none _) (by go_simp) rfl)
          · intro ax wx hx hs
            obtain ⟨e13, e83, -⟩ := hs
            have g13 := Reg.ev (v := .slice A10 512 c10) e13
            have g83 := Reg.ev (v := .bool false) e83
            exact Reg.obl_want rfl rfl e83 (Reg.wp_eqv (Option.some_ne_none _) (by go_simp) rfl)
          · intro ax wx hx hs
            obtain ⟨e85, e83, -⟩ := hs
            have g85 := Reg.ev (v := .slice A10 512 c10) e85
            have g83 := Reg.ev (v := .bool false) e83
            refine Reg.obl_want rfl rfl e83 ?_
            have hx' : Below W10.heap.size W10 wx := hx
            have hy' := HYR.out.next hx'
            go_simp
            refine (RefPage.sealed_any _ _ _ _ _ hy' (Nat.le_refl _)).mono ?_
            rintro e wy ⟨A8, n8, c8, rfl, hy8, hby⟩
            exact Reg.done (Option.some_ne_none _) ⟨A8, n8, c8, rfl, hy8⟩ hby
          · intro ax wx hx hs
            obtain ⟨e84, e86, e83, -⟩ := hs
            have g84 := Reg.ev (v := .slice (some ⟨W7.heap.size, 0, none⟩) 512 512) e84
            have g83 := Reg.ev (v := .bool false) e83
            refine Reg.obl_want rfl rfl e83 ?_
            have hx' : Below W10.heap.size W10 wx := hx
            obtain ⟨A8, n8, c8, e86, hy8⟩ := e86
            have g86 := Reg.ev e86
            have hpt := (HPB10.out.next hx').part 0 512 512 (by rw [HPL.out]; omega) (by omega) (by unfold maxLen; omega)
            rw [List.drop_zero, List.take_of_length_le (by rw [HPL.out]; omega)] at hpt
            go_simp
            refine (Same.same_any _ _ _ _ _ _ _ _ _ _ _ hpt hy8).mono ?_
            rintro e wy ⟨rfl, rfl⟩
            rw [beq_self_eq_true]
            exact Reg.done (Option.some_ne_none _) rfl (bsame _)
          · intro ax wx hx hs
            obtain ⟨e87, e83, -⟩ := hs
            have g87 := Reg.ev (v := .bool true) e87
            have g83 := Reg.ev (v := .bool false) e83
            exact Reg.obl_want rfl rfl e83 (Reg.wp_eqv (Option.some_ne_none _) (by go_simp) rfl)
          · intro ax wx hx hs
            obtain ⟨e83, e88, -⟩ := hs
            have g83 := Reg.ev (v := .bool false) e83
            have g88 := Reg.ev (v := .bool false) e88
            exact Reg.obl_free rfl (Reg.wp_eqv (Option.some_ne_none _) (by go_simp) rfl)
        · intro W11 hwf
          simp only [Reg.Fin]
          rintro _ rfl _ rfl _ rfl _ rfl _ rfl _ rfl v86 h86 _ rfl _ rfl _ rfl
          go_simp
          have hwf' : Below W10.heap.size W10 W11 := hwf
          have HK11 := Lib.hid (HK10.out.next hwf')
          clear hwf hwf' hsl g0 hl0
          go_wp2
          go_roundw
          case rel => exact ⟨i + 1, bs7, X7, by omega, by first | rfl | go_num, Lib.hid ⟨HK11.out, HV7.out⟩⟩
          case measure => first | (simp [intOf]; done) | (simp [intOf]; omega)
    · have hd : decide ((i : Int) ≤ (B : Int)) = false := by simp; omega
      go_wp2_with fail
      refine (MetaW.live_any _).mono ?_
      rintro e w3 ⟨rfl, hb⟩
      go_wp2
      go_ret
      exact ⟨rfl, bstep HK.out.bel hb⟩
theorem walk (v0 v1 v2 : Value) (x : ConfX) (n m : Int) (w : World) (g0 : RConf w v0 x) (g1 : RInt w v1 n) (g2 : RInt w v2 m) :
    Calls Try.prog 5 #[v0, v1, v2] w fun e w' => e = .returned (.bool true) ∧ Below w.heap.size w w' := by
  obtain ⟨b, p, f, c, l⟩ := x
  obtain ⟨rfl, hm⟩ := g2
  obtain ⟨rfl, -⟩ := g1
  have g0' : v0 = _ := g0
  subst g0'
  by_cases ho : 60 < n ∨ n < 1
  · exact walk_out b p f c l n m w ho
  · obtain ⟨N, rfl⟩ : ∃ N : Nat, n = (N : Int) := ⟨n.toNat, by omega⟩
    cases hR : MetaP.right b p f c l with
    | false => exact walk_wrong b p f c l m N w (by omega) (by omega) hm hR
    | true =>
      by_cases hp : (N : Int) < p
      · exact walk_small b p f c l m N w (by omega) (by omega) hm hR hp
      · by_cases hf : 0 ≤ m ∧ m < b + 2
        · exact walk_power b p f c l m N w (by omega) (by omega) hm hR hp hf
        · by_cases h0 : m < 0
          · exact walk_none b p f c l m N w (by omega) (by omega) hm hR hp h0
          · exact walk_long b p f c l m N w (by omega) (by omega) hm hR hp (by omega)
end Go.Proofs.Ytldgdgfplgdipaa.metaFormats
