/-
  Parts of the proof of WalStays.
-/
import Derived.Test.YtpdfnlhhnodnjaaGreatWsG27
import Derived.Test.YtpdfnlhhnodnjaaGreatWsG26
import Derived.Test.YtpdfnlhhnodnjaaGreatWsG6
import Derived.Test.YtpdfnlhhnodnjaaGreatWsG8
import Derived.Test.YtpdfnlhhnodnjaaGreatWsG4
import Derived.Test.YtpdfnlhhnodnjaaGreatProg
import Derived.Test.YtpdfnlhhnodnjaaGreatWsG9
import Derived.Lib.SliceRun
import Derived.Laws.ResultCell
import Derived.Test.YtpdfnlhhnodnjaaGreatWsG25
import Derived.Test.YtpdfnlhhnodnjaaGreatWsG7
section
namespace Go.Proofs.YtpdfnlhhnodnjaaGreat.WalW
open Go.RowKit Go.Maps
set_option linter.unusedVariables false
set_option linter.unusedSimpArgs false
theorem strL {w : World} {b : Nat} {c0 c1 c2 c3 c4 c5 : Value} (h : Str w b #[c0, c1, c2, c3, c4, c5]) :
    w.cell? ⟨b, 0, none⟩ = some c0 ∧ w.cell? ⟨b, 1, none⟩ = some c1 ∧ w.cell? ⟨b, 2, none⟩ = some c2 ∧ w.cell? ⟨b, 3, none⟩ = some c3 ∧ w.cell? ⟨b, 4, none⟩ = some c4 ∧ w.cell? ⟨b, 5, none⟩ = some c5 :=
  ⟨by simpa using h.cell 0, by simpa using h.cell 1, by simpa using h.cell 2, by simpa using h.cell 3, by simpa using h.cell 4, by simpa using h.cell 5⟩
section
variable {lb d mb nm n c : Nat} {A : Option Addr} {bs : List Nat} {X : DevX} {L : MapP.T Int (Array Value)} {lim kept forced : Int} {ps : List Int}
set_option maxRecDepth 100000 in
set_option maxHeartbeats 1000000 in
theorem head_any (w : World) (h : LogIn w lb d mb nm A n c bs X L lim kept forced ps)  :
    Calls Tryz.prog 70 #[.pointer (some ⟨lb, 0, none⟩)] w fun e w' => e = .returned (.int .i64 (X.head)) ∧ Below w.heap.size w w' := by
  have HB : Hid (Str w lb #[.pointer (some ⟨d, 0, none⟩), .int .i64 lim, .int .i64 kept, .int .i64 forced, .map (some mb), .slice A n c]) := Lib.hid h.box
  have HD := Lib.hid h.dev
  have g0 := strL HB.out
  have hl0 := HB.out.lt
  clear h
  go_enter Tryz.func70, Tryz.ntmps70
  go_wp2_with fail
  refine (DevW.head_any w HD.out).mono ?_
  rintro e w' ⟨rfl, hb⟩
  have HF := Lib.hid hb
  clear hb g0 hl0
  go_wp2
  go_ret
  exact ⟨rfl, HF.out⟩
set_option maxRecDepth 100000 in
set_option maxHeartbeats 1000000 in
theorem end_any (w : World) (h : LogIn w lb d mb nm A n c bs X L lim kept forced ps) (hs : DevP.Small X) :
    Calls Tryz.prog 12 #[.pointer (some ⟨lb, 0, none⟩)] w fun e w' => e = .returned (.int .i64 (X.head + (X.log.length : Nat))) ∧ Below w.heap.size w w' := by
  have HB : Hid (Str w lb #[.pointer (some ⟨d, 0, none⟩), .int .i64 lim, .int .i64 kept, .int .i64 forced, .map (some mb), .slice A n c]) := Lib.hid h.box
  have HD := Lib.hid h.dev
  have g0 := strL HB.out
  have hl0 := HB.out.lt
  clear h
  go_enter Tryz.func12, Tryz.ntmps12
  go_wp2_with fail
  refine (DevW.end_any w HD.out hs).mono ?_
  rintro e w' ⟨rfl, hb⟩
  have HF := Lib.hid hb
  clear hb g0 hl0
  go_wp2
  go_ret
  exact ⟨rfl, HF.out⟩
set_option maxRecDepth 100000 in
set_option maxHeartbeats 1000000 in
theorem size_any (w : World) (h : LogIn w lb d mb nm A n c bs X L lim kept forced ps) (hs : DevP.Small X) :
    Calls Tryz.prog 45 #[.pointer (some ⟨lb, 0, none⟩)] w fun e w' => e = .returned (.int .i64 (X.log.length : Nat)) ∧ Below w.heap.size w w' := by
  have H := Lib.hid h
  have HS := Lib.hid hs
  have hh := h.dev.ok.h0
  have h2 := hs.2.1
  clear h hs
  go_enter Tryz.func45, Tryz.ntmps45
  go_wp2_with fail
  refine (end_any w H.out HS.out).mono ?_
  rintro e W1 ⟨rfl, hb1⟩
  have H1 := Lib.hid (H.out.next hb1)
  have HB1 := Lib.hid hb1
  clear hb1
  go_wp2_with fail
  refine (head_any W1 H1.out).mono ?_
  rintro e W2 ⟨rfl, hb2⟩
  have HB2 := Lib.hid (bstep HB1.out hb2)
  have he : X.head + (X.log.length : Nat) - X.head = ((X.log.length : Nat) : Int) := by omega
  clear hb2
  have hw : wrap64 (X.head + (X.log.length : Nat) - X.head) = ((X.log.length : Nat) : Int) := by rw [he]; exact IntWalk.wrap64_in _ (by omega)
  go_wp2
  go_ret
  exact ⟨by simp [*], HB2.out⟩
set_option maxRecDepth 100000 in
set_option maxHeartbeats 4000000 in
theorem room_any (w : World) (h : LogIn w lb d mb nm A n c bs X L lim kept forced ps) (hs : DevP.Small X) (hl : -1152921504606846976 ≤ lim ∧ lim ≤ 1152921504606846976) (hk : -1152921504606846976 ≤ kept ∧ kept ≤ 1152921504606846976) :
    Calls Tryz.prog 22 #[.pointer (some ⟨lb, 0, none⟩)] w fun e w' => e = .returned (.int .i64 (lim - (X.log.length : Nat) - kept)) ∧ Below w.heap.size w w' := by
  have H := Lib.hid h
  have HS := Lib.hid hs
  have HB : Hid (Str w lb #[.pointer (some ⟨d, 0, none⟩), .int .i64 lim, .int .i64 kept, .int .i64 forced, .map (some mb), .slice A n c]) := Lib.hid h.box
  have hh := h.dev.ok.h0
  have h2 := hs.2.1
  have g0 := strL HB.out
  have hl0 := HB.out.lt
  clear h hs
  go_enter Tryz.func22, Tryz.ntmps22
  go_wp2_with fail
  refine Reg.wp_region_vals (R := ext) (W := w) [Reg.eqv (.pointer (some ⟨lb, 0, none⟩)), Reg.eqv (.pointer (some ⟨lb, 0, none⟩)), Reg.eqv (.pointer (some ⟨lb, 1, none⟩)), Reg.eqv (.int .i64 lim), Reg.eqv (.pointer (some ⟨lb, 0, none⟩)), Reg.eqv (.int .i64 (X.log.length : Nat)), Reg.eqv (.int .i64 (lim - (X.log.length : Nat))), Reg.eqv (.pointer (some ⟨lb, 0, none⟩)), Reg.eqv (.pointer (some ⟨lb, 0, none⟩)), Reg.eqv (.pointer (some ⟨lb, 2, none⟩)), Reg.eqv (.int .i64 kept), Reg.eqv (.int .i64 (lim - (X.log.length : Nat) - kept)), Reg.eqv (.int .i64 (lim - (X.log.length : Nat) - kept))] 17 [[(0, none)], [(5, some 0)], [(6, some 1)], [(7, some 2)], [(0, none)], [(9, some 4)], [(8, some 3), (10, some 5)], [(0, none)], [(12, some 7)], [(13, some 8)], [(14, some 9)], [(11, some 6), (15, some 10)], [(16, some 11)]] rfl (by kernel_rfl) (by kernel_rfl) (by kernel_rfl) ?_ [some 5, some 6, some 7, some 8, some 9, some 10, some 11, some 12, some 13, some 14, some 15, some 16, some 2] (by kernel_rfl) ?_
  · refine ⟨?_, ?_, ?_, ?_, ?_, ?_, ?_, ?_, ?_, ?_, ?_, ?_, ?_, trivial⟩
    · intro ax wx hx hs
      obtain ⟨e0, -⟩ := hs
      have g0 := Reg.ev (v := .pointer (some ⟨lb, 0, none⟩)) e0
      exact Reg.obl_free rfl (Reg.wp_eqv (Option.some_ne_none _) (by go_simp) rfl)
    · intro ax wx hx hs
      obtain ⟨e5, -⟩ := hs
      have g5 := Reg.ev (v := .pointer (some ⟨lb, 0, none⟩)) e5
      exact Reg.obl_free rfl (Reg.wp_eqv (Option.some_ne_none _) (by go_simp) rfl)
    · intro ax wx hx hs
      obtain ⟨e6, -⟩ := hs
      have g6 := Reg.ev (v := .pointer (some ⟨lb, 0, none⟩)) e6
      exact Reg.obl_free rfl (Reg.wp_eqv (Option.some_ne_none _) (by go_simp) rfl)
    · intro ax wx hx hs
      obtain ⟨e7, -⟩ := hs
      have g7 := Reg.ev (v := .pointer (some ⟨lb, 1, none⟩)) e7
      have hx' : Below w.heap.size w wx := hx
      have l0 := strL (HB.out.next hx')
      exact Reg.obl_free rfl (Reg.wp_eqv (Option.some_ne_none _) (by go_simp) rfl)
    · intro ax wx hx hs
      obtain ⟨e0, -⟩ := hs
      have g0 := Reg.ev (v := .pointer (some ⟨lb, 0, none⟩)) e0
      exact Reg.obl_free rfl (Reg.wp_eqv (Option.some_ne_none _) (by go_simp) rfl)
    · intro ax wx hx hs
      obtain ⟨e9, -⟩ := hs
      have g9 := Reg.ev (v := .pointer (some ⟨lb, 0, none⟩)) e9
      refine Reg.obl_free rfl ?_
      have hx' : Below w.heap.size w wx := hx
      go_simp
      refine (size_any wx (H.out.next hx') HS.out).mono ?_
      rintro e wy ⟨rfl, hby⟩
      exact Reg.done (Option.some_ne_none _) rfl hby
    · intro ax wx hx hs
      obtain ⟨e8, e10, -⟩ := hs
      have g8 := Reg.ev (v := .int .i64 lim) e8
      have g10 := Reg.ev (v := .int .i64 (X.log.length : Nat)) e10
      refine Reg.obl_free rfl ?_
      exact Reg.wp_eqv (Option.some_ne_none _) (by go_simp; exact IntWalk.i64_in _ (by omega)) rfl
    · intro ax wx hx hs
      obtain ⟨e0, -⟩ := hs
      have g0 := Reg.ev (v := .pointer (some ⟨lb, 0, none⟩)) e0
      exact Reg.obl_free rfl (Reg.wp_eqv (Option.some_ne_none _) (by go_simp) rfl)
    · intro ax wx hx hs
      obtain ⟨e12, -⟩ := hs
      have g12 := Reg.ev (v := .pointer (some ⟨lb, 0, none⟩)) e12
      exact Reg.obl_free rfl (Reg.wp_eqv (Option.some_ne_none _) (by go_simp) rfl)
    · intro ax wx hx hs
      obtain ⟨e13, -⟩ := hs
      have g13 := Reg.ev (v := .pointer (some ⟨lb, 0, none⟩)) e13
      exact Reg.obl_free rfl (Reg.wp_eqv (Option.some_ne_none _) (by go_simp) rfl)
    · intro ax wx hx hs
      obtain ⟨e14, -⟩ := hs
      have g14 := Reg.ev (v := .pointer (some ⟨lb, 2, none⟩)) e14
      have hx' : Below w.heap.size w wx := hx
      have l0 := strL (HB.out.next hx')
      exact Reg.obl_free rfl (Reg.wp_eqv (Option.some_ne_none _) (by go_simp) rfl)
    · intro ax wx hx hs
      obtain ⟨e11, e15, -⟩ := hs
      have g11 := Reg.ev (v := .int .i64 (lim - (X.log.length : Nat))) e11
      have g15 := Reg.ev (v := .int .i64 kept) e15
      refine Reg.obl_free rfl ?_
      exact Reg.wp_eqv (Option.some_ne_none _) (by go_simp; exact IntWalk.i64_in _ (by omega)) rfl
    · intro ax wx hx hs
      obtain ⟨e16, -⟩ := hs
      have g16 := Reg.ev (v := .int .i64 (lim - (X.log.length : Nat) - kept)) e16
      exact Reg.obl_free rfl (Reg.wp_eqv (Option.some_ne_none _) (by go_simp) rfl)
  · intro W1 hwf
    simp only [Reg.Fin]
    rintro _ rfl _ rfl _ rfl _ rfl _ rfl _ rfl _ rfl _ rfl _ rfl _ rfl _ rfl _ rfl _ rfl
    go_simp
    have hwf' : Below w.heap.size w W1 := hwf
    have HF := Lib.hid hwf'
    clear hwf hwf' g0 hl0
    go_wp2
    go_ret
    exact ⟨rfl, HF.out⟩
end
end Go.Proofs.YtpdfnlhhnodnjaaGreat.WalW
end
section
namespace Go.Proofs.YtpdfnlhhnodnjaaGreat.WalW
open Go.RowKit Go.Maps RecW
set_option linter.unusedVariables false
set_option linter.unusedSimpArgs false
attribute [local go_sem ↓] app_fold
/-- all of a log lies at or above -/
structure Hi (B0 lb mb : Nat) (A : Option Addr) (bs : List Nat) : Prop where
  l : B0 ≤ lb
  m : B0 ≤ mb
  a : ∀ a, A = some a → B0 ≤ a.block
  b : ∀ b ∈ bs, B0 ≤ b
/-- what is none of the log's stays so, and as it was -/
def Offs (w w' : World) (lb mb : Nat) (A : Option Addr) (bs : List Nat) (A' : Option Addr) (bs' : List Nat) : Prop := ∀ g, g < w.heap.size → g ≠ lb → g ≠ mb → (∀ a, A = some a → a.block ≠ g) → g ∉ bs → w'.heap[g]? = w.heap[g]? ∧ (∀ a, A' = some a → a.block ≠ g) ∧ g ∉ bs'
section
variable {lb d mb nm n c : Nat} {A : Option Addr} {bs : List Nat} {X : DevX} {L : MapP.T Int (Array Value)} {lim kept forced : Int} {ps : List Int}
/-- a place more -/
theorem LogIn.push {w w4 : World} {A' : Option Addr} {n' c' : Nat} {ps' : List Int} (h : LogIn w lb d mb nm A n c bs X L lim kept forced ps) (hg : w.grownBy w4 ((Value.slice A 0 0).ownBlock)) (hr : OwnE IntE 3 w4 0 A' n' c' ps') (hA : A' = A ∨ ∃ a, A' = some a ∧ a.block = w.heap.size) :
    LogIn (w4.setCell ⟨lb, 5, none⟩ (.slice A' n' c')) lb d mb nm A' n' c' bs X L lim kept forced ps' := by
  have hl := h.box.lt
  have hm := h.map.lt
  have hd := h.dev.lt
  have ob : ∀ k, (Value.slice A 0 0).ownBlock = some k → k ≠ lb ∧ k ≠ mb ∧ k ∉ bs := by
    intro k e
    cases A with
    | none => cases e
    | some a => cases e; exact h.n4 a rfl
  have hne : ∀ a, A' = some a → a.block ≠ lb ∧ a.block ≠ mb ∧ a.block ∉ bs := by
    intro a e
    rcases hA with e1 | ⟨a2, e1, e2⟩
    · exact h.n4 a (by rw [← e1]; exact e)
    · rw [e1] at e
      cases e
      exact ⟨by omega, by omega, fun hb => by have := hd _ hb; omega⟩
  have hb4 : Str w4 lb (logC d mb A n c lim kept forced) := h.box.grownO hg (fun e => (ob _ e).1 rfl)
  have hs : w4.grownBy (w4.setCell ⟨lb, 5, none⟩ (.slice A' n' c')) (some lb) := grown_set (grown_refl w4 _) 5 _
  refine ⟨by simpa [logC] using hb4.set 5 (.slice A' n' c'), ?_, ?_, ?_, h.n1, h.n2, h.n3, hne⟩
  · exact (h.dev.at_ (fun b hb => hg.block b (hd b hb) (fun e => (ob _ e.symm).2.2 hb))).grown hs h.n2
  · exact (h.map.at_ (hg.block mb hm (fun e => (ob _ e.symm).2.1 rfl))).at_ (hs.block mb (Nat.lt_of_lt_of_le hm hg.size) (fun e => by injection e with e; exact h.n1 e.symm))
  · exact IntE.at_ hr (fun a e => hs.block _ (IntE.lt hr a e) (fun e2 => by injection e2 with e2; exact (hne a e).1 e2))
set_option maxRecDepth 100000 in
set_option maxHeartbeats 4000000 in
theorem add_any (B0 : Nat) (kd tx pv nx : Int) (R1 : Option Addr) (r1 s1 : Nat) (pact : Int) (puk : ByteArray) (pst : Int) (pk : ByteArray) (pkd : Int) (R2 : Option Addr) (r2 s2 : Nat) (plo phi pva pun : Int) (place : Int) (w : World) (h : LogIn w lb d mb nm A n c bs X L lim kept forced ps) (hH : Hi B0 lb mb A bs) (hB : B0 ≤ w.heap.size) (hp : In64 place) (hnm : nm < maxLen) (hn : n ≤ 1000000) :
    Calls Tryz.prog 18 #[.pointer (some ⟨lb, 0, none⟩), .int .i64 place, .agg #[.int .i64 kd, .int .i64 tx, .int .i64 pv, .int .i64 nx, .slice R1 r1 s1, .int .i64 pact, .string puk, .int .i64 pst, .string pk, .int .i64 pkd, .slice R2 r2 s2, .int .i64 plo, .int .i64 phi, .int .i64 pva, .int .i64 pun]] w fun e w' => e = .returned (.tuple #[]) ∧ Below B0 w w' ∧ ∃ A' c', LogIn w' lb d mb (nm + 1) A' (n + 1) c' bs X (MapP.put (MapP.ltK intK) L place #[.int .i64 kd, .int .i64 tx, .int .i64 pv, .int .i64 nx, .slice R1 r1 s1, .int .i64 pact, .string puk, .int .i64 pst, .string pk, .int .i64 pkd, .slice R2 r2 s2, .int .i64 plo, .int .i64 phi, .int .i64 pva, .int .i64 pun]) lim kept forced (ps ++ [place]) ∧ Hi B0 lb mb A' bs ∧ Offs w w' lb mb A bs A' bs := by
  have H := Lib.hid h
  have HH := Lib.hid hH
  have HP := Lib.hid hp
  have hl := h.box.lt
  have hBl := hH.l
  have hBm := hH.m
  have hcap := h.row.elems.cap
  have hcm := hcap.2
  unfold maxLen at hcm
  clear h hH hp
  obtain ⟨W0, hW0⟩ : ∃ W, w.alloc (.cells #[.int .i64 kd, .int .i64 tx, .int .i64 pv, .int .i64 nx, .slice R1 r1 s1, .int .i64 pact, .string puk, .int .i64 pst, .string pk, .int .i64 pkd, .slice R2 r2 s2, .int .i64 plo, .int .i64 phi, .int .i64 pva, .int .i64 pun] 40) = W := ⟨_, rfl⟩
  obtain ⟨HS0, HB0, hw0, hz0⟩ := new1 hW0
  have H0 := Lib.hid (H.out.next HB0.out)
  have HX0 : Hid (Str W0 lb #[.pointer (some ⟨d, 0, none⟩), .int .i64 lim, .int .i64 kept, .int .i64 forced, .map (some mb), .slice A n c]) := Lib.hid H0.out.box
  have HC0 := Lib.hid (HB0.out.mono hB)
  have g0 := str15 HS0.out
  have hl0 := HS0.out.lt
  have gx := strL HX0.out
  have hlx := HX0.out.lt
  clear hz0
  go_enter Tryz.func18, Tryz.ntmps18
  go_wp2_with fail
  refine Reg.wp_region_tail (R := ext) (W := W0) [Reg.eqv (.pointer (some ⟨lb, 0, none⟩)), Reg.eqv (.pointer (some ⟨lb, 0, none⟩)), Reg.eqv (.pointer (some ⟨lb, 4, none⟩)), Reg.eqv (.map (some mb)), Reg.eqv (.int .i64 place), Reg.eqv (.agg #[.int .i64 kd, .int .i64 tx, .int .i64 pv, .int .i64 nx, .slice R1 r1 s1, .int .i64 pact, .string puk, .int .i64 pst, .string pk, .int .i64 pkd, .slice R2 r2 s2, .int .i64 plo, .int .i64 phi, .int .i64 pva, .int .i64 pun])] 22 6 _ [[(0, none)], [(6, some 0)], [(7, some 1)], [(8, some 2)], [(1, none)], [(5, none)]] rfl (by kernel_rfl) (by kernel_rfl) (by rfl) (by rfl) rfl (by kernel_rfl) ?_ [some 6, some 7, some 8, some 9, some 10, some 11] (by kernel_rfl) ?_
  · refine ⟨?_, ?_, ?_, ?_, ?_, ?_, trivial⟩
    · intro ax wx hx hs
      obtain ⟨e0, -⟩ := hs
      have g0 := Reg.ev (v := .pointer (some ⟨lb, 0, none⟩)) e0
      exact Reg.obl_free rfl (Reg.wp_eqv (Option.some_ne_none _) (by go_simp) rfl)
    · intro ax wx hx hs
      obtain ⟨e6, -⟩ := hs
      have g6 := Reg.ev (v := .pointer (some ⟨lb, 0, none⟩)) e6
      exact Reg.obl_free rfl (Reg.wp_eqv (Option.some_ne_none _) (by go_simp) rfl)
    · intro ax wx hx hs
      obtain ⟨e7, -⟩ := hs
      have g7 := Reg.ev (v := .pointer (some ⟨lb, 0, none⟩)) e7
      exact Reg.obl_free rfl (Reg.wp_eqv (Option.some_ne_none _) (by go_simp) rfl)
    · intro ax wx hx hs
      obtain ⟨e8, -⟩ := hs
      have g8 := Reg.ev (v := .pointer (some ⟨lb, 4, none⟩)) e8
      have l0 := strL (HX0.out.next hx)
      have l1 := str15 (HS0.out.next hx)
      exact Reg.obl_free rfl (Reg.wp_eqv (Option.some_ne_none _) (by go_simp) rfl)
    · intro ax wx hx hs
      obtain ⟨e1, -⟩ := hs
      have g1 := Reg.ev (v := .int .i64 place) e1
      exact Reg.obl_free rfl (Reg.wp_eqv (Option.some_ne_none _) (by go_simp) rfl)
    · intro ax wx hx hs
      obtain ⟨e5, -⟩ := hs
      have g5 := Reg.ev (v := .pointer (some ⟨w.heap.size, 0, none⟩)) e5
      have l0 := strL (HX0.out.next hx)
      have l1 := str15 (HS0.out.next hx)
      exact Reg.obl_free rfl (Reg.wp_eqv (Option.some_ne_none _) (by go_simp) rfl)
  · intro W1 hwf
    simp only [Reg.Fin]
    rintro _ rfl _ rfl _ rfl _ rfl _ rfl _ rfl
    have hwf' : Below W0.heap.size W0 W1 := hwf
    have hw1 := hwf'.size
    have hB0 : B0 ≤ W0.heap.size := by omega
    have H1 := Lib.hid (H0.out.next hwf')
    obtain ⟨W2, hrun, hm2, ht2⟩ := H1.out.map.store DevW.law Tryz.underlying59 hnm (DevW.keyOf_ HP.out) #[.int .i64 kd, .int .i64 tx, .int .i64 pv, .int .i64 nx, .slice R1 r1 s1, .int .i64 pact, .string puk, .int .i64 pst, .string pk, .int .i64 pkd, .slice R2 r2 s2, .int .i64 plo, .int .i64 phi, .int .i64 pva, .int .i64 pun]
    have hrun2 : (Instr.mapUpdate 59 (.map (some mb)) (.int .i64 place) (.agg #[.int .i64 kd, .int .i64 tx, .int .i64 pv, .int .i64 nx, .slice R1 r1 s1, .int .i64 pact, .string puk, .int .i64 pst, .string pk, .int .i64 pkd, .slice R2 r2 s2, .int .i64 plo, .int .i64 phi, .int .i64 pva, .int .i64 pun])).run Tryz.prog W1 = .ok () W2 := hrun
    have hg2 := MapM.turned_keep ht2
    have H2 := Lib.hid (H1.out.keep hg2 hm2)
    have HC2 := Lib.hid (below_grownO (HC0.out.trans (hwf'.mono hB0)) hg2 (Nat.le_trans hB0 hw1) (fun k e => by cases e; exact hBm))
    have hw2 : B0 ≤ W2.heap.size := Nat.le_trans hB HC2.out.size
    have HFR2 : Hid (∀ g, g < w.heap.size → g ≠ mb → W2.heap[g]? = w.heap[g]?) := Lib.hid (fun g hg g2 => (hg2.block g (by omega) (fun e => by injection e with e; exact g2 e)).trans ((hwf'.block g (by omega)).trans (HB0.out.block g hg)))
    have hww2 : w.heap.size ≤ W2.heap.size := by have := hg2.size; omega
    clear hwf hwf' hrun hm2 ht2 hg2 g0 hl0 gx hlx
    refine Reg.Goal.mk ?_
    go_simp
    clear hrun2
    have HX2 : Hid (Str W2 lb #[.pointer (some ⟨d, 0, none⟩), .int .i64 lim, .int .i64 kept, .int .i64 forced, .map (some mb), .slice A n c]) := Lib.hid H2.out.box
    have gx := strL HX2.out
    have hlx := HX2.out.lt
    obtain ⟨W3, hW3⟩ : ∃ W, W2.alloc (.cells #[.int .i64 place] 3) = W := ⟨_, rfl⟩
    have hb3 : Below W2.heap.size W2 W3 := by rw [← hW3]; exact balloc (bsame _) _
    have hs3 : Str W3 W2.heap.size #[.int .i64 place] := by rw [← hW3]; exact Str.new W2 _ _
    have H3 := Lib.hid (H2.out.next hb3)
    have hw3 := hb3.size
    have HC3 := Lib.hid (HC2.out.trans (hb3.mono hw2)) 
    obtain ⟨i0, hi0, iz0, iz1, iz2⟩ := info_parts infoI
    obtain ⟨A', c', W4, k1, k2, k3, k4, k5⟩ := H3.out.row.app (P := Tryz.prog) 46 46 i0 _ 8 Tryz.underlying46 hi0 iz0 iz1 iz2 rfl (IntE.lit hs3) (by unfold maxLen; omega) (by omega) (Nat.zero_le _)
    have HX4 : Hid (Str W4 lb #[.pointer (some ⟨d, 0, none⟩), .int .i64 lim, .int .i64 kept, .int .i64 forced, .map (some mb), .slice A n c]) := Lib.hid (H3.out.box.grownO k4 (fun e => by cases A with | none => cases e | some a => cases e; exact (H3.out.n4 a rfl).1 rfl))
    have gy := strL HX4.out
    have hly := HX4.out.lt
    have gfy := fun j => HX4.out.frozen j
    have HL := Lib.hid (H3.out.push k4 k2 k5)
    have hg5 : W4.grownBy (W4.setCell ⟨lb, 5, none⟩ (.slice A' (n + 1) c')) (some lb) := grown_set (grown_refl W4 _) 5 _
    have hw4 := k4.size
    have hi' : Hi B0 lb mb A' bs := ⟨hBl, hBm, fun a e => by rcases k5 with e1 | ⟨a2, e1, e2⟩; exact HH.out.a a (by rw [← e1]; exact e); (rw [e1] at e; cases e; omega), HH.out.b⟩
    have HF : Hid (Below B0 w (W4.setCell ⟨lb, 5, none⟩ (.slice A' (n + 1) c'))) := Lib.hid (below_grownO (below_grownO HC3.out k4 (Nat.le_trans hw2 hw3) (fun k e => by cases A with | none => cases e | some a => cases e; exact HH.out.a a rfl)) hg5 (Nat.le_trans (Nat.le_trans hw2 hw3) hw4) (fun k e => by cases e; exact hBl))
    have HHi := Lib.hid hi'
    have HOF : Hid (Offs w (W4.setCell ⟨lb, 5, none⟩ (.slice A' (n + 1) c')) lb mb A bs A' bs) := Lib.hid (fun g hg g1 g2 g3 g4 => ⟨(hg5.block g (by omega) (fun e => by injection e with e; exact g1 e)).trans ((k4.block g (by omega) (fun e => by cases A with | none => cases e | some a => cases e; exact g3 a rfl rfl)).trans ((hb3.block g (by omega)).trans (HFR2.out g hg g2))), fun a e => by rcases k5 with e1 | ⟨a2, e1, e2⟩; exact g3 a (by rw [← e1]; exact e); (rw [e1] at e; cases e; omega), g4⟩)
    clear k2 k3 k4 k5 hg5 hi'
    go_wp2_with fail
    go_end0
    exact ⟨rfl, HF.out, A', c', HL.out, HHi.out, HOF.out⟩
end
end Go.Proofs.YtpdfnlhhnodnjaaGreat.WalW
end
section
namespace Go.Proofs.YtpdfnlhhnodnjaaGreat.CloneW
open Go.RowKit
theorem eql_nil (w : World) (a : Option Addr) (l c : Nat) : (binOp .eql 32 (.slice a l c) (.slice none 0 0)).run Tryz.prog w = .ok (.bool a.isNone) w := Lib.run_eql_slice_nil w _ _ a l c 0 0 Tryz.underlying32
/-- the call hands back bytes of its own -/
def GivesOwn (w : World) (l : List UInt8) (e : Ending) (w' : World) : Prop := ∃ A n c gb, e = .returned (.slice A n c) ∧ OwnS w' gb A n c l ∧ (∀ g, gb = some g → w.heap.size ≤ g) ∧ Below w.heap.size w w'
section
attribute [local go_sem ↓] app_fold
set_option maxRecDepth 100000 in
set_option maxHeartbeats 400000 in
theorem clone_own (A : Option Addr) (n c B : Nat) (l : List UInt8) (w : World) (h : Bytes w B A n c l) (hB : B ≤ w.heap.size) (hn : n ≤ 140737488355328) :
    Calls Tryz.prog 35 #[.slice A n c] w (GivesOwn w l) := by
  cases A with
  | none =>
    have h0 : n = 0 := by
      rcases Nat.eq_zero_or_pos n with h0 | h0
      · exact h0
      · obtain ⟨b, o, e, -⟩ := h.2.2.2 h0
        cases e
    have hl : l = [] := List.eq_nil_of_length_eq_zero (by rw [h.1, h0])
    subst hl
    subst h0
    clear h
    have heq := eql_nil w none 0 c
    go_enter Tryz.func35, Tryz.ntmps35
    go_wp2
    go_ret
    exact ⟨none, 0, 0, none, rfl, OwnS.none_ _, by simp, bsame w⟩
  | some a =>
    have hb1 : Below w.heap.size w (w.alloc (.cells #[] 5)) := balloc (bsame w) _
    have hO1 : OwnS (w.alloc (.cells #[] 5)) none (some ⟨w.heap.size, 0, none⟩) 0 0 [] := ⟨rfl, Nat.le_refl _, by unfold maxLen; omega, .inl ⟨rfl, rfl⟩⟩
    obtain ⟨A3, c3, w3, gb3, happ3, hO3, hg3, hgb⟩ := hO1.app (P := Tryz.prog) 32 32 5 Tryz.underlying32 Be.infoU8 (h.alloc hB (.cells #[] 5)) (by omega)
    simp only [Nat.zero_add, List.nil_append] at happ3 hO3
    have HB : Hid (Below w.heap.size w w3) := Lib.hid (hb1.trans (⟨hg3.os, hg3.tape, hg3.output, hg3.size, fun k hk => hg3.block k (by have := hb1.size; omega) (by simp)⟩ : Below w.heap.size _ _))
    have HO := Lib.hid hO3
    have HG : Hid (∀ g, gb3 = some g → w.heap.size ≤ g) := Lib.hid (fun g e => by
      rcases hgb with e1 | e1
      · rw [e1] at e; cases e
      · rw [e1] at e; cases e; exact hb1.size)
    clear h hO3 hb1 hO1 hg3 hgb
    have heq := eql_nil w (some a) n c
    go_enter Tryz.func35, Tryz.ntmps35
    go_wp2
    go_ret
    exact ⟨A3, n, c3, gb3, rfl, HO.out, HG.out, HB.out⟩
end
end Go.Proofs.YtpdfnlhhnodnjaaGreat.CloneW
end
section
namespace Go.Proofs.YtpdfnlhhnodnjaaGreat.DevW
open Go.RowKit Go.Maps
set_option linter.unusedVariables false
set_option linter.unusedSimpArgs false
variable {d sb mb : Nat} {bp bs : List Nat} {gb : Option Nat} {A : Option Addr} {n c nm : Nat} {es : List (Int × SlV)} {X : DevX}
attribute [local go_sem ↓] cut_fold alJob_fold bdJob_fold stJob_fold
set_option maxRecDepth 100000 in
set_option maxHeartbeats 1000000 in
theorem Log_any (w : World) (hD : Dev w d bs X) (hs : DevP.Small X) : Calls Tryz.prog 17 #[.pointer (some ⟨d, 0, none⟩)] w (CloneW.GivesOwn w X.log) := by
  obtain ⟨sb, mb, bp, gb, A, n, c, nm, es, hI, hbs⟩ := hD
  have f1 := str10 hI.box
  have hl := hI.box.lt
  have hn := hI.log.len
  have hs2 := hs.2.1
  have hh := hI.ok.h0
  have HY := Lib.hid hI.log.bytes
  have hn3 : n ≤ 140737488355328 := by omega
  clear hI hs hn hs2
  go_enter Tryz.func17, Tryz.ntmps17
  go_wp2_with fail
  refine (CloneW.clone_own A n c w.heap.size X.log w HY.out (Nat.le_refl _) hn3).mono ?_
  rintro e W4 ⟨A5, n5, c5, gb5, rfl, h⟩
  have H := Lib.hid h
  clear h
  go_wp2
  go_ret
  exact ⟨A5, n5, c5, gb5, rfl, H.out⟩
end Go.Proofs.YtpdfnlhhnodnjaaGreat.DevW
end
section
namespace Go.Proofs.YtpdfnlhhnodnjaaGreat.DevW
open Go.RowKit Go.Maps
set_option linter.unusedVariables false
set_option linter.unusedSimpArgs false
variable {d sb mb : Nat} {bp bs : List Nat} {gb : Option Nat} {A : Option Addr} {n c nm : Nat} {es : List (Int × SlV)} {X : DevX}
attribute [local go_sem ↓] ldPage_fold stPage_fold bdPage_fold alPage_fold alJob_fold bdJob_fold stJob_fold
theorem Ent.look {w : World} {k : Nat} {s : SlV} {N : Nat} {now : List (List UInt8)} {ops : Nat} (h : Ent w N now ops ((k : Int), s)) : ∃ ps q, s.A = some ⟨blk s, 0, none⟩ ∧ Pgs 75 w (blk s) s.n s.c ps ∧ 1 ≤ s.n ∧ ps[s.n - 1]? = some q ∧ now[k]? = some q := by
  obtain ⟨ps, h1, h2, h3, h4⟩ := h.pg
  have hl := h2.len
  have hp : 0 < ps.length := List.length_pos_iff.2 h3
  dsimp only at h1 h2 h4 hl
  obtain ⟨q, hq⟩ : ∃ q, ps.getLast? = some q := ⟨_, List.getLast?_eq_some_getLast h3⟩
  refine ⟨ps, q, h1, h2, by omega, ?_, ?_⟩
  · rw [← hl, ← List.getLast?_eq_getElem?]
    exact hq
  · rw [← hq, h4]
    simp
end Go.Proofs.YtpdfnlhhnodnjaaGreat.DevW
end
section
namespace Go.Proofs.YtpdfnlhhnodnjaaGreat.DevW
open Go.RowKit Go.Maps
set_option linter.unusedVariables false
set_option linter.unusedSimpArgs false
variable {d sb mb : Nat} {bp bs : List Nat} {gb : Option Nat} {A : Option Addr} {n c nm : Nat} {es : List (Int × SlV)} {X : DevX}
attribute [local go_sem ↓] ldPage_fold stPage_fold bdPage_fold alPage_fold alJob_fold bdJob_fold stJob_fold
end Go.Proofs.YtpdfnlhhnodnjaaGreat.DevW
end
section
namespace Go.Proofs.YtpdfnlhhnodnjaaGreat.DevW
open Go.RowKit Go.Maps
set_option linter.unusedVariables false
set_option linter.unusedSimpArgs false
/-- how many pages a device has -/
def _root_.Go.Proofs.YtpdfnlhhnodnjaaGreat.DevP.many (n : Int) : Nat := (min (max n 1) 1024).toNat
/-- the call hands back a new device -/
def GivesDev (w : World) (X : DevX) (e : Ending) (w' : World) : Prop := ∃ d bs, e = .returned (.pointer (some ⟨d, 0, none⟩)) ∧ Dev w' d bs X ∧ (∀ b ∈ bs, w.heap.size ≤ b) ∧ Below w.heap.size w w'
theorem new_in (N : Nat) (h1 : 1 ≤ N) (h2 : N ≤ 1024) (w w1 : World) (hz : w1.heap.size = w.heap.size + 1) (hb : Below w.heap.size w w1) (hO : OwnE PageE 75 w1 w.heap.size (some ⟨w.heap.size, 0, none⟩) N N (List.replicate N (SlotP.zeros 512))) (T : TypeId) :
    GivesDev w (DevP.new N) (.returned (.pointer (some ⟨w1.heap.size + 1, 0, none⟩))) ((w1.alloc (.map #[] 0)).alloc (.cells (devC N w.heap.size w1.heap.size none 0 0 (DevP.new N)) T)) := by
  have hm := MapM.made (P := Tryz.prog) (S := intK) (E := slE) (kt := 3) w1
  have hb1 : Below w1.heap.size w1 (w1.alloc (.map #[] 0)) := balloc (bsame w1) _
  have hs1 : (w1.alloc (.map #[] 0)).heap.size = w1.heap.size + 1 := by simp
  have hb2 : Below (w1.alloc (.map #[] 0)).heap.size (w1.alloc (.map #[] 0)) ((w1.alloc (.map #[] 0)).alloc (.cells (devC N w.heap.size w1.heap.size none 0 0 (DevP.new N)) T)) := balloc (bsame _) _
  have hlen : (List.replicate N (SlotP.zeros 512)).length = N := List.length_replicate
  have hrow : Pgs 75 w1 w.heap.size N N (List.replicate N (SlotP.zeros 512)) := hO.less (Nat.zero_le _)
  refine ⟨w1.heap.size + 1, [w1.heap.size + 1, w.heap.size, w1.heap.size], rfl, ⟨w.heap.size, w1.heap.size, [w.heap.size, w1.heap.size], none, none, 0, 0, 0, [], ⟨?_, ⟨?_, hm.at_ (hb2.block _ (by omega)), fun p hp => absurd hp List.not_mem_nil, fun k hk h => rfl, rfl, by simp; omega, Nat.zero_le _⟩, OwnS.none_ _, by simp; omega, DevP.ok_new h1 h2⟩, rfl⟩, ?_, (hb.trans (hb1.mono (by omega))).trans (hb2.mono (by omega))⟩
  · have := Str.new (w1.alloc (.map #[] 0)) (devC N w.heap.size w1.heap.size none 0 0 (DevP.new N)) T
    rw [hs1] at this
    show Str _ _ (devC (List.replicate N (SlotP.zeros 512)).length _ _ _ _ _ _)
    rw [hlen]
    exact this
  · show Pgs _ _ _ (List.replicate N (SlotP.zeros 512)).length (List.replicate N (SlotP.zeros 512)).length _
    rw [hlen]
    exact hrow.at_ ((hb2.block _ (by omega)).trans (hb1.block _ (by omega)))
  · intro b hb
    simp only [List.mem_cons, List.not_mem_nil, or_false] at hb
    omega
theorem make_pages (N : Nat) (h2 : N ≤ 1024) (w : World) : ∃ w1, (Instr.makeSlice 55 (.int .i64 (N : Int)) (.int .i64 (N : Int))).run Tryz.prog w = .ok (.slice (some ⟨w.heap.size, 0, none⟩) N N) w1 ∧ OwnE PageE 75 w1 w.heap.size (some ⟨w.heap.size, 0, none⟩) N N (List.replicate N (SlotP.zeros 512)) ∧ Below w.heap.size w w1 ∧ w1.heap.size = w.heap.size + 1 := by
  obtain ⟨i0, hi0, iz0, iz1, iz2⟩ := info_parts infoP
  exact own_made (E := PageE) (P := Tryz.prog) 55 i0 _ ((SlotP.zeros 512).map byteV) (SlotP.zeros 512) Tryz.underlying55 hi0 iz0 iz1 (by rw [← rowV_zeros]; rfl) (fun _ _ => ⟨rfl, List.length_replicate⟩) N (by rw [iz2]; omega) (by omega) w
set_option maxRecDepth 100000 in
set_option maxHeartbeats 1000000 in
theorem new_low (n : Int) (hn : n < 1) (w : World) : Calls Tryz.prog 5 #[.int .i64 n] w (GivesDev w (DevP.new 1)) := by
  obtain ⟨w1, hr, hO, hb, hz⟩ := make_pages 1 (by omega) w
  have hmm := @run_makeMap Tryz.prog
  have HF := Lib.hid (new_in 1 (by omega) (by omega) w w1 hz hb hO 58)
  clear hO hb hz
  simp only [Int.natCast_one] at hr
  go_enter Tryz.func5, Tryz.ntmps5
  go_wp2
  go_ret
  exact HF.out
set_option maxRecDepth 100000 in
set_option maxHeartbeats 1000000 in
theorem new_high (n : Int) (hn : 1024 < n) (w : World) : Calls Tryz.prog 5 #[.int .i64 n] w (GivesDev w (DevP.new 1024)) := by
  obtain ⟨w1, hr, hO, hb, hz⟩ := make_pages 1024 (by omega) w
  have hmm := @run_makeMap Tryz.prog
  have HF := Lib.hid (new_in 1024 (by omega) (by omega) w w1 hz hb hO 58)
  clear hO hb hz
  have hr2 : (Instr.makeSlice 55 (.int .i64 1024) (.int .i64 1024)).run Tryz.prog w = .ok (.slice (some ⟨w.heap.size, 0, none⟩) 1024 1024) w1 := hr
  clear hr
  go_enter Tryz.func5, Tryz.ntmps5
  go_wp2
  go_ret
  exact HF.out
set_option maxRecDepth 100000 in
set_option maxHeartbeats 1000000 in
theorem new_mid (n : Int) (N : Nat) (hn : n = (N : Int)) (h1 : 1 ≤ N) (h2 : N ≤ 1024) (w : World) : Calls Tryz.prog 5 #[.int .i64 n] w (GivesDev w (DevP.new N)) := by
  obtain ⟨w1, hr, hO, hb, hz⟩ := make_pages N (by omega) w
  have hmm := @run_makeMap Tryz.prog
  have HF := Lib.hid (new_in N (by omega) (by omega) w w1 hz hb hO 58)
  clear hO hb hz
  subst hn
  go_enter Tryz.func5, Tryz.ntmps5
  go_wp2
  go_ret
  exact HF.out
theorem new_any (n : Int) (w : World) : Calls Tryz.prog 5 #[.int .i64 n] w (GivesDev w (DevP.new (DevP.many n))) := by
  unfold DevP.many
  by_cases h1 : n < 1
  · rw [show (min (max n 1) 1024).toNat = 1 by omega]
    exact new_low n h1 w
  · by_cases h2 : 1024 < n
    · rw [show (min (max n 1) 1024).toNat = 1024 by omega]
      exact new_high n h2 w
    · exact new_mid n _ (by omega) (by omega) (by omega) w
section
attribute [local go_sem ↓] ldPage_fold stPage_fold bdPage_fold alPage_fold
end
end Go.Proofs.YtpdfnlhhnodnjaaGreat.DevW
end
section
namespace Go.Proofs.YtpdfnlhhnodnjaaGreat.WalW
open Go.RowKit Go.Maps RecW
set_option linter.unusedVariables false
set_option linter.unusedSimpArgs false
theorem LogIn.other {w w' : World} {lb d mb nm n c g : Nat} {A : Option Addr} {bs : List Nat} {X : DevX} {L : MapP.T Int (Array Value)} {lim kept forced : Int} {ps : List Int} (h : LogIn w lb d mb nm A n c bs X L lim kept forced ps) (hg : w.grownBy w' (some g)) (h1 : g ≠ lb) (h2 : g ≠ mb) (h3 : g ∉ bs) (h4 : ∀ a, A = some a → a.block ≠ g) : LogIn w' lb d mb nm A n c bs X L lim kept forced ps :=
  ⟨h.box.grown hg (fun e => h1 e.symm), h.dev.grown hg h3, h.map.at_ (hg.block _ h.map.lt (fun e => by injection e with e; exact h2 e.symm)), IntE.at_ h.row (fun a e => hg.block _ (IntE.lt h.row a e) (fun e2 => by injection e2 with e2; exact h4 a e e2)), h.n1, h.n2, h.n3, h.n4⟩
attribute [local go_sem] Oper.semAt_some
end Go.Proofs.YtpdfnlhhnodnjaaGreat.WalW
end
section
namespace Go.Proofs.YtpdfnlhhnodnjaaGreat
open Go.RowKit
set_option linter.unusedVariables false
/-- an element that lies in none of these blocks -/
def HidE {α : Type} (E : El α) (hs : List Nat) : El α where
  size := E.size
  pos := E.pos
  rel w B vs x := E.rel (hideL w hs) B vs x
  len h := E.len h
  one h := E.one h
  sub h1 h := E.sub (hideL_mono hs h1) h
  more hB h := E.more hB h
section
variable {α : Type} {E : El α} {hs : List Nat} {T : TypeId} {w w' : World} {B base n c d : Nat} {A : Option Addr} {l : List α}
theorem hid_keep {A : Option Addr} {w w' : World} {p : Addr} {v : Value} (hk : w'.cell? p = w.cell? p) (hv : (hid A w).cell? p = some v) : (hid A w').cell? p = some v := by
  cases A with
  | none => exact hk.trans hv
  | some a =>
    by_cases e : p.block = a.block
    · have : (hide w a.block).cell? p = none := by rw [← e]; exact hide_none w p
      change (hide w a.block).cell? p = _ at hv
      rw [this] at hv; cases hv
    · change (hide w a.block).cell? p = _ at hv
      rw [hide_other w a.block p e] at hv
      show (hide w' a.block).cell? p = _
      rw [hide_other w' a.block p e]
      exact hk.trans hv
/-- one of these blocks turns -/
theorem OwnE.keepHid (h : OwnE (HidE E hs) T w base A n c l) (hg : w.grownBy w' (some d)) (hd : d ∈ hs) (hA : ∀ a, A = some a → a.block ≠ d) : OwnE (HidE E hs) T w' base A n c l := by
  obtain ⟨vs, h1, h2⟩ := h
  refine ⟨vs, own_grown h1 hg hA, h2.imp fun v x hr => E.more hg.size (E.sub (fun p u hp hv => ?_) hr)⟩
  by_cases hm : p.block ∈ hs
  · rw [hideL_in _ p hs hm] at hv; cases hv
  · rw [hideL_out _ p hs hm] at hv ⊢
    exact hid_keep (World.cell?_of_block (hg.block p.block hp (by intro e; injection e with e; subst e; exact hm hd))) hv
/-- a row that is none of these blocks, read without them -/
theorem OwnE.elemsHid (h : OwnE (HidE E hs) T w base A n c l) (hA : ∀ a, A = some a → a.block ∉ hs) : Elems E (hideL w hs) w.heap.size A n c l := by
  obtain ⟨vs, hr, h3, h4, h5, h6⟩ := h.elems
  refine ⟨vs, hr, h3, h4, h5, fun hn => ?_⟩
  obtain ⟨b, o, e, hb, hc⟩ := h6 hn
  exact ⟨b, o, e, hb, fun j v hv => by rw [hideL_out w _ hs (by have := hA _ e; exact this)]; exact hc j v hv⟩
/-- an element read without them, as one of a row -/
theorem Elems.inHid {wr : World} (h : Elems E wr B A n c l) (h1 : Sub B wr (hideL w hs)) : Elems (HidE E hs) w B A n c l := by
  have h2 : ElemsIn E (hideL w hs) w B A n c l := h.keep h1 (h1.trans (sub_hideL _ _ _))
  exact h2
/-- in whatever order -/
theorem sub_hideL_cons (B : Nat) (w : World) (g : Nat) (hs : List Nat) : Sub B (hideL (hide w g) hs) (hideL w (g :: hs)) := fun p v hp hv => by
  by_cases hm : p.block ∈ hs
  · rw [hideL_in _ p hs hm] at hv; cases hv
  · rw [hideL_out _ p hs hm] at hv
    by_cases e : p.block = g
    · subst e; rw [hide_none] at hv; cases hv
    · rw [hideL_out w p (g :: hs) (by simp [e, hm]), ← hide_other w g p e]; exact hv
theorem sub_hideL_snoc (B : Nat) (w : World) (g : Nat) (hs : List Nat) : Sub B (hideL w (g :: hs)) (hideL (hide w g) hs) := fun p v hp hv => by
  by_cases hm : p.block ∈ g :: hs
  · rw [hideL_in _ p _ hm] at hv; cases hv
  · rw [hideL_out _ p _ hm] at hv
    simp only [List.mem_cons, not_or] at hm
    rw [hideL_out _ p hs hm.2, hide_other w g p hm.1]; exact hv
/-- what is new lies in none of what was there -/
theorem above_hideL {N : Nat} (hb : ∀ b ∈ hs, b < N) : Sub B (above N w) (hideL w hs) := fun p v hp hv => by
  by_cases h : p.block < N
  · rw [above_in N w p h] at hv; cases hv
  · rw [above_out N w p (by omega)] at hv
    rw [hideL_out w p hs (fun hm => by have := hb _ hm; omega)]; exact hv
end
end Go.Proofs.YtpdfnlhhnodnjaaGreat
end
