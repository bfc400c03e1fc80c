/-
  Parts of the proof of WalStays.
-/
import Derived.Test.YtpdfnlhhnodnjaaGreatWsG16
import Derived.Test.YtpdfnlhhnodnjaaGreatWsG18
import Derived.Test.YtpdfnlhhnodnjaaGreatWsG22
import Derived.Test.YtpdfnlhhnodnjaaGreatWsG13
import Derived.Test.YtpdfnlhhnodnjaaGreatWsG3
import Derived.Test.YtpdfnlhhnodnjaaGreatWsG0
section
namespace Go.Proofs.YtpdfnlhhnodnjaaGreat
open Go.RowKit
set_option linter.unusedVariables false
/-- a patch that lies at or above -/
def PatchF (fl : Nat) : El PatchX where
  size := 3
  pos := by decide
  rel w B vs x := PatchE.rel (above fl w) B vs x
  len h := PatchE.len h
  one h := PatchE.one h
  sub hs h := PatchE.sub (above_sub hs) h
  more hB h := PatchE.more hB h
theorem OwnE.keepLow {T : TypeId} {w w' : World} {fl base n c d : Nat} {A : Option Addr} {l : List PatchX} (h : OwnE (PatchF fl) T w base A n c l) (hg : w.grownBy w' (some d)) (hd : d < fl) (hb : fl ≤ base) : OwnE (PatchF fl) T w' base A n c l := by
  have hge := h.ge
  obtain ⟨vs, h1, h2⟩ := h
  refine ⟨vs, own_grown h1 hg (fun a e => by have := hge a e; omega), h2.imp fun v x hr => PatchE.more hg.size (PatchE.sub (fun p u hp hv => ?_) hr)⟩
  by_cases hb2 : p.block < fl
  · rw [above_in fl _ p hb2] at hv; cases hv
  · rw [above_out fl _ p (by omega)] at hv ⊢
    have hk : w'.cell? p = w.cell? p := World.cell?_of_block (hg.block p.block hp (by intro e; injection e with e; omega))
    cases A with
    | none => exact hk.trans hv
    | some a =>
      by_cases e : p.block = a.block
      · have : (hide w a.block).cell? p = none := by rw [← e]; exact hide_none w p
        change (hide w a.block).cell? p = _ at hv
        rw [this] at hv; cases hv
      · change (hide w a.block).cell? p = _ at hv
        rw [hide_other w a.block p e] at hv
        show (hide w' a.block).cell? p = _
        rw [hide_other w' a.block p e]
        exact hk.trans hv
theorem OwnE.high {T : TypeId} {w : World} {fl base n c : Nat} {A : Option Addr} {l : List PatchX} (h : OwnE (PatchF fl) T w base A n c l) (hb : fl ≤ base) : Elems PatchE (above fl w) w.heap.size A n c l := by
  have hge := h.ge
  obtain ⟨vs, hr, h3, h4, h5, h6⟩ := h.elemsIn
  refine ⟨vs, hr.imp fun v x hq => PatchE.sub (above_sub (sub_hid _ A w)) hq, h3, h4, h5, fun hn => ?_⟩
  obtain ⟨b, o, e, hb2, hc⟩ := h6 hn
  exact ⟨b, o, e, hb2, fun j v hv => by rw [above_out fl w _ (by show fl ≤ b; have := hge _ e; simp at this; omega)]; exact hc j v hv⟩
namespace RecP
theorem num1 (m : Int) (post : List UInt8) (h0 : 0 ≤ m) (h1 : m ≤ 255) : RdP.numV (BeP.parts 1 m ++ post) false 1 = m ∧ RdP.numL (BeP.parts 1 m ++ post) false 1 = post ∧ RdP.numB (BeP.parts 1 m ++ post) false 1 = false := by
  have hv := PatchP.val_parts1 [] post m h0 h1
  have hl := BeP.parts_length 1 m
  refine ⟨hv, ?_, ?_⟩
  · unfold RdP.numL
    rw [if_neg (by decide), if_pos (by simp [hl]), List.drop_left' hl]
  · unfold RdP.numB
    simp [hl]
theorem num8 (m : Int) (post : List UInt8) (h : In64 m) : RdP.numV (BeP.parts 8 m ++ post) false 8 = m ∧ RdP.numL (BeP.parts 8 m ++ post) false 8 = post ∧ RdP.numB (BeP.parts 8 m ++ post) false 8 = false := by
  have hv := NumP.val_parts8 [] post m h
  have hl := BeP.parts_length 8 m
  refine ⟨hv, ?_, ?_⟩
  · unfold RdP.numL
    rw [if_neg (by decide), if_pos (by simp [hl]), List.drop_left' hl]
  · unfold RdP.numB
    simp [hl]
theorem all1 (l : List UInt8) : RdP.th l false l.length = l ∧ RdP.tl l false l.length = [] ∧ RdP.tb l false l.length = false := by
  have h : RdP.tb l false l.length = false := by unfold RdP.tb; simp
  refine ⟨?_, ?_, h⟩
  · unfold RdP.th; rw [h, if_neg (by decide), List.take_length]
  · unfold RdP.tl; rw [if_neg (by decide), if_pos (Nat.le_refl _), List.drop_length]
end RecP
namespace RecW
open UndoW
set_option linter.unusedSimpArgs false
attribute [local go_sem ↓] app_fold cut_fold
theorem infoPt : (Tryz.prog.info? 68).map (fun i => (i.zero, i.size, i.bytes)) = some (some (.agg #[.int .i64 0, .bool false, .slice none 0 0]), 3, 40) := by kernel_rfl
/-- what read's rounds keep -/
structure RK (w wr : World) (d fl : Nat) (cs : Array Value) (Ak : Option Addr) (k ck : Nat) (ls : List PatchX) : Prop where
  res : Str wr w.heap.size #[.int .i64 0, .int .i64 0, .int .i64 0, .int .i64 0, .slice none 0 0, .int .i64 0, .string ⟨#[]⟩, .int .i64 0, .string ⟨#[]⟩, .int .i64 0, .slice none 0 0, .int .i64 0, .int .i64 0, .int .i64 0, .int .i64 0]
  box : Str wr d cs
  own : OwnE (PatchF fl) 68 wr fl Ak k ck ls
  bel : Below w.heap.size w wr
  dlo : w.heap.size < d
  dfl : d < fl
  flw : fl ≤ wr.heap.size
theorem RK.next {w wr wr' : World} {d fl : Nat} {cs : Array Value} {Ak : Option Addr} {k ck : Nat} {ls : List PatchX} (h : RK w wr d fl cs Ak k ck ls) (hb : Below wr.heap.size wr wr') : RK w wr' d fl cs Ak k ck ls :=
  ⟨h.res.next hb, h.box.next hb, h.own.next hb, bstep h.bel hb, h.dlo, h.dfl, Nat.le_trans h.flw hb.size⟩
/-- a patch more behind the others -/
theorem RK.app {w wr : World} {d fl : Nat} {cs : Array Value} {Ak : Option Addr} {k ck : Nat} {ls : List PatchX} (h : RK w wr d fl cs Ak k ck ls) {x : PatchX} {A n c : _} {B0 : Nat} (hi : In64 x.page) (hy : Elems RunE (above B0 wr) wr.heap.size A n c x.runs) (hB0 : ∀ a, Ak = some a → a.block < B0) (hfl : fl ≤ B0) (hk : k ≤ 50) :
    ∃ A' c' w', (appSem #[31, 31] 31 #[.slice Ak k ck, .slice (some ⟨wr.heap.size, 0, none⟩) 1 1]).run Tryz.prog (wr.alloc (.cells #[.int .i64 x.page, .bool x.fresh, .slice A n c] 68)) = .ok (.slice A' (k + 1) c') w' ∧ RK w w' d fl cs A' (k + 1) c' (ls ++ [x]) ∧ Below fl wr w' := by
  obtain ⟨i0, hi0, iz0, iz1, iz2⟩ := info_parts infoPt
  have hbl : Below wr.heap.size wr (wr.alloc (.cells #[.int .i64 x.page, .bool x.fresh, .slice A n c] 68)) := balloc (bsame wr) _
  have hk2 := h.next hbl
  have hrel : (PatchF fl).rel (hid Ak wr) wr.heap.size [.int .i64 x.page, .bool x.fresh, .slice A n c] x := by
    refine ⟨A, n, c, rfl, hy.sub (fun p u hp hv => ?_), hi⟩
    by_cases hb2 : p.block < B0
    · rw [above_in B0 _ p hb2] at hv; cases hv
    · rw [above_out fl _ p (by omega)]
      exact above_hid hB0 p u hp hv
  have hone := ElemsIn.one (E := PatchF fl) (T := 68) (A := Ak) hrel
  obtain ⟨A', c', w', k1, k2, k3, k4, k5⟩ := hk2.own.app (P := Tryz.prog) 31 31 i0 _ 40 Tryz.underlying31 hi0 iz0 iz1 iz2 rfl hone (by unfold maxLen; omega) (by omega) hk2.flw
  have hd := h.dfl
  have hdl := h.dlo
  exact ⟨A', c', w', k1, ⟨hk2.res.below k3 (by omega), hk2.box.below k3 hd, k2, hk2.bel.trans (k3.mono (by omega)), hdl, hd, Nat.le_trans hk2.flw k3.size⟩, (hbl.mono h.flw).trans k3⟩
set_option maxRecDepth 100000 in
set_option maxHeartbeats 8000000 in
theorem read_any (kd tx pv nx : Int) (l : List PatchX) (pact : Int) (puk : ByteArray) (pst : Int) (pk : ByteArray) (pkd : Int) (pda : List UInt8) (plo phi pva pun : Int) (A : Option Addr) (n c B : Nat) (w : World) (hR : RecP.Right ⟨kd, tx, pv, nx, l, ⟨pact, puk, ⟨pst, pk, ⟨pkd, pda, plo, phi, pva⟩⟩, pun⟩⟩) (hun : In64 pun) (hui : SlotP.In ⟨pst, pk, ⟨pkd, pda, plo, phi, pva⟩⟩) (h : Bytes w B A n c (RecP.inner ⟨kd, tx, pv, nx, l, ⟨pact, puk, ⟨pst, pk, ⟨pkd, pda, plo, phi, pva⟩⟩, pun⟩⟩)) (hB : B ≤ w.heap.size) (hn : n ≤ 100000) :
    Calls Tryz.prog 56 #[.slice A n c] w fun e w' => ∃ A2 c2 Ap np cp, e = .returned (.tuple #[.agg #[.int .i64 kd, .int .i64 tx, .int .i64 pv, .int .i64 nx, .slice A2 l.length c2, .int .i64 pact, .string puk, .int .i64 pst, .string pk, .int .i64 pkd, .slice Ap np cp, .int .i64 plo, .int .i64 phi, .int .i64 pva, .int .i64 pun], .bool true]) ∧ Elems PatchE (above w.heap.size w') w'.heap.size A2 l.length c2 l ∧ (Bytes w' w'.heap.size Ap np cp pda ∧ ∀ a, Ap = some a → w.heap.size ≤ a.block) ∧ Below w.heap.size w w' := by
  have H := Lib.hid h
  obtain ⟨⟨⟨a1, a2⟩, ⟨a3, a4⟩, ⟨a5, a6⟩, ⟨a7, a8⟩⟩, a9, hur, hpt, -⟩ := hR
  dsimp only at a1 a2 a3 a4 a5 a6 a7 a8 a9 hur hpt
  obtain ⟨R, hRl⟩ : ∃ R, l.length = R := ⟨_, rfl⟩
  have HPT := Lib.hid hpt
  have HRL := Lib.hid hRl
  have hub := UndoP.get_bytes ⟨pact, puk, ⟨pst, pk, ⟨pkd, pda, plo, phi, pva⟩⟩, pun⟩ hur hun hui
  have HUB := Lib.hid hub
  have hubl := UndoP.bytes_le ⟨pact, puk, ⟨pst, pk, ⟨pkd, pda, plo, phi, pva⟩⟩, pun⟩
  have hinl : RecP.inner ⟨kd, tx, pv, nx, l, ⟨pact, puk, ⟨pst, pk, ⟨pkd, pda, plo, phi, pva⟩⟩, pun⟩⟩ = BeP.parts 1 kd ++ (BeP.parts 8 tx ++ (BeP.parts 8 pv ++ (BeP.parts 8 nx ++ (BeP.parts 1 (R : Int) ++ (RecP.patsB l ++ UndoP.bytes ⟨pact, puk, ⟨pst, pk, ⟨pkd, pda, plo, phi, pva⟩⟩, pun⟩))))) := by unfold RecP.inner; dsimp only; rw [hRl]
  rw [hRl] at a9
  have hilen := h.len
  rw [hinl] at hilen
  simp only [List.length_append, BeP.parts_length] at hilen
  obtain ⟨Q, hQ⟩ : ∃ Q, RecP.patsB l ++ UndoP.bytes ⟨pact, puk, ⟨pst, pk, ⟨pkd, pda, plo, phi, pva⟩⟩, pun⟩ = Q := ⟨_, rfl⟩
  have hql : Q.length ≤ 100000 := by rw [← hQ, List.length_append]; omega
  rw [hinl, hQ] at H
  have HQ := Lib.hid hQ
  have HN1 := Lib.hid (RecP.num1 kd (BeP.parts 8 tx ++ (BeP.parts 8 pv ++ (BeP.parts 8 nx ++ (BeP.parts 1 (R : Int) ++ Q)))) (by omega) (by omega))
  have HN2 := Lib.hid (RecP.num8 tx (BeP.parts 8 pv ++ (BeP.parts 8 nx ++ (BeP.parts 1 (R : Int) ++ Q))) ⟨by omega, by omega⟩)
  have HN3 := Lib.hid (RecP.num8 pv (BeP.parts 8 nx ++ (BeP.parts 1 (R : Int) ++ Q)) ⟨by omega, by omega⟩)
  have HN4 := Lib.hid (RecP.num8 nx (BeP.parts 1 (R : Int) ++ Q) ⟨by omega, by omega⟩)
  have HN5 := Lib.hid (RecP.num1 (R : Int) Q (by omega) (by omega))
  have HN6 := Lib.hid (RecP.all1 Q)
  clear hur hpt hub hinl hilen hQ h hubl
  rw [hRl]
  clear hRl
  obtain ⟨W0, hW0⟩ : ∃ W, w.alloc (.cells #[.int .i64 0, .int .i64 0, .int .i64 0, .int .i64 0, .slice none 0 0, .int .i64 0, .string ⟨#[]⟩, .int .i64 0, .string ⟨#[]⟩, .int .i64 0, .slice none 0 0, .int .i64 0, .int .i64 0, .int .i64 0, .int .i64 0] 40) = W := ⟨_, rfl⟩
  obtain ⟨HS0, HB0, hw0, hz0⟩ := new1 hW0
  have hl0 := HS0.out.lt
  go_enter Tryz.func56, Tryz.ntmps56
  go_wp2_with fail
  refine (RdW.read_any A n c B _ W0 (H.out.below (HB0.out.mono hB)) (by omega) (by omega)).mono ?_
  rintro e W1 ⟨rb, rfl, hrb, hrd, hb1⟩
  replace HS0 := Lib.hid (HS0.out.next hb1)
  replace HB0 := Lib.hid (bstep HB0.out hb1)
  have HRD1 := Lib.hid hrd
  have hl0 := HS0.out.lt
  have hlr := hrd.lt
  clear hrd hb1
  go_wp2_with fail
  refine (RdW.num_any rb _ false 1 W1 HRD1.out (by omega) (by omega)).mono ?_
  rintro e W2 ⟨rfl, hrd, hg⟩
  rw [HN1.out.2.1, HN1.out.2.2] at hrd
  rw [HN1.out.1]
  replace HS0 := Lib.hid (HS0.out.grown hg (by omega))
  replace HB0 := Lib.hid (below_grown HB0.out hg (by omega))
  have HRD2 := Lib.hid hrd
  have hl0 := HS0.out.lt
  have hlr := hrd.lt
  clear hrd hg HRD1
  go_wp2_with fail
  refine (RdW.num_any rb _ false 8 W2 HRD2.out (by omega) (by omega)).mono ?_
  rintro e W3 ⟨rfl, hrd, hg⟩
  rw [HN2.out.2.1, HN2.out.2.2] at hrd
  rw [HN2.out.1]
  replace HS0 := Lib.hid (HS0.out.grown hg (by omega))
  replace HB0 := Lib.hid (below_grown HB0.out hg (by omega))
  have HRD3 := Lib.hid hrd
  have hl0 := HS0.out.lt
  have hlr := hrd.lt
  clear hrd hg HRD2
  go_wp2_with fail
  refine (RdW.num_any rb _ false 8 W3 HRD3.out (by omega) (by omega)).mono ?_
  rintro e W4 ⟨rfl, hrd, hg⟩
  rw [HN3.out.2.1, HN3.out.2.2] at hrd
  rw [HN3.out.1]
  replace HS0 := Lib.hid (HS0.out.grown hg (by omega))
  replace HB0 := Lib.hid (below_grown HB0.out hg (by omega))
  have HRD4 := Lib.hid hrd
  have hl0 := HS0.out.lt
  have hlr := hrd.lt
  clear hrd hg HRD3
  go_wp2_with fail
  refine (RdW.num_any rb _ false 8 W4 HRD4.out (by omega) (by omega)).mono ?_
  rintro e W5 ⟨rfl, hrd, hg⟩
  rw [HN4.out.2.1, HN4.out.2.2] at hrd
  rw [HN4.out.1]
  replace HS0 := Lib.hid (HS0.out.grown hg (by omega))
  replace HB0 := Lib.hid (below_grown HB0.out hg (by omega))
  have HRD5 := Lib.hid hrd
  have hl0 := HS0.out.lt
  have hlr := hrd.lt
  clear hrd hg HRD4
  go_wp2_with fail
  obtain ⟨W6, hW6⟩ : ∃ W, W5.alloc (.cells #[.int .i64 kd, .int .i64 tx, .int .i64 pv, .int .i64 nx, .slice none 0 0, .int .i64 0, .string ⟨#[]⟩, .int .i64 0, .string ⟨#[]⟩, .int .i64 0, .slice none 0 0, .int .i64 0, .int .i64 0, .int .i64 0, .int .i64 0] 40) = W := ⟨_, rfl⟩
  rw [hW6]
  obtain ⟨HX, HBX, hw6, hz6⟩ := new1 hW6
  replace HS0 := Lib.hid (HS0.out.next HBX.out)
  replace HB0 := Lib.hid (bstep HB0.out HBX.out)
  have HRD6 := Lib.hid (HRD5.out.below HBX.out)
  clear hW6 HBX HRD5
  refine (RdW.num_any rb _ false 1 W6 HRD6.out (by omega) (by omega)).mono ?_
  rintro e W7 ⟨rfl, hrd, hg⟩
  rw [HN5.out.2.1, HN5.out.2.2] at hrd
  rw [HN5.out.1]
  replace HS0 := Lib.hid (HS0.out.grown hg (by omega))
  replace HX := Lib.hid (HX.out.grown hg (by omega))
  replace HB0 := Lib.hid (below_grown HB0.out hg (by omega))
  have HRD7 := Lib.hid hrd
  have hl0 := HS0.out.lt
  have hlx := HX.out.lt
  have hlr := hrd.lt
  clear hrd hg HRD6
  have hd4 : decide ((4 : Int) < (R : Int)) = false := by simp; omega
  go_wp2_with fail
  refine (ok_rd HRD7.out).mono ?_
  rintro e w' ⟨rfl, rfl⟩
  go_wp2_with fail
  refine (RdW.left_any rb Q false _ HRD7.out).mono ?_
  rintro e w' ⟨rfl, rfl⟩
  go_wp2_with fail
  refine (RdW.bytes_any rb Q false Q.length _ HRD7.out (by omega)).mono ?_
  rintro e W8 ⟨Ab, nb, cb, rfl, hyb, -, hg⟩
  rw [HN6.out.1] at hyb
  have HYB := Lib.hid hyb
  have hs8 := hg.size
  have HK : Hid (RK w W8 W5.heap.size W8.heap.size #[.int .i64 kd, .int .i64 tx, .int .i64 pv, .int .i64 nx, .slice none 0 0, .int .i64 0, .string ⟨#[]⟩, .int .i64 0, .string ⟨#[]⟩, .int .i64 0, .slice none 0 0, .int .i64 0, .int .i64 0, .int .i64 0, .int .i64 0] none 0 0 []) := Lib.hid ⟨HS0.out.grown hg (by omega), HX.out.grown hg (by omega), OwnE.none_ _ _ _ _, below_grown HB0.out hg (by omega), by omega, by omega, Nat.le_refl _⟩
  obtain ⟨d, hdd⟩ : ∃ d, W5.heap.size = d := ⟨_, rfl⟩
  rw [hdd] at HK ⊢
  obtain ⟨fl, hfl⟩ : ∃ fl, W8.heap.size = fl := ⟨_, rfl⟩
  rw [hfl] at HK HYB
  have HLN := Lib.hid hyb.len
  have hdlo := HK.out.dlo
  have hdfl := HK.out.dfl
  clear hyb hg HS0 HX HB0 HRD7 hd4 hl0 hlx hlr hs8
  go_wp2
  go_loopw [0, 39] (fun bv iv wr => ∃ (k nk ck2 ck : Nat) (Ab' Ak : Option Addr), k ≤ R ∧ bv = .slice Ab' nk ck2 ∧ iv = .int .i64 (k : Int) ∧ Hid (RK w wr d fl #[.int .i64 kd, .int .i64 tx, .int .i64 pv, .int .i64 nx, .slice Ak k ck, .int .i64 0, .string ⟨#[]⟩, .int .i64 0, .string ⟨#[]⟩, .int .i64 0, .slice none 0 0, .int .i64 0, .int .i64 0, .int .i64 0, .int .i64 0] Ak k ck (l.take k)) ∧ Hid (Bytes wr fl Ab' nk ck2 (RecP.patsB (l.drop k) ++ UndoP.bytes ⟨pact, puk, ⟨pst, pk, ⟨pkd, pda, plo, phi, pva⟩⟩, pun⟩))) (fun _ iv _ => R - (intOf iv).toNat)
  case atStart => exact ⟨0, nb, cb, 0, Ab, none, Nat.zero_le _, rfl, rfl, by simpa using HK, by rw [List.drop_zero, HQ.out]; exact HYB⟩
  case round =>
    obtain ⟨k, nk, ck2, ck, Ab', Ak, hk, rfl, rfl, HR, HY⟩ := hrel
    clear HK HYB HLN hfl hdd
    have hflw := HR.out.flw
    have hwr := HR.out.bel.size
    by_cases hlt : k < R
    · have hd : decide ((k : Int) < (R : Int)) = true := by simp; omega
      obtain ⟨p, hp⟩ : ∃ p, l[k]? = some p := ⟨_, List.getElem?_eq_getElem (by rw [HRL.out]; exact hlt)⟩
      have hpr := HPT.out k p (by rw [HRL.out]; exact hlt) hp
      have hsplit : RecP.patsB (l.drop k) ++ UndoP.bytes ⟨pact, puk, ⟨pst, pk, ⟨pkd, pda, plo, phi, pva⟩⟩, pun⟩ = PatchP.body p ++ (RecP.patsB (l.drop (k + 1)) ++ UndoP.bytes ⟨pact, puk, ⟨pst, pk, ⟨pkd, pda, plo, phi, pva⟩⟩, pun⟩) := by rw [RecP.patsB_drop l k p hp, RecP.bytes_right hpr, List.append_assoc]
      have hy := HY.out
      rw [hsplit] at hy
      have HYP := Lib.hid hy
      have HTK : Hid (l.take k ++ [p] = l.take (k + 1)) := Lib.hid (by
        obtain ⟨hk1, e⟩ := List.getElem?_eq_some_iff.1 hp
        rw [List.take_succ_eq_append_getElem hk1, e])
      have hnl := hy.len
      have hnc := hy.2.1
      have hcm := hy.2.2.1
      unfold maxLen at hcm
      rw [List.length_append] at hnl
      obtain ⟨sz, hsz⟩ : ∃ s, (PatchP.body p).length = s := ⟨_, rfl⟩
      rw [hsz] at hnl
      have hcut := hy.cut sz nk ck2 (by omega) (Nat.le_refl _) (by omega) (Nat.le_refl _)
      rw [List.drop_left' hsz, List.take_of_length_le (by omega)] at hcut
      have HCUT := Lib.hid hcut
      have HSZ := Lib.hid hsz
      have hszn : (sz : Int) ≤ (nk : Int) := by omega
      have hnkc : (nk : Int) ≤ (ck2 : Int) := by omega
      have hpg : In64 p.page := ⟨by have := hpr.1; omega, by have := hpr.2.1; omega⟩
      have HPG := Lib.hid hpg
      have HPR := Lib.hid hpr
      clear hsplit hy hp hcut hnl hsz hpg hpr HY
      go_wp2_with fail
      refine (PatchW.get_any p _ Ab' nk ck2 fl wr HPR.out HYP.out hflw).mono ?_
      rintro e W9 ⟨A9, c9, rfl, hE9, hb9⟩
      rw [HSZ.out]
      have HR9 := Lib.hid (HR.out.next hb9)
      have hE10 : Elems RunE (above wr.heap.size (W9.alloc (.cells #[.int .i64 p.page, .bool p.fresh, .slice A9 p.runs.length c9] 68))) (W9.alloc (.cells #[.int .i64 p.page, .bool p.fresh, .slice A9 p.runs.length c9] 68)).heap.size A9 p.runs.length c9 p.runs :=
        (hE9.sub (above_sub (sub_below (balloc (bsame W9) _)))).more (balloc (bsame W9) _).size
      obtain ⟨W10, hW10⟩ : ∃ W, W9.alloc (.cells #[.int .i64 p.page, .bool p.fresh, .slice A9 p.runs.length c9] 68) = W := ⟨_, rfl⟩
      obtain ⟨HS10, HB10, hw10, hz10⟩ := new1 hW10
      rw [hW10] at hE10
      have HR10 := Lib.hid (HR9.out.next HB10.out)
      have hbt := HR.out.own.blt
      obtain ⟨A11, c11, W11, happ, hR11, hb11⟩ := HR10.out.app HPG.out hE10 hbt hflw (by omega)
      rw [HTK.out] at hR11
      have g10 := str3 HS10.out
      have hl10 := HS10.out.lt
      have gx := str15 HR10.out.box
      have hlx := HR10.out.box.lt
      have gx11 := str15 hR11.box
      have gf11 := fun j => hR11.box.frozen j
      have hlx11 := hR11.box.lt
      have hgs : W11.grownBy (W11.setCell ⟨d, 4, none⟩ (.slice A11 (k + 1) c11)) (some d) := grown_set (grown_refl W11 _) 4 _
      have hbox := hR11.box.set 4 (.slice A11 (k + 1) c11)
      have HR12 : Hid (RK w (W11.setCell ⟨d, 4, none⟩ (.slice A11 (k + 1) c11)) d fl #[.int .i64 kd, .int .i64 tx, .int .i64 pv, .int .i64 nx, .slice A11 (k + 1) c11, .int .i64 0, .string ⟨#[]⟩, .int .i64 0, .string ⟨#[]⟩, .int .i64 0, .slice none 0 0, .int .i64 0, .int .i64 0, .int .i64 0, .int .i64 0] A11 (k + 1) c11 (l.take (k + 1))) := Lib.hid ⟨hR11.res.grown hgs (by omega), by simpa using hbox, hR11.own.keepLow hgs hdfl (Nat.le_refl _), below_grown hR11.bel hgs (by omega), hdlo, hdfl, Nat.le_trans hR11.flw hgs.size⟩
      have hb0 : Below fl wr W11 := ((hb9.mono hflw).trans (HB10.out.mono (Nat.le_trans hflw hb9.size))).trans hb11
      have HYN : Hid (Bytes (W11.setCell ⟨d, 4, none⟩ (.slice A11 (k + 1) c11)) fl (cutA Ab' sz ck2 1) (nk - sz) (ck2 - sz) (RecP.patsB (l.drop (k + 1)) ++ UndoP.bytes ⟨pact, puk, ⟨pst, pk, ⟨pkd, pda, plo, phi, pva⟩⟩, pun⟩)) := Lib.hid (Bytes.grown (HCUT.out.below hb0) hR11.flw hR11.box rfl hgs)
      clear hE9 hb9 hE10 HS10 HB10 hz10 hR11 hb11 hgs hbox hb0 HR HR9 HR10 hbt HYP HCUT
      have hsn : ((sz : Nat) : Int).toNat = sz := rfl
      go_wp2
      go_roundw
      case rel => exact ⟨k + 1, nk - sz, ck2 - sz, c11, _, A11, by omega, rfl, by go_num, HR12, HYN⟩
      case measure => simp [intOf]; omega
    · have hd : decide ((k : Int) < (R : Int)) = false := by simp; omega
      have hkn : k = R := by omega
      subst hkn
      have htk : l.take k = l := List.take_of_length_le (by rw [HRL.out]; exact Nat.le_refl _)
      have hdk : RecP.patsB (l.drop k) ++ UndoP.bytes ⟨pact, puk, ⟨pst, pk, ⟨pkd, pda, plo, phi, pva⟩⟩, pun⟩ = UndoP.bytes ⟨pact, puk, ⟨pst, pk, ⟨pkd, pda, plo, phi, pva⟩⟩, pun⟩ := by rw [List.drop_of_length_le (by rw [HRL.out]; exact Nat.le_refl _)]; rfl
      rw [htk] at HR
      rw [hdk] at HY
      have hul := UndoP.bytes_le ⟨pact, puk, ⟨pst, pk, ⟨pkd, pda, plo, phi, pva⟩⟩, pun⟩
      rw [HY.out.len] at hul
      clear htk hdk hlt
      go_wp2_with fail
      refine (UndoW.get_new Ab' nk ck2 fl (UndoP.bytes ⟨pact, puk, ⟨pst, pk, ⟨pkd, pda, plo, phi, pva⟩⟩, pun⟩) wr HY.out hflw (by omega)).mono ?_
      rintro e W9 ⟨Ap, np, cp, rfl, ⟨hyp, hnw⟩, hb9⟩
      have HNW : Hid (∀ a, Ap = some a → w.heap.size ≤ a.block) := Lib.hid (fun a e => Nat.le_trans hwr (hnw a e))
      clear hnw
      rw [HUB.out] at hyp ⊢
      dsimp only at hyp ⊢
      have HR9 := Lib.hid (HR.out.next hb9)
      obtain ⟨W10, hW10⟩ : ∃ W, W9.alloc (.cells #[.int .i64 pact, .string puk, .int .i64 pst, .string pk, .int .i64 pkd, .slice Ap np cp, .int .i64 plo, .int .i64 phi, .int .i64 pva, .int .i64 pun] 38) = W := ⟨_, rfl⟩
      obtain ⟨HS10, HB10, hw10, hz10⟩ := new1 hW10
      have HR10 := Lib.hid (HR9.out.next HB10.out)
      have HYP := Lib.hid (hyp.next HB10.out)
      have g10 := str10 HS10.out
      have hl10 := HS10.out.lt
      have gf := fun j => HR10.out.box.frozen j
      have gx0 := str15 HR10.out.box
      have hlx := HR10.out.box.lt
      obtain ⟨W11, hW11⟩ : ∃ W, ((((((((((W10).setCell ⟨d, 5, none⟩ (.int .i64 pact)).setCell ⟨d, 6, none⟩ (.string puk)).setCell ⟨d, 7, none⟩ (.int .i64 pst)).setCell ⟨d, 8, none⟩ (.string pk)).setCell ⟨d, 9, none⟩ (.int .i64 pkd)).setCell ⟨d, 10, none⟩ (.slice Ap np cp)).setCell ⟨d, 11, none⟩ (.int .i64 plo)).setCell ⟨d, 12, none⟩ (.int .i64 phi)).setCell ⟨d, 13, none⟩ (.int .i64 pva)).setCell ⟨d, 14, none⟩ (.int .i64 pun) = W := ⟨_, rfl⟩
      have hg11 : W10.grownBy W11 (some d) := by rw [← hW11]; exact grown_set (grown_set (grown_set (grown_set (grown_set (grown_set (grown_set (grown_set (grown_set (grown_set (grown_refl W10 _) 5 _) 6 _) 7 _) 8 _) 9 _) 10 _) 11 _) 12 _) 13 _) 14 _
      have hbox : Str W11 d #[.int .i64 kd, .int .i64 tx, .int .i64 pv, .int .i64 nx, .slice Ak k ck, .int .i64 pact, .string puk, .int .i64 pst, .string pk, .int .i64 pkd, .slice Ap np cp, .int .i64 plo, .int .i64 phi, .int .i64 pva, .int .i64 pun] := by
        have := ((((((((((HR10.out.box).set 5 (.int .i64 pact)).set 6 (.string puk)).set 7 (.int .i64 pst)).set 8 (.string pk)).set 9 (.int .i64 pkd)).set 10 (.slice Ap np cp)).set 11 (.int .i64 plo)).set 12 (.int .i64 phi)).set 13 (.int .i64 pva)).set 14 (.int .i64 pun)
        rw [← hW11]; simpa using this
      have HS11 : Hid (Str W11 w.heap.size #[.int .i64 0, .int .i64 0, .int .i64 0, .int .i64 0, .slice none 0 0, .int .i64 0, .string ⟨#[]⟩, .int .i64 0, .string ⟨#[]⟩, .int .i64 0, .slice none 0 0, .int .i64 0, .int .i64 0, .int .i64 0, .int .i64 0]) := Lib.hid (HR10.out.res.grown hg11 (by omega))
      have HO11 := Lib.hid (HR10.out.own.keepLow hg11 hdfl (Nat.le_refl _))
      have HY11 := Lib.hid ((Bytes.grown HYP.out (Nat.le_refl _) HR10.out.box rfl hg11).more hg11.size)
      have HB11 := Lib.hid (below_grown HR10.out.bel hg11 (by omega))
      have gx := str15 hbox
      have gr := str15 HS11.out
      have gfr := fun j => HS11.out.frozen j
      have hlr := HS11.out.lt
      have hlx2 := hbox.lt
      obtain ⟨W12, hW12⟩ : ∃ W, (((((((((((((((W11).setCell ⟨w.heap.size, 0, none⟩ (.int .i64 kd)).setCell ⟨w.heap.size, 1, none⟩ (.int .i64 tx)).setCell ⟨w.heap.size, 2, none⟩ (.int .i64 pv)).setCell ⟨w.heap.size, 3, none⟩ (.int .i64 nx)).setCell ⟨w.heap.size, 4, none⟩ (.slice Ak k ck)).setCell ⟨w.heap.size, 5, none⟩ (.int .i64 pact)).setCell ⟨w.heap.size, 6, none⟩ (.string puk)).setCell ⟨w.heap.size, 7, none⟩ (.int .i64 pst)).setCell ⟨w.heap.size, 8, none⟩ (.string pk)).setCell ⟨w.heap.size, 9, none⟩ (.int .i64 pkd)).setCell ⟨w.heap.size, 10, none⟩ (.slice Ap np cp)).setCell ⟨w.heap.size, 11, none⟩ (.int .i64 plo)).setCell ⟨w.heap.size, 12, none⟩ (.int .i64 phi)).setCell ⟨w.heap.size, 13, none⟩ (.int .i64 pva)).setCell ⟨w.heap.size, 14, none⟩ (.int .i64 pun) = W := ⟨_, rfl⟩
      have hg12 : W11.grownBy W12 (some w.heap.size) := by rw [← hW12]; exact grown_set (grown_set (grown_set (grown_set (grown_set (grown_set (grown_set (grown_set (grown_set (grown_set (grown_set (grown_set (grown_set (grown_set (grown_set (grown_refl W11 _) 0 _) 1 _) 2 _) 3 _) 4 _) 5 _) 6 _) 7 _) 8 _) 9 _) 10 _) 11 _) 12 _) 13 _) 14 _
      have hres : Str W12 w.heap.size #[.int .i64 kd, .int .i64 tx, .int .i64 pv, .int .i64 nx, .slice Ak k ck, .int .i64 pact, .string puk, .int .i64 pst, .string pk, .int .i64 pkd, .slice Ap np cp, .int .i64 plo, .int .i64 phi, .int .i64 pva, .int .i64 pun] := by
        have := (((((((((((((((HS11.out).set 0 (.int .i64 kd)).set 1 (.int .i64 tx)).set 2 (.int .i64 pv)).set 3 (.int .i64 nx)).set 4 (.slice Ak k ck)).set 5 (.int .i64 pact)).set 6 (.string puk)).set 7 (.int .i64 pst)).set 8 (.string pk)).set 9 (.int .i64 pkd)).set 10 (.slice Ap np cp)).set 11 (.int .i64 plo)).set 12 (.int .i64 phi)).set 13 (.int .i64 pva)).set 14 (.int .i64 pun)
        rw [← hW12]; simpa using this
      have hO12 := HO11.out.keepLow hg12 (by omega) (Nat.le_refl _)
      have HFIN : Hid (Elems PatchE (above w.heap.size W12) W12.heap.size Ak k ck l ∧ (Bytes W12 W12.heap.size Ap np cp pda ∧ ∀ a, Ap = some a → w.heap.size ≤ a.block) ∧ Below w.heap.size w W12) := Lib.hid ⟨(hO12.high (Nat.le_refl _)).sub (above_less (by omega)), ⟨(Bytes.grown HY11.out (Nat.le_refl _) HS11.out rfl hg12).more hg12.size, HNW.out⟩, below_grown HB11.out hg12 (Nat.le_refl _)⟩
      have gz := str15 hres
      clear hyp hb9 HR9 HR10 HYP HS10 HB10 hz10 hg11 hbox HS11 HO11 HY11 HB11 hg12 hres hO12 HR HY HUB
      go_wp2
      exact bodyPost_ret (v := .tuple #[.agg #[.int .i64 kd, .int .i64 tx, .int .i64 pv, .int .i64 nx, .slice Ak k ck, .int .i64 pact, .string puk, .int .i64 pst, .string pk, .int .i64 pkd, .slice Ap np cp, .int .i64 plo, .int .i64 phi, .int .i64 pva, .int .i64 pun], .bool true]) (by simp [results, Tryz.results56, go_sem, *]) rfl ⟨Ak, ck, Ap, np, cp, rfl, HFIN.out.1, HFIN.out.2.1, HFIN.out.2.2⟩
end RecW
end Go.Proofs.YtpdfnlhhnodnjaaGreat
end
section
namespace Go.Proofs.YtpdfnlhhnodnjaaGreat.NumP
theorem val_small (l : List UInt8) (a w : Nat) (h : w ≤ 2) : 0 ≤ val l a w ∧ val l a w ≤ 65535 := by
  unfold val
  split
  · have h1 := num_lt ((l.drop a).take w)
    have h2 : ((l.drop a).take w).length = w := by simp; omega
    rw [h2] at h1
    have h3 : 256 ^ w ≤ 256 ^ 2 := Nat.pow_le_pow_right (by omega) h
    rw [toI_small _ (by omega)]
    omega
  · omega
end Go.Proofs.YtpdfnlhhnodnjaaGreat.NumP
namespace Go.Proofs.YtpdfnlhhnodnjaaGreat.RdP
end Go.Proofs.YtpdfnlhhnodnjaaGreat.RdP
namespace Go.Proofs.YtpdfnlhhnodnjaaGreat.MetaP
def within (n least most : Int) : Bool := decide (least ≤ n) && decide (n ≤ most)
/-- may the layout be? -/
def right (b p f c l : Int) : Bool := within b 1 16 && (within p (b + 1) 1024 && (within f 4 64 && (within c 1 16 && within l 4 1024)))
def check (b p f c l : Int) : Int := if right b p f c l then 0 else 1
theorem within_iff (n a b : Int) : within n a b = true ↔ a ≤ n ∧ n ≤ b := by simp [within]
/-- what stands in a page is no layout -/
def bad (x : List UInt8) : Bool := (((NumP.val x 12 2 != 0) || (NumP.val x 16 1 != 0)) || (check (NumP.val x 17 1) (NumP.val x 18 2) (NumP.val x 20 1) (NumP.val x 21 1) (NumP.val x 22 2) != 0)) || !within (NumP.val x 14 2) (NumP.val x 17 1 + 1) (NumP.val x 18 2)
def cb (x : List UInt8) : Int := if bad x then 0 else NumP.val x 17 1
def cp (x : List UInt8) : Int := if bad x then 0 else NumP.val x 18 2
def cc (x : List UInt8) : Int := if bad x then 0 else NumP.val x 21 1
def cl (x : List UInt8) : Int := if bad x then 0 else NumP.val x 22 2
def err (x : List UInt8) : Int := if bad x then 14 else 0
end Go.Proofs.YtpdfnlhhnodnjaaGreat.MetaP
end
