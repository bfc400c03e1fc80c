/-
  Parts of the proof of WalStays.
-/
import Derived.Test.YtpdfnlhhnodnjaaGreatWsG28
import Derived.Test.YtpdfnlhhnodnjaaGreatWsG29
import Derived.Test.YtpdfnlhhnodnjaaGreatWsG30
import Derived.Test.YtpdfnlhhnodnjaaGreatWsG25
import Derived.Test.YtpdfnlhhnodnjaaGreatWsG16
section
namespace Go.Proofs.YtpdfnlhhnodnjaaGreat.WalW
open Go.RowKit Go.Maps RecW
set_option linter.unusedVariables false
set_option linter.unusedSimpArgs false
theorem cell_small {c : Cell} (h : CellP.right c = true) : c.data.length ≤ 32 := by
  unfold CellP.right at h
  split at h
  · simp only [Bool.and_eq_true, decide_eq_true_eq] at h; exact h.1
  · simp only [Bool.and_eq_true, beq_iff_eq] at h; omega
theorem item_small {x : Item} (h : SlotP.right x = true) : x.cell.data.length ≤ 32 := by
  unfold SlotP.right at h
  split at h
  · simp only [SlotP.same, CellP.same, SlotP.none, Bool.and_eq_true, beq_iff_eq] at h
    rw [h.2.2.2.1]; exact Nat.zero_le _
  · simp only [Bool.and_eq_true] at h
    exact cell_small h.2.2
theorem undo_small {u : Undo} (h : UndoP.right u = true) : u.item.cell.data.length ≤ 32 := by
  unfold UndoP.right at h
  split at h
  · simp only [UndoP.same, UndoP.none, SlotP.same, CellP.same, SlotP.none, Bool.and_eq_true, beq_iff_eq] at h
    rw [h.2.2.2.2.2.2.1]; exact Nat.zero_le _
  · split at h
    · simp only [Bool.and_eq_true] at h
      exact item_small h.2.2.1
    · split at h
      · simp only [SlotP.same, CellP.same, SlotP.none, Bool.and_eq_true, beq_iff_eq] at h
        rw [h.2.2.2.2.2.1]; exact Nat.zero_le _
      · cases h
theorem RecP.bytes_no' (x : RecX) (h : RecP.fits x = false) : RecP.bytes x = [] := by unfold RecP.bytes; rw [h]; rfl
/-- a record that is right is small -/
theorem small_of {kd tx pv nx : Int} {l : List PatchX} {pact : Int} {puk : ByteArray} {pst : Int} {pk : ByteArray} {pkd : Int} {pda : List UInt8} {plo phi pva pun : Int} {R1 : Option Addr} {r1 s1 : Nat} {R2 : Option Addr} {r2 s2 B0 : Nat} {w : World} (hE : Elems PatchE w B0 R1 r1 s1 l) (hp : Bytes w B0 R2 r2 s2 pda) (hR : RecP.Right ⟨kd, tx, pv, nx, l, ⟨pact, puk, ⟨pst, pk, ⟨pkd, pda, plo, phi, pva⟩⟩, pun⟩⟩) :
    r1 ≤ 100 ∧ (∀ x ∈ l, x.runs.length ≤ 1000000) ∧ (∀ x ∈ l, ∀ r ∈ x.runs, r.data.length ≤ 1000000) ∧ r2 ≤ 1000000 := by
  obtain ⟨-, h1, h2, h3, -⟩ := hR
  dsimp only at h1 h2 h3
  have h4 := undo_small h2
  dsimp only at h4
  have hpat : ∀ x ∈ l, PatchP.Right x := fun x hx => by
    obtain ⟨j, hj, rfl⟩ := List.getElem_of_mem hx
    exact h3 j _ hj (List.getElem?_eq_getElem hj)
  refine ⟨by rw [← hE.len]; omega, fun x hx => by have := (hpat x hx).2.2.1; omega, fun x hx r hr => ?_, by rw [← hp.len]; omega⟩
  obtain ⟨j, hj, rfl⟩ := List.getElem_of_mem hr
  have := (PatchP.in_runs (hpat x hx) (List.getElem?_eq_getElem hj)).2.2.2
  omega
section
variable {lb d mb nm n c : Nat} {A : Option Addr} {bs : List Nat} {X : DevX} {L : MapP.T Int (Array Value)} {lim kept forced : Int} {ps : List Int}
set_option maxRecDepth 100000 in
set_option maxHeartbeats 8000000 in
theorem append_bad (B0 : Nat) (kd tx pv nx : Int) (l : List PatchX) (pact : Int) (puk : ByteArray) (pst : Int) (pk : ByteArray) (pkd : Int) (pda : List UInt8) (plo phi pva pun : Int) (R1 : Option Addr) (r1 s1 : Nat) (R2 : Option Addr) (r2 s2 : Nat) (keep : Int) (w : World) (hE : Elems PatchE w B0 R1 r1 s1 l) (hp : Bytes w B0 R2 r2 s2 pda) (h : LogIn w lb d mb nm A n c bs X L lim kept forced ps) (hH : Hi B0 lb mb A bs) (hB : B0 ≤ w.heap.size) (hs : DevP.Small X) (ho : X.off = false) (hf : X.fused = false) (hlm : -1152921504606846976 ≤ lim ∧ lim ≤ 1152921504606846976) (hk : -1152921504606846976 ≤ kept ∧ kept ≤ 1152921504606846976) (hke : -1152921504606846976 ≤ keep ∧ keep ≤ 1152921504606846976) (hpk : pk.size ≤ maxLen) (hpuk : puk.size ≤ maxLen) (hF : RecP.fits ⟨kd, tx, pv, nx, l, ⟨pact, puk, ⟨pst, pk, ⟨pkd, pda, plo, phi, pva⟩⟩, pun⟩⟩ = false) (hnm : nm < maxLen) (hn : n ≤ 1000000) :
    Calls Tryz.prog 8 #[.pointer (some ⟨lb, 0, none⟩), .agg #[.int .i64 kd, .int .i64 tx, .int .i64 pv, .int .i64 nx, .slice R1 r1 s1, .int .i64 pact, .string puk, .int .i64 pst, .string pk, .int .i64 pkd, .slice R2 r2 s2, .int .i64 plo, .int .i64 phi, .int .i64 pva, .int .i64 pun], .int .i64 keep] w fun e w' => e = .returned (.tuple #[.int .i64 0, .int .i64 1]) ∧ Below w.heap.size w w' ∧ LogIn w' lb d mb nm A n c bs X L lim kept forced ps := by
  have H := Lib.hid h
  have HE := Lib.hid hE
  have HP := Lib.hid hp
  have HH := Lib.hid hH
  have HS := Lib.hid hs
  have HF := Lib.hid hF
  have HK := Lib.hid (And.intro ho hf)
  have HPK := Lib.hid (And.intro hpk hpuk)
  have hs2 := hs.2.1
  have hx0 := h.dev.ok.h0
  clear h hH hs hF ho hf hpk hpuk hE hp
  obtain ⟨W0, hW0⟩ : ∃ W, w.alloc (.cells #[.int .i64 kd, .int .i64 tx, .int .i64 pv, .int .i64 nx, .slice R1 r1 s1, .int .i64 pact, .string puk, .int .i64 pst, .string pk, .int .i64 pkd, .slice R2 r2 s2, .int .i64 plo, .int .i64 phi, .int .i64 pva, .int .i64 pun] 40) = W := ⟨_, rfl⟩
  obtain ⟨HS0, HB0, hw0, hz0⟩ := new1 hW0
  have H0 := Lib.hid (H.out.next HB0.out)
  have HC0 := Lib.hid (HB0.out.mono hB)
  have hb0 : B0 ≤ W0.heap.size := by omega
  have g0 := str15 HS0.out
  have hl0 := HS0.out.lt
  clear hz0
  have heq := fun W => run_eql_map_nil (P := Tryz.prog) W 59 _ _ (some mb) Tryz.underlying59
  go_enter Tryz.func8, Tryz.ntmps8
  go_wp2_with fail
  refine (put_new kd tx pv nx R1 r1 s1 B0 l pact puk R2 r2 s2 B0 pst pk pkd pda plo phi pva pun W0 (HE.out.below HC0.out) hb0 (HP.out.below HC0.out) hb0 HPK.out.1 HPK.out.2).mono ?_
  rintro e W1 ⟨A1, n1, c1, rfl, hy1, hb1⟩
  have hn0 : n1 = 0 := by rw [← hy1.len, RecP.bytes_no' _ HF.out]; rfl
  subst hn0
  have H1 := Lib.hid (H0.out.next hb1)
  have HW1 := Lib.hid (bstep HB0.out hb1)
  clear hb1 hy1 g0 hl0
  go_wp2_with fail
  exact bodyPost_ret (v := .tuple #[.int .i64 0, .int .i64 1]) (by simp [results, Tryz.results8, go_sem, *]) rfl ⟨rfl, HW1.out, H1.out⟩
set_option maxRecDepth 100000 in
set_option maxHeartbeats 8000000 in
theorem append_fullG (B0 : Nat) (kd tx pv nx : Int) (l : List PatchX) (pact : Int) (puk : ByteArray) (pst : Int) (pk : ByteArray) (pkd : Int) (pda : List UInt8) (plo phi pva pun : Int) (R1 : Option Addr) (r1 s1 : Nat) (R2 : Option Addr) (r2 s2 : Nat) (keep : Int) (w : World) (hE : Elems PatchE w B0 R1 r1 s1 l) (hp : Bytes w B0 R2 r2 s2 pda) (h : LogIn w lb d mb nm A n c bs X L lim kept forced ps) (hH : Hi B0 lb mb A bs) (hB : B0 ≤ w.heap.size) (hs : DevP.Small X) (ho : X.off = false) (hf : X.fused = false) (hlm : -1152921504606846976 ≤ lim ∧ lim ≤ 1152921504606846976) (hk : -1152921504606846976 ≤ kept ∧ kept ≤ 1152921504606846976) (hke : -1152921504606846976 ≤ keep ∧ keep ≤ 1152921504606846976) (hpk : pk.size ≤ maxLen) (hpuk : puk.size ≤ maxLen) (hF : RecP.fits ⟨kd, tx, pv, nx, l, ⟨pact, puk, ⟨pst, pk, ⟨pkd, pda, plo, phi, pva⟩⟩, pun⟩⟩ = true) (hs3 : DevP.Small (appX X (RecP.bytes ⟨kd, tx, pv, nx, l, ⟨pact, puk, ⟨pst, pk, ⟨pkd, pda, plo, phi, pva⟩⟩, pun⟩⟩))) (hnm : nm < maxLen) (hn : n ≤ 1000000) (hcmp : lim - (X.log.length : Nat) - kept - ((RecP.bytes ⟨kd, tx, pv, nx, l, ⟨pact, puk, ⟨pst, pk, ⟨pkd, pda, plo, phi, pva⟩⟩, pun⟩⟩).length : Nat) < keep) :
    Calls Tryz.prog 8 #[.pointer (some ⟨lb, 0, none⟩), .agg #[.int .i64 kd, .int .i64 tx, .int .i64 pv, .int .i64 nx, .slice R1 r1 s1, .int .i64 pact, .string puk, .int .i64 pst, .string pk, .int .i64 pkd, .slice R2 r2 s2, .int .i64 plo, .int .i64 phi, .int .i64 pva, .int .i64 pun], .int .i64 keep] w fun e w' => e = .returned (.tuple #[.int .i64 0, .int .i64 9]) ∧ Below w.heap.size w w' ∧ LogIn w' lb d mb nm A n c bs X L lim kept forced ps := by
  have H := Lib.hid h
  have HE := Lib.hid hE
  have HP := Lib.hid hp
  have HH := Lib.hid hH
  have HS := Lib.hid hs
  have HF := Lib.hid hF
  have HK := Lib.hid (And.intro ho hf)
  have HPK := Lib.hid (And.intro hpk hpuk)
  have HS3 := Lib.hid hs3
  have hs2 := hs.2.1
  have hx0 := h.dev.ok.h0
  have hbl := RecP.bytes_length ⟨kd, tx, pv, nx, l, ⟨pact, puk, ⟨pst, pk, ⟨pkd, pda, plo, phi, pva⟩⟩, pun⟩⟩ hF
  have hfl := RecP.fits_len hF
  clear h hH hs hs3 hF ho hf hpk hpuk hE hp
  obtain ⟨W0, hW0⟩ : ∃ W, w.alloc (.cells #[.int .i64 kd, .int .i64 tx, .int .i64 pv, .int .i64 nx, .slice R1 r1 s1, .int .i64 pact, .string puk, .int .i64 pst, .string pk, .int .i64 pkd, .slice R2 r2 s2, .int .i64 plo, .int .i64 phi, .int .i64 pva, .int .i64 pun] 40) = W := ⟨_, rfl⟩
  obtain ⟨HS0, HB0, hw0, hz0⟩ := new1 hW0
  have H0 := Lib.hid (H.out.next HB0.out)
  have HC0 := Lib.hid (HB0.out.mono hB)
  have hb0 : B0 ≤ W0.heap.size := by omega
  have g0 := str15 HS0.out
  have hl0 := HS0.out.lt
  clear hz0
  have heq := fun W => run_eql_map_nil (P := Tryz.prog) W 59 _ _ (some mb) Tryz.underlying59
  go_enter Tryz.func8, Tryz.ntmps8
  go_wp2_with fail
  refine (put_new kd tx pv nx R1 r1 s1 B0 l pact puk R2 r2 s2 B0 pst pk pkd pda plo phi pva pun W0 (HE.out.below HC0.out) hb0 (HP.out.below HC0.out) hb0 HPK.out.1 HPK.out.2).mono ?_
  rintro e W1 ⟨A1, n1, c1, rfl, hy1, hb1⟩
  have hln1 := hy1.len
  rw [hbl] at hln1
  have hnz : ((n1 : Int) == 0) = false := by simp; omega
  have hn1 : 2 ≤ n1 ∧ n1 ≤ 65537 := by omega
  have HN1 : Hid ((RecP.bytes ⟨kd, tx, pv, nx, l, ⟨pact, puk, ⟨pst, pk, ⟨pkd, pda, plo, phi, pva⟩⟩, pun⟩⟩).length = n1) := Lib.hid (by rw [hbl]; exact hln1)
  have HY1 := Lib.hid hy1
  have HFR : Hid (∀ a, A1 = some a → a.block ∉ bs) := Lib.hid (by
    obtain ⟨b, o, e, hbb, hcell⟩ := hy1.at_ (show 0 < n1 by omega)
    intro a ea hm
    rw [e] at ea; cases ea
    have h1 : b < w.heap.size := H.out.dev.lt _ hm
    rw [above_in _ _ _ (by show b < W0.heap.size; omega)] at hcell
    cases hcell)
  have HS1 := Lib.hid (HS0.out.next hb1)
  have H1 := Lib.hid (H0.out.next hb1)
  have HC1 := Lib.hid (HC0.out.trans (hb1.mono hb0))
  have HW1 := Lib.hid (bstep HB0.out hb1)
  have hb1' : B0 ≤ W1.heap.size := Nat.le_trans hb0 hb1.size
  have hw1 := hb1.size
  clear hb1 hy1 hln1 hbl hfl g0 hl0 HS0 H0 HC0
  have g0 := str15 HS1.out
  have hl0 := HS1.out.lt
  go_wp2_with fail
  refine (room_any W1 H1.out HS.out hlm hk).mono ?_
  rintro e W2 ⟨rfl, hb2⟩
  have HS2 := Lib.hid (HS1.out.next hb2)
  have H2 := Lib.hid (H1.out.next hb2)
  have HC2 := Lib.hid (HC1.out.trans (hb2.mono hb1'))
  have HW2 := Lib.hid (bstep HW1.out hb2)
  have hb2' : B0 ≤ W2.heap.size := Nat.le_trans hb1' hb2.size
  have HY2 := Lib.hid (HY1.out.sub (above_sub (sub_below hb2)))
  have hw2 := hb2.size
  clear hb2 g0 hl0 HS1 H1 HC1
  have g0 := str15 HS2.out
  have hl0 := HS2.out.lt
  obtain ⟨ln, hln⟩ : ∃ k : Nat, X.log.length = k := ⟨_, rfl⟩
  rw [hln] at hs2 hcmp ⊢
  have hwr : wrap64 (lim - (ln : Int) - kept - (n1 : Int)) = lim - (ln : Int) - kept - (n1 : Int) := IntWalk.wrap64_in _ (by omega)
  rw [HN1.out] at hcmp
  have hd : decide (lim - (ln : Int) - kept - (n1 : Int) < keep) = true := by simpa using hcmp
  clear HY1 HY2
  go_wp2
  exact bodyPost_ret (v := .tuple #[.int .i64 0, .int .i64 9]) (by simp [results, Tryz.results8, go_sem, *]) rfl ⟨rfl, HW2.out, H2.out⟩
set_option maxRecDepth 100000 in
set_option maxHeartbeats 8000000 in
theorem append_gen (B0 : Nat) (kd tx pv nx : Int) (l : List PatchX) (pact : Int) (puk : ByteArray) (pst : Int) (pk : ByteArray) (pkd : Int) (pda : List UInt8) (plo phi pva pun : Int) (R1 : Option Addr) (r1 s1 : Nat) (R2 : Option Addr) (r2 s2 : Nat) (keep : Int) (w : World) (hE : Elems PatchE w B0 R1 r1 s1 l) (hp : Bytes w B0 R2 r2 s2 pda) (h : LogIn w lb d mb nm A n c bs X L lim kept forced ps) (hH : Hi B0 lb mb A bs) (hB : B0 ≤ w.heap.size) (hs : DevP.Small X) (ho : X.off = false) (hf : X.fused = false) (hlm : -1152921504606846976 ≤ lim ∧ lim ≤ 1152921504606846976) (hk : -1152921504606846976 ≤ kept ∧ kept ≤ 1152921504606846976) (hke : -1152921504606846976 ≤ keep ∧ keep ≤ 1152921504606846976) (hpk : pk.size ≤ maxLen) (hpuk : puk.size ≤ maxLen) (hF : RecP.fits ⟨kd, tx, pv, nx, l, ⟨pact, puk, ⟨pst, pk, ⟨pkd, pda, plo, phi, pva⟩⟩, pun⟩⟩ = true) (hs3 : DevP.Small (appX X (RecP.bytes ⟨kd, tx, pv, nx, l, ⟨pact, puk, ⟨pst, pk, ⟨pkd, pda, plo, phi, pva⟩⟩, pun⟩⟩))) (hnm : nm < maxLen) (hn : n ≤ 1000000) (hcmp : keep ≤ lim - (X.log.length : Nat) - kept - ((RecP.bytes ⟨kd, tx, pv, nx, l, ⟨pact, puk, ⟨pst, pk, ⟨pkd, pda, plo, phi, pva⟩⟩, pun⟩⟩).length : Nat)) :
    Calls Tryz.prog 8 #[.pointer (some ⟨lb, 0, none⟩), .agg #[.int .i64 kd, .int .i64 tx, .int .i64 pv, .int .i64 nx, .slice R1 r1 s1, .int .i64 pact, .string puk, .int .i64 pst, .string pk, .int .i64 pkd, .slice R2 r2 s2, .int .i64 plo, .int .i64 phi, .int .i64 pva, .int .i64 pun], .int .i64 keep] w fun e w' => Apped B0 lb d mb n nm A bs (appX X (RecP.bytes ⟨kd, tx, pv, nx, l, ⟨pact, puk, ⟨pst, pk, ⟨pkd, pda, plo, phi, pva⟩⟩, pun⟩⟩)) lim (max (kept + keep) 0) forced (ps ++ [(X.head + (X.log.length : Nat) + ((RecP.bytes ⟨kd, tx, pv, nx, l, ⟨pact, puk, ⟨pst, pk, ⟨pkd, pda, plo, phi, pva⟩⟩, pun⟩⟩).length : Nat))]) (X.head + (X.log.length : Nat) + ((RecP.bytes ⟨kd, tx, pv, nx, l, ⟨pact, puk, ⟨pst, pk, ⟨pkd, pda, plo, phi, pva⟩⟩, pun⟩⟩).length : Nat)) w e w' := by
  have H := Lib.hid h
  have HE := Lib.hid hE
  have HP := Lib.hid hp
  have HH := Lib.hid hH
  have HS := Lib.hid hs
  have HF := Lib.hid hF
  have HK := Lib.hid (And.intro ho hf)
  have HPK := Lib.hid (And.intro hpk hpuk)
  have HS3 := Lib.hid hs3
  have hs2 := hs.2.1
  have hx0 := h.dev.ok.h0
  have hbl := RecP.bytes_length ⟨kd, tx, pv, nx, l, ⟨pact, puk, ⟨pst, pk, ⟨pkd, pda, plo, phi, pva⟩⟩, pun⟩⟩ hF
  have hfl := RecP.fits_len hF
  have HSM := Lib.hid (small_of hE hp (RecP.fits_right hF))
  clear h hH hs hs3 hF ho hf hpk hpuk hE hp
  obtain ⟨W0, hW0⟩ : ∃ W, w.alloc (.cells #[.int .i64 kd, .int .i64 tx, .int .i64 pv, .int .i64 nx, .slice R1 r1 s1, .int .i64 pact, .string puk, .int .i64 pst, .string pk, .int .i64 pkd, .slice R2 r2 s2, .int .i64 plo, .int .i64 phi, .int .i64 pva, .int .i64 pun] 40) = W := ⟨_, rfl⟩
  obtain ⟨HS0, HB0, hw0, hz0⟩ := new1 hW0
  have H0 := Lib.hid (H.out.next HB0.out)
  have HC0 := Lib.hid (HB0.out.mono hB)
  have hb0 : B0 ≤ W0.heap.size := by omega
  have g0 := str15 HS0.out
  have hl0 := HS0.out.lt
  clear hz0
  have heq := fun W => run_eql_map_nil (P := Tryz.prog) W 59 _ _ (some mb) Tryz.underlying59
  go_enter Tryz.func8, Tryz.ntmps8
  go_wp2_with fail
  refine (put_new kd tx pv nx R1 r1 s1 B0 l pact puk R2 r2 s2 B0 pst pk pkd pda plo phi pva pun W0 (HE.out.below HC0.out) hb0 (HP.out.below HC0.out) hb0 HPK.out.1 HPK.out.2).mono ?_
  rintro e W1 ⟨A1, n1, c1, rfl, hy1, hb1⟩
  have hln1 := hy1.len
  rw [hbl] at hln1
  have hnz : ((n1 : Int) == 0) = false := by simp; omega
  have hn1 : 2 ≤ n1 ∧ n1 ≤ 65537 := by omega
  have HN1 : Hid ((RecP.bytes ⟨kd, tx, pv, nx, l, ⟨pact, puk, ⟨pst, pk, ⟨pkd, pda, plo, phi, pva⟩⟩, pun⟩⟩).length = n1) := Lib.hid (by rw [hbl]; exact hln1)
  have HY1 := Lib.hid hy1
  have HFR : Hid (∀ a, A1 = some a → a.block ∉ bs) := Lib.hid (by
    obtain ⟨b, o, e, hbb, hcell⟩ := hy1.at_ (show 0 < n1 by omega)
    intro a ea hm
    rw [e] at ea; cases ea
    have h1 : b < w.heap.size := H.out.dev.lt _ hm
    rw [above_in _ _ _ (by show b < W0.heap.size; omega)] at hcell
    cases hcell)
  have HS1 := Lib.hid (HS0.out.next hb1)
  have H1 := Lib.hid (H0.out.next hb1)
  have HC1 := Lib.hid (HC0.out.trans (hb1.mono hb0))
  have HW1 := Lib.hid (bstep HB0.out hb1)
  have hb1' : B0 ≤ W1.heap.size := Nat.le_trans hb0 hb1.size
  have hw1 := hb1.size
  clear hb1 hy1 hln1 hbl hfl g0 hl0 HS0 H0 HC0
  have g0 := str15 HS1.out
  have hl0 := HS1.out.lt
  go_wp2_with fail
  refine (room_any W1 H1.out HS.out hlm hk).mono ?_
  rintro e W2 ⟨rfl, hb2⟩
  have HS2 := Lib.hid (HS1.out.next hb2)
  have H2 := Lib.hid (H1.out.next hb2)
  have HC2 := Lib.hid (HC1.out.trans (hb2.mono hb1'))
  have HW2 := Lib.hid (bstep HW1.out hb2)
  have hb2' : B0 ≤ W2.heap.size := Nat.le_trans hb1' hb2.size
  have HY2 := Lib.hid (HY1.out.sub (above_sub (sub_below hb2)))
  have hw2 := hb2.size
  clear hb2 g0 hl0 HS1 H1 HC1
  have g0 := str15 HS2.out
  have hl0 := HS2.out.lt
  obtain ⟨ln, hln⟩ : ∃ k : Nat, X.log.length = k := ⟨_, rfl⟩
  rw [hln] at hs2 hcmp ⊢
  have hwr : wrap64 (lim - (ln : Int) - kept - (n1 : Int)) = lim - (ln : Int) - kept - (n1 : Int) := IntWalk.wrap64_in _ (by omega)
  rw [HN1.out] at hcmp
  have hd : decide (lim - (ln : Int) - kept - (n1 : Int) < keep) = false := by simp; omega
  have HX2 : Hid (Str W2 lb #[.pointer (some ⟨d, 0, none⟩), .int .i64 lim, .int .i64 kept, .int .i64 forced, .map (some mb), .slice A n c]) := Lib.hid H2.out.box
  have gx := strL HX2.out
  have hlx := HX2.out.lt
  go_wp2_with fail
  refine (DevW.Append_any A1 n1 c1 W1.heap.size (RecP.bytes ⟨kd, tx, pv, nx, l, ⟨pact, puk, ⟨pst, pk, ⟨pkd, pda, plo, phi, pva⟩⟩, pun⟩⟩) W2 H2.out.dev HS.out (HY2.out.sub (sub_above _ _ _)) hw2 (fun _ => HFR.out) (by omega)).mono ?_
  rintro e W3 ⟨rfl, bs3, hD3, hn3, hk3⟩
  rw [(appX_op X _ HK.out.1 HK.out.2).1] at hD3
  rw [(appX_op X [] HK.out.1 HK.out.2).2]
  have H3 := Lib.hid (H2.out.told hD3 hn3 hk3)
  have HC3 := Lib.hid (HC2.out.trans (hk3.below hb2' HH.out.b))
  have hs3 : Str W3 w.heap.size #[.int .i64 kd, .int .i64 tx, .int .i64 pv, .int .i64 nx, .slice R1 r1 s1, .int .i64 pact, .string puk, .int .i64 pst, .string pk, .int .i64 pkd, .slice R2 r2 s2, .int .i64 plo, .int .i64 phi, .int .i64 pva, .int .i64 pun] := HS2.out.keepB hk3 (fun hm => by have := H.out.dev.lt _ hm; omega)
  have HB3 := Lib.hid hs3
  have HH3 : Hid (Hi B0 lb mb A bs3) := Lib.hid ⟨HH.out.l, HH.out.m, HH.out.a, fun b hb => by rcases hn3 b hb with h | h; exact HH.out.b b h; omega⟩
  have hw3 := hk3.size
  have HF3 : Hid (∀ g, g < w.heap.size → g ∉ bs → W3.heap[g]? = w.heap[g]? ∧ g ∉ bs3) := Lib.hid (fun g hg g4 => ⟨(hk3.block g (Nat.lt_of_lt_of_le hg HW2.out.size) g4).trans (HW2.out.block g hg), fun hb => by rcases hn3 g hb with h | h; exact g4 h; (have := HW2.out.size; omega)⟩)
  have hww3 : w.heap.size ≤ W3.heap.size := Nat.le_trans HW2.out.size hw3
  have hb3' : B0 ≤ W3.heap.size := Nat.le_trans hb2' hw3
  have HX3 : Hid (Str W3 lb #[.pointer (some ⟨d, 0, none⟩), .int .i64 lim, .int .i64 kept, .int .i64 forced, .map (some mb), .slice A n c]) := Lib.hid H3.out.box
  clear hD3 hn3 hk3 hs3 g0 hl0 gx hlx H2 HS2 HC2 HX2 HY1 HY2
  have g0 := str15 HB3.out
  have hl0 := HB3.out.lt
  have gx := strL HX3.out
  have hlx := HX3.out.lt
  have hev : (appX X (RecP.bytes ⟨kd, tx, pv, nx, l, ⟨pact, puk, ⟨pst, pk, ⟨pkd, pda, plo, phi, pva⟩⟩, pun⟩⟩)).head + (((appX X (RecP.bytes ⟨kd, tx, pv, nx, l, ⟨pact, puk, ⟨pst, pk, ⟨pkd, pda, plo, phi, pva⟩⟩, pun⟩⟩)).log.length : Nat) : Int) = X.head + (ln : Int) + (n1 : Int) := by
    show X.head + (((X.log ++ RecP.bytes ⟨kd, tx, pv, nx, l, ⟨pact, puk, ⟨pst, pk, ⟨pkd, pda, plo, phi, pva⟩⟩, pun⟩⟩).length : Nat) : Int) = _
    rw [List.length_append, hln, HN1.out]
    omega
  have HEV := Lib.hid hev
  clear hev
  go_wp2_with fail
  refine (end_any W3 H3.out HS3.out).mono ?_
  rintro e W4 ⟨rfl, hb4⟩
  rw [HEV.out]
  obtain ⟨pl, hpl⟩ : ∃ pl, X.head + (ln : Int) + (n1 : Int) = pl := ⟨_, rfl⟩
  have hpi : In64 pl := by unfold In64; omega
  rw [hpl]
  have HPE : Hid (X.head + (ln : Int) + ((RecP.bytes ⟨kd, tx, pv, nx, l, ⟨pact, puk, ⟨pst, pk, ⟨pkd, pda, plo, phi, pva⟩⟩, pun⟩⟩).length : Nat) = pl) := Lib.hid (by rw [HN1.out]; exact hpl)
  have HPI := Lib.hid hpi
  have H4 := Lib.hid (H3.out.next hb4)
  have HB4 := Lib.hid (HB3.out.next hb4)
  have HC4 := Lib.hid (HC3.out.trans (hb4.mono hb3'))
  have hb4' : B0 ≤ W4.heap.size := Nat.le_trans hb3' hb4.size
  have HX4 : Hid (Str W4 lb #[.pointer (some ⟨d, 0, none⟩), .int .i64 lim, .int .i64 kept, .int .i64 forced, .map (some mb), .slice A n c]) := Lib.hid H4.out.box
  have HF4 : Hid (∀ g, g < w.heap.size → g ∉ bs → W4.heap[g]? = w.heap[g]?) := Lib.hid (fun g hg g4 => (hb4.block g (by omega)).trans (HF3.out g hg g4).1)
  have hww4 : w.heap.size ≤ W4.heap.size := Nat.le_trans hww3 hb4.size
  clear hb4 g0 hl0 gx hlx H3 HB3 HC3 HX3 hpi
  have g0 := str15 HB4.out
  have hl0 := HB4.out.lt
  have gx := strL HX4.out
  have hlx := HX4.out.lt
  go_wp2_with fail
  refine (own_any kd tx pv nx l pact puk pst pk pkd pda plo phi pva pun R1 r1 s1 R2 r2 s2 W4 ((HE.out.below HC4.out).more hb4') ((HP.out.below HC4.out).more hb4') HSM.out.1 HSM.out.2.1 HSM.out.2.2.1 HSM.out.2.2.2).mono ?_
  rintro e W5 ⟨Ra, sa, Rb, sb, rfl, -, -, hb5⟩
  have H5 := Lib.hid (H4.out.next hb5)
  have HC5 := Lib.hid (HC4.out.trans (hb5.mono hb4'))
  have hb5' : B0 ≤ W5.heap.size := Nat.le_trans hb4' hb5.size
  have HF5 : Hid (∀ g, g < w.heap.size → g ∉ bs → W5.heap[g]? = w.heap[g]?) := Lib.hid (fun g hg g4 => (hb5.block g (by omega)).trans (HF4.out g hg g4))
  have hww5 : w.heap.size ≤ W5.heap.size := Nat.le_trans hww4 hb5.size
  clear hb5 g0 hl0 gx hlx H4 HB4 HC4 HX4
  go_wp2_with fail
  refine (add_any B0 kd tx pv nx Ra r1 sa pact puk pst pk pkd Rb r2 sb plo phi pva pun pl W5 H5.out HH3.out hb5' HPI.out hnm hn).mono ?_
  rintro e W6 ⟨rfl, hb6, A6, c6, h6, hh6, hof6⟩
  have HOF6 := Lib.hid hof6
  have hww6 : w.heap.size ≤ W6.heap.size := Nat.le_trans hww5 hb6.size
  have H6 := Lib.hid h6
  have HH6 := Lib.hid hh6
  have HC6 := Lib.hid (HC5.out.trans hb6)
  have hb6' : B0 ≤ W6.heap.size := Nat.le_trans hb5' hb6.size
  have HX6 : Hid (Str W6 lb #[.pointer (some ⟨d, 0, none⟩), .int .i64 lim, .int .i64 kept, .int .i64 forced, .map (some mb), .slice A6 (n + 1) c6]) := Lib.hid H6.out.box
  have gx := strL HX6.out
  have hlx := HX6.out.lt
  have gfx := fun j => HX6.out.frozen j
  have hwk : wrap64 (kept + keep) = kept + keep := IntWalk.wrap64_in _ (by omega)
  clear h6 hh6 hof6 hb6 H5 HC5
  have HFV : Hid (∀ v, v = max (kept + keep) 0 → LogIn (W6.setCell ⟨lb, 2, none⟩ (.int .i64 v)) lb d mb (nm + 1) A6 (n + 1) c6 bs3 (appX X (RecP.bytes ⟨kd, tx, pv, nx, l, ⟨pact, puk, ⟨pst, pk, ⟨pkd, pda, plo, phi, pva⟩⟩, pun⟩⟩)) (MapP.put (MapP.ltK intK) L pl #[.int .i64 kd, .int .i64 tx, .int .i64 pv, .int .i64 nx, .slice Ra r1 sa, .int .i64 pact, .string puk, .int .i64 pst, .string pk, .int .i64 pkd, .slice Rb r2 sb, .int .i64 plo, .int .i64 phi, .int .i64 pva, .int .i64 pun]) lim (max (kept + keep) 0) forced (ps ++ [pl]) ∧ Below B0 w (W6.setCell ⟨lb, 2, none⟩ (.int .i64 v)) ∧ Offs w (W6.setCell ⟨lb, 2, none⟩ (.int .i64 v)) lb mb A bs A6 bs3) := Lib.hid (by
    intro v hv
    have hg7 : W6.grownBy (W6.setCell ⟨lb, 2, none⟩ (.int .i64 v)) (some lb) := grown_set (grown_refl W6 _) 2 _
    have hs7 : Str (W6.setCell ⟨lb, 2, none⟩ (.int .i64 v)) lb (logC d mb A6 (n + 1) c6 lim (max (kept + keep) 0) forced) := by have := HX6.out.set 2 (.int .i64 v); rw [← hv]; simpa [logC] using this
    exact ⟨H6.out.turn hg7 hs7, below_grownO HC6.out hg7 hb6' (fun k e => by cases e; exact HH6.out.l), fun g hg g1 g2 g3 g4 => by
      obtain ⟨o1, o2, o3⟩ := HOF6.out g (by omega) g1 g2 g3 (HF3.out g hg g4).2
      exact ⟨(hg7.block g (by omega) (fun e => by injection e with e; exact g1 e)).trans (o1.trans (HF5.out g hg g4)), o2, o3⟩⟩)
  go_wp2
  all_goals exact bodyPost_ret (v := .tuple #[.int .i64 pl, .int .i64 0]) (by simp [results, Tryz.results8, go_sem, *]) rfl ⟨A6, c6, bs3, _, by rw [HPE.out], (HFV.out _ (by omega)).2.1, by rw [HPE.out]; exact (HFV.out _ (by omega)).1, HH6.out, (HFV.out _ (by omega)).2.2⟩
end
end Go.Proofs.YtpdfnlhhnodnjaaGreat.WalW
end
