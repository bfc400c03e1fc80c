/-
  Parts of the proof of PoolAhead.
-/
import Derived.Test.YtcfieofcnpalgaaGreatAhG12
import Derived.Test.YtcfieofcnpalgaaGreatAhG18
section
namespace Go.Proofs.YtcfieofcnpalgaaGreat
open Go.RowKit
set_option linter.unusedVariables false
set_option linter.unusedSimpArgs false
namespace Reg
/-- a call that comes up last, and the slot that its result is handed to: what holds ahead of it, what it tells -/
def callS (t1 t2 : Tmp) (B : World → Prop) (Po : Value → World → Prop) : LS := fun k _ a w => match k with
  | 0 => B w
  | 1 => Po (a.eval (.tmp t1)) w
  | _ => Po (a.eval (.tmp t2)) w
theorem callS_put {t1 t2 : Tmp} {B : World → Prop} {Po : Value → World → Prop} {k : Nat} {b : Bool} {a : Act} {w w' : World} {dst : Option Tmp} {v : Value} (hB : ∀ w w', Below w.heap.size w w' → B w → B w') (hP : ∀ v w w', Below w.heap.size w w' → Po v w → Po v w')
    (hd : dst ≠ some t1 ∧ dst ≠ some t2) (h : callS t1 t2 B Po k b a w) (hb : Below w.heap.size w w') : callS t1 t2 B Po k b (a.put dst v) w' := by
  match k, h with
  | 0, h => exact hB _ _ hb h
  | 1, h => show Po _ _; rw [eval_ne hd.1]; exact hP _ _ _ hb h
  | _ + 2, h => show Po _ _; rw [eval_ne hd.2]; exact hP _ _ _ hb h
end Reg
namespace PoolW
attribute [local go_sem ↓] ldPage_fold
/-- a frame's page is read -/
theorem ld_x {w : World} {b : Nat} {f : Fr} (hs : Str w b (frC f)) (hx : f.x.length = 512) : (ldSem 42 (.pointer (some ⟨b, 1, none⟩))).run Tryz.prog w = .ok (.agg (rowV f.x)) w := by
  have h := run_loadVar_mid (P := Tryz.prog) w b 1 42 (f.x.map byteV) _ (fun j v hv => by
    have hj : j < 512 := by have := (List.getElem?_eq_some_iff.1 hv).1; simpa [hx] using this
    rw [hs.cell, frC_x hx hj]
    simpa using hv) Tryz.underlying42 rfl (by rw [List.length_map, hx]; exact arrPage.size)
  simp only [ldSem, Instr.loadAt, Instr.sureAddr, Sem.run_bind, Sem.run_pure, Result.andThen_ok]
  exact h
theorem fr_cells {w : World} {b : Nat} {f : Fr} (hs : Str w b (frC f)) (hx : f.x.length = 512) : w.cell? ⟨b, 0, none⟩ = some (.int .i64 f.no) ∧ w.cell? ⟨b, 513, none⟩ = some (.bool f.dirty) ∧ w.cell? ⟨b, 514, none⟩ = some (.int .i64 f.pins) :=
  ⟨by rw [hs.cell 0]; exact frC_no f, by rw [hs.cell 513]; exact frC_dirty hx, by rw [hs.cell 514]; exact frC_pins hx⟩
theorem fr_dirty {w : World} {b : Nat} {f : Fr} (hs : Str w b (frC f)) (hx : f.x.length = 512) (v : Bool) : Str (w.setCell ⟨b, 513, none⟩ (.bool v)) b (frC { f with dirty := v }) := by
  have h := hs.set 513 (.bool v)
  have e : (frC f).setIfInBounds 513 (.bool v) = frC { f with dirty := v } := by
    unfold frC
    apply Array.ext'
    rw [Array.toList_setIfInBounds]
    show (([Value.int .i64 f.no] : List Value) ++ f.x.map byteV ++ ([.bool f.dirty, .int .i64 f.pins] : List Value)).set 513 (.bool v) = _
    rw [List.set_append_right _ _ (by simp [hx])]
    simp [hx]
  rwa [e] at h
def blocks (p lg : Nat) (A : Option Addr) (L db : List Nat) : List Nat := p :: lg :: ((A.map (·.block)).toList ++ (L ++ db))
/-- behind a frame's writing -/
def Wrote (w : World) (p d lg : Nat) (n : Int) (A : Option Addr) (m c : Nat) (L : List Nat) (F : List Fr) (db : List Nat) (X : DevX) (far : Int) (g : Nat) (w' : World) : Prop :=
  ∃ db', In w' p d lg n A m c L F ∧ DevW.Dev w' d db' X ∧ Str w' lg #[.int .i64 far] ∧ (∀ b ∈ db', b ∈ db ∨ w.heap.size ≤ b) ∧ Reg.KeepB w.heap.size (lg :: g :: db) w w'
section
variable {p lg : Nat} {A : Option Addr} {L db : List Nat}
theorem blk_pool (h : (blocks p lg A L db).Nodup) : ∀ b ∈ p :: ((A.map (·.block)).toList ++ L), b ≠ lg ∧ b ∉ db := by
  unfold blocks at h
  simp only [List.nodup_cons, List.mem_cons, List.mem_append, not_or] at h
  obtain ⟨⟨h1, h2, h3, h4⟩, ⟨h5, h6, h7⟩, h8⟩ := h
  rw [List.nodup_append] at h8
  obtain ⟨-, h9, h10⟩ := h8
  rw [List.nodup_append] at h9
  intro b hb
  simp only [List.mem_cons, List.mem_append] at hb
  rcases hb with rfl | hb | hb
  · exact ⟨h1, h4⟩
  · exact ⟨fun e => h5 (e ▸ hb), fun hm => h10 b hb b (List.mem_append.2 (.inr hm)) rfl⟩
  · exact ⟨fun e => h6 (e ▸ hb), fun hm => h9.2.2 b hb b hm rfl⟩
theorem blk_log (h : (blocks p lg A L db).Nodup) : lg ∉ db ∧ ∀ b ∈ p :: ((A.map (·.block)).toList ++ L), lg ≠ b := by
  refine ⟨?_, fun b hb e => (blk_pool h b hb).1 e.symm⟩
  unfold blocks at h
  simp only [List.nodup_cons, List.mem_cons, List.mem_append, not_or] at h
  exact h.2.1.2.2
end
set_option maxRecDepth 100000 in
set_option maxHeartbeats 4000000 in
theorem write_any (p d lg m c : Nat) (n : Int) (A : Option Addr) (L : List Nat) (F : List Fr) (db : List Nat) (X : DevX) (far : Int) (i g : Nat) (f : Fr) (w : World) (h : In w p d lg n A m c L F) (hD : DevW.Dev w d db X) (hL : Str w lg #[.int .i64 far]) (hN : (blocks p lg A L db).Nodup) (hi : F[i]? = some f) (hg : L[i]? = some g) (hs : DevP.Small X) :
    Calls Tryz.prog 42 #[.pointer (some ⟨p, 0, none⟩), .pointer (some ⟨g, 0, none⟩)] w fun e w' => e = .returned (.int .i64 (DevP.err X (PoolP.fits X f.no))) ∧ Wrote w p d lg n A m c L (if (DevP.err X (PoolP.fits X f.no)) = 0 then F.set i { f with dirty := false } else F) db (DevP.op X (PoolP.fits X f.no) (DevP.wrote X f.no.toNat (PageP.sealed f.x))) (PoolP.force far (PoolP.lsn f.x)) g w' := by
  have hGS := h.frs.str i g f hg hi
  have hok := h.frs.ok f (List.mem_of_getElem? hi)
  have hgL : g ∈ L := List.mem_of_getElem? hg
  have H := Lib.hid h
  have HD := Lib.hid hD
  have HL := Lib.hid hL
  have HN := Lib.hid hN
  have HGS := Lib.hid hGS
  have HX := Lib.hid hok.x
  have HS := Lib.hid hs
  have HI := Lib.hid (And.intro hi hg)
  have g0 := str4 (show Str w p #[.pointer (some ⟨d, 0, none⟩), .iface 32 (.pointer (some ⟨lg, 0, none⟩)), .int .i64 n, .slice A m c] from h.box)
  have hl0 := h.box.lt
  have hld := ld_x hGS hok.x
  have hSX : Hid ((PageP.sealed f.x).length = 512) := Lib.hid (PageP.sealed_length f.x hok.x)
  have hno := hok.no
  have hneq : p ≠ lg ∧ p ≠ g ∧ lg ≠ g ∧ (p ∉ db ∧ lg ∉ db ∧ g ∉ db) := by
    unfold blocks at hN
    simp only [List.nodup_cons, List.mem_cons, List.mem_append, not_or] at hN
    obtain ⟨⟨h1, h2, h3, h4⟩, ⟨h5, h6, h7⟩, h8⟩ := hN
    rw [List.nodup_append] at h8
    obtain ⟨-, h9, -⟩ := h8
    rw [List.nodup_append] at h9
    exact ⟨h1, fun e => h3 (e ▸ hgL), fun e => h6 (e ▸ hgL), h4, h7, fun hm => h9.2.2 g hgL g hm rfl⟩
  obtain ⟨hpl, hpg, hlg, hpd, hld', hgd⟩ := hneq
  clear h hD hL hN hGS hok hs hi hg hgL
  go_enter Tryz.func42, Tryz.ntmps42
  go_wp2_with fail
  refine (PageW.lsn_any f.x HX.out w).mono ?_
  rintro e w1 ⟨rfl, hb1⟩
  have HP1 := Lib.hid (H.out.box.next hb1)
  have HL1 := Lib.hid (HL.out.next hb1)
  go_wp2_with fail
  refine (force_any p d lg m c n A far (NumP.val f.x 4 8) w1 HP1.out HL1.out).mono ?_
  rintro e w2 ⟨rfl, hL2, hk2⟩
  have hk02 : Reg.KeepB w.heap.size [lg] w w2 := (Reg.KeepB.of hb1).trans hk2 hb1.size
  have HK2 := Lib.hid hk02
  have HI2 := Lib.hid (H.out.at_ (fun b hm => hk02.block b (H.out.lt b hm) (fun h => (blk_pool HN.out b hm).1 (by simpa using h))))
  have HD2 := Lib.hid (HD.out.keepB hk02 (fun b hb => by simp only [List.mem_singleton] at hb; subst hb; exact hld'))
  have HG2 := Lib.hid (HGS.out.keepB hk02 (by intro h; simp at h; exact hlg h.symm))
  have HL2 := Lib.hid hL2
  have hw2 := hk02.size
  clear hb1 HP1 HL1 hL2 hk2 hk02 g0 hl0 hld
  have g0 := str4 (show Str w2 p #[.pointer (some ⟨d, 0, none⟩), .iface 32 (.pointer (some ⟨lg, 0, none⟩)), .int .i64 n, .slice A m c] from HI2.out.box)
  have hl0 := HI2.out.box.lt
  have hld := ld_x HG2.out HX.out
  have hfc := fr_cells HG2.out HX.out
  have hlg2 := HG2.out.lt
  have HST : Hid (∀ (dst : Option Tmp) (k : Nat) (b : Bool) (a : Act) (wa wb : World) (v : Value), (dst ≠ some 30 ∧ dst ≠ some 6) → (Reg.callS 30 6 (fun W => DevW.Dev W d db X) (fun v W => v = .int .i64 (DevP.err X (PoolP.fits X f.no)) ∧ ∃ db', DevW.Dev W d db' (DevP.op X (PoolP.fits X f.no) (DevP.wrote X f.no.toNat (PageP.sealed f.x))) ∧ ∀ b ∈ db', b ∈ db ∨ w2.heap.size ≤ b)) k b a wa → Below wa.heap.size wa wb → (Reg.callS 30 6 (fun W => DevW.Dev W d db X) (fun v W => v = .int .i64 (DevP.err X (PoolP.fits X f.no)) ∧ ∃ db', DevW.Dev W d db' (DevP.op X (PoolP.fits X f.no) (DevP.wrote X f.no.toNat (PageP.sealed f.x))) ∧ ∀ b ∈ db', b ∈ db ∨ w2.heap.size ≤ b)) k b (a.put dst v) wb) := Lib.hid (fun dst k b a wa wb v hd h hb => Reg.callS_put (fun _ _ hb hd => DevW.Dev.below hd hb) (fun _ _ _ hb hp => ⟨hp.1, by obtain ⟨q, hq⟩ := hp.2; exact ⟨q, hq.1.below hb, hq.2⟩⟩) hd h hb)
  go_wp2_with fail
  refine Reg.wp_region_box (R := (Reg.extB w2.heap.size db)) (W := w2) (Reg.LineJ (Reg.Line.mk [13, 14] 15 (Reg.callS 30 6 (fun W => DevW.Dev W d db X) (fun v W => v = .int .i64 (DevP.err X (PoolP.fits X f.no)) ∧ ∃ db', DevW.Dev W d db' (DevP.op X (PoolP.fits X f.no) (DevP.wrote X f.no.toNat (PageP.sealed f.x))) ∧ ∀ b ∈ db', b ∈ db ∨ w2.heap.size ≤ b)))) [Reg.eqv (.pointer (some ⟨p, 0, none⟩)), Reg.eqv (.pointer (some ⟨p, 0, none⟩)), Reg.eqv (.pointer (some ⟨p, 0, none⟩)), Reg.eqv (.pointer (some ⟨d, 0, none⟩)), Reg.eqv (.pointer (some ⟨g, 0, none⟩)), Reg.eqv (.pointer (some ⟨g, 0, none⟩)), Reg.eqv (.pointer (some ⟨g, 0, none⟩)), Reg.eqv (.int .i64 f.no), Reg.eqv (.pointer (some ⟨g, 0, none⟩)), Reg.eqv (.pointer (some ⟨g, 0, none⟩)), Reg.eqv (.pointer (some ⟨g, 1, none⟩)), Reg.eqv (.agg (rowV f.x)), Reg.eqv (.agg (rowV (PageP.sealed f.x))), Reg.any, Reg.any] 37 [[(0, none)], [(17, some 0)], [(18, some 1)], [(19, some 2)], [(1, none)], [(21, some 4)], [(22, some 5)], [(23, some 6)], [(1, none)], [(25, some 8)], [(26, some 9)], [(27, some 10)], [(28, some 11)], [(20, some 3), (24, some 7), (29, some 12)], [(30, some 13)]] rfl (by kernel_rfl) (by kernel_rfl) (fun _ h => Reg.line_zero (l := (Reg.Line.mk [13, 14] 15 (Reg.callS 30 6 (fun W => DevW.Dev W d db X) (fun v W => v = .int .i64 (DevP.err X (PoolP.fits X f.no)) ∧ ∃ db', DevW.Dev W d db' (DevP.op X (PoolP.fits X f.no) (DevP.wrote X f.no.toNat (PageP.sealed f.x))) ∧ ∀ b ∈ db', b ∈ db ∨ w2.heap.size ≤ b)))) (HD2.out.below ((bsame w2).drew)) h) (by kernel_rfl) ?_ [some 17, some 18, some 19, some 20, some 21, some 22, some 23, some 24, some 25, some 26, some 27, some 28, some 29, some 30, some 6] (by kernel_rfl) ?_
  · refine ⟨?_, ?_, ?_, ?_, ?_, ?_, ?_, ?_, ?_, ?_, ?_, ?_, ?_, ?_, ?_, trivial⟩
    · refine Reg.oblL_ord (l := (Reg.Line.mk [13, 14] 15 (Reg.callS 30 6 (fun W => DevW.Dev W d db X) (fun v W => v = .int .i64 (DevP.err X (PoolP.fits X f.no)) ∧ ∃ db', DevW.Dev W d db' (DevP.op X (PoolP.fits X f.no) (DevP.wrote X f.no.toNat (PageP.sealed f.x))) ∧ ∀ b ∈ db', b ∈ db ∨ w2.heap.size ≤ b)))) (by show 0 ∉ [13, 14] ∧ 0 ≠ 15; decide) (Reg.extB_next rfl) (fun k1 b1 a1 wa v1 wb h1 h2 => HST.out (some 17) k1 b1 a1 wa wb v1 (by show ((some 17) : Option Nat) ≠ some 30 ∧ ((some 17) : Option Nat) ≠ some 6; decide) h1 h2) ?_
      intro ax wx hx hs
      obtain ⟨e0, -⟩ := hs
      have g0 := Reg.ev (v := .pointer (some ⟨p, 0, none⟩)) e0
      exact Reg.obl_freeL rfl (Reg.wp_eqvB (Option.some_ne_none _) (by go_simp) rfl)
    · refine Reg.oblL_ord (l := (Reg.Line.mk [13, 14] 15 (Reg.callS 30 6 (fun W => DevW.Dev W d db X) (fun v W => v = .int .i64 (DevP.err X (PoolP.fits X f.no)) ∧ ∃ db', DevW.Dev W d db' (DevP.op X (PoolP.fits X f.no) (DevP.wrote X f.no.toNat (PageP.sealed f.x))) ∧ ∀ b ∈ db', b ∈ db ∨ w2.heap.size ≤ b)))) (by show 1 ∉ [13, 14] ∧ 1 ≠ 15; decide) (Reg.extB_next rfl) (fun k1 b1 a1 wa v1 wb h1 h2 => HST.out (some 18) k1 b1 a1 wa wb v1 (by show ((some 18) : Option Nat) ≠ some 30 ∧ ((some 18) : Option Nat) ≠ some 6; decide) h1 h2) ?_
      intro ax wx hx hs
      obtain ⟨e17, -⟩ := hs
      have g17 := Reg.ev (v := .pointer (some ⟨p, 0, none⟩)) e17
      exact Reg.obl_freeL rfl (Reg.wp_eqvB (Option.some_ne_none _) (by go_simp) rfl)
    · refine Reg.oblL_ord (l := (Reg.Line.mk [13, 14] 15 (Reg.callS 30 6 (fun W => DevW.Dev W d db X) (fun v W => v = .int .i64 (DevP.err X (PoolP.fits X f.no)) ∧ ∃ db', DevW.Dev W d db' (DevP.op X (PoolP.fits X f.no) (DevP.wrote X f.no.toNat (PageP.sealed f.x))) ∧ ∀ b ∈ db', b ∈ db ∨ w2.heap.size ≤ b)))) (by show 2 ∉ [13, 14] ∧ 2 ≠ 15; decide) (Reg.extB_next rfl) (fun k1 b1 a1 wa v1 wb h1 h2 => HST.out (some 19) k1 b1 a1 wa wb v1 (by show ((some 19) : Option Nat) ≠ some 30 ∧ ((some 19) : Option Nat) ≠ some 6; decide) h1 h2) ?_
      intro ax wx hx hs
      obtain ⟨e18, -⟩ := hs
      have g18 := Reg.ev (v := .pointer (some ⟨p, 0, none⟩)) e18
      exact Reg.obl_freeL rfl (Reg.wp_eqvB (Option.some_ne_none _) (by go_simp) rfl)
    · refine Reg.oblL_ord (l := (Reg.Line.mk [13, 14] 15 (Reg.callS 30 6 (fun W => DevW.Dev W d db X) (fun v W => v = .int .i64 (DevP.err X (PoolP.fits X f.no)) ∧ ∃ db', DevW.Dev W d db' (DevP.op X (PoolP.fits X f.no) (DevP.wrote X f.no.toNat (PageP.sealed f.x))) ∧ ∀ b ∈ db', b ∈ db ∨ w2.heap.size ≤ b)))) (by show 3 ∉ [13, 14] ∧ 3 ≠ 15; decide) (Reg.extB_next rfl) (fun k1 b1 a1 wa v1 wb h1 h2 => HST.out (some 20) k1 b1 a1 wa wb v1 (by show ((some 20) : Option Nat) ≠ some 30 ∧ ((some 20) : Option Nat) ≠ some 6; decide) h1 h2) ?_
      intro ax wx hx hs
      obtain ⟨e19, -⟩ := hs
      have g19 := Reg.ev (v := .pointer (some ⟨p, 0, none⟩)) e19
      have hx' : Reg.KeepB w2.heap.size db w2 wx := hx
      have q0 := str4 (show Str wx p #[.pointer (some ⟨d, 0, none⟩), .iface 32 (.pointer (some ⟨lg, 0, none⟩)), .int .i64 n, .slice A m c] from HI2.out.box.keepB hx' hpd)
      have hld := ld_x (HG2.out.keepB hx' hgd) HX.out
      have hfc := fr_cells (HG2.out.keepB hx' hgd) HX.out
      exact Reg.obl_freeL rfl (Reg.wp_eqvB (Option.some_ne_none _) (by go_simp) rfl)
    · refine Reg.oblL_ord (l := (Reg.Line.mk [13, 14] 15 (Reg.callS 30 6 (fun W => DevW.Dev W d db X) (fun v W => v = .int .i64 (DevP.err X (PoolP.fits X f.no)) ∧ ∃ db', DevW.Dev W d db' (DevP.op X (PoolP.fits X f.no) (DevP.wrote X f.no.toNat (PageP.sealed f.x))) ∧ ∀ b ∈ db', b ∈ db ∨ w2.heap.size ≤ b)))) (by show 4 ∉ [13, 14] ∧ 4 ≠ 15; decide) (Reg.extB_next rfl) (fun k1 b1 a1 wa v1 wb h1 h2 => HST.out (some 21) k1 b1 a1 wa wb v1 (by show ((some 21) : Option Nat) ≠ some 30 ∧ ((some 21) : Option Nat) ≠ some 6; decide) h1 h2) ?_
      intro ax wx hx hs
      obtain ⟨e1, -⟩ := hs
      have g1 := Reg.ev (v := .pointer (some ⟨g, 0, none⟩)) e1
      exact Reg.obl_freeL rfl (Reg.wp_eqvB (Option.some_ne_none _) (by go_simp) rfl)
    · refine Reg.oblL_ord (l := (Reg.Line.mk [13, 14] 15 (Reg.callS 30 6 (fun W => DevW.Dev W d db X) (fun v W => v = .int .i64 (DevP.err X (PoolP.fits X f.no)) ∧ ∃ db', DevW.Dev W d db' (DevP.op X (PoolP.fits X f.no) (DevP.wrote X f.no.toNat (PageP.sealed f.x))) ∧ ∀ b ∈ db', b ∈ db ∨ w2.heap.size ≤ b)))) (by show 5 ∉ [13, 14] ∧ 5 ≠ 15; decide) (Reg.extB_next rfl) (fun k1 b1 a1 wa v1 wb h1 h2 => HST.out (some 22) k1 b1 a1 wa wb v1 (by show ((some 22) : Option Nat) ≠ some 30 ∧ ((some 22) : Option Nat) ≠ some 6; decide) h1 h2) ?_
      intro ax wx hx hs
      obtain ⟨e21, -⟩ := hs
      have g21 := Reg.ev (v := .pointer (some ⟨g, 0, none⟩)) e21
      exact Reg.obl_freeL rfl (Reg.wp_eqvB (Option.some_ne_none _) (by go_simp) rfl)
    · refine Reg.oblL_ord (l := (Reg.Line.mk [13, 14] 15 (Reg.callS 30 6 (fun W => DevW.Dev W d db X) (fun v W => v = .int .i64 (DevP.err X (PoolP.fits X f.no)) ∧ ∃ db', DevW.Dev W d db' (DevP.op X (PoolP.fits X f.no) (DevP.wrote X f.no.toNat (PageP.sealed f.x))) ∧ ∀ b ∈ db', b ∈ db ∨ w2.heap.size ≤ b)))) (by show 6 ∉ [13, 14] ∧ 6 ≠ 15; decide) (Reg.extB_next rfl) (fun k1 b1 a1 wa v1 wb h1 h2 => HST.out (some 23) k1 b1 a1 wa wb v1 (by show ((some 23) : Option Nat) ≠ some 30 ∧ ((some 23) : Option Nat) ≠ some 6; decide) h1 h2) ?_
      intro ax wx hx hs
      obtain ⟨e22, -⟩ := hs
      have g22 := Reg.ev (v := .pointer (some ⟨g, 0, none⟩)) e22
      exact Reg.obl_freeL rfl (Reg.wp_eqvB (Option.some_ne_none _) (by go_simp) rfl)
    · refine Reg.oblL_ord (l := (Reg.Line.mk [13, 14] 15 (Reg.callS 30 6 (fun W => DevW.Dev W d db X) (fun v W => v = .int .i64 (DevP.err X (PoolP.fits X f.no)) ∧ ∃ db', DevW.Dev W d db' (DevP.op X (PoolP.fits X f.no) (DevP.wrote X f.no.toNat (PageP.sealed f.x))) ∧ ∀ b ∈ db', b ∈ db ∨ w2.heap.size ≤ b)))) (by show 7 ∉ [13, 14] ∧ 7 ≠ 15; decide) (Reg.extB_next rfl) (fun k1 b1 a1 wa v1 wb h1 h2 => HST.out (some 24) k1 b1 a1 wa wb v1 (by show ((some 24) : Option Nat) ≠ some 30 ∧ ((some 24) : Option Nat) ≠ some 6; decide) h1 h2) ?_
      intro ax wx hx hs
      obtain ⟨e23, -⟩ := hs
      have g23 := Reg.ev (v := .pointer (some ⟨g, 0, none⟩)) e23
      have hx' : Reg.KeepB w2.heap.size db w2 wx := hx
      have q0 := str4 (show Str wx p #[.pointer (some ⟨d, 0, none⟩), .iface 32 (.pointer (some ⟨lg, 0, none⟩)), .int .i64 n, .slice A m c] from HI2.out.box.keepB hx' hpd)
      have hld := ld_x (HG2.out.keepB hx' hgd) HX.out
      have hfc := fr_cells (HG2.out.keepB hx' hgd) HX.out
      exact Reg.obl_freeL rfl (Reg.wp_eqvB (Option.some_ne_none _) (by go_simp) rfl)
    · refine Reg.oblL_ord (l := (Reg.Line.mk [13, 14] 15 (Reg.callS 30 6 (fun W => DevW.Dev W d db X) (fun v W => v = .int .i64 (DevP.err X (PoolP.fits X f.no)) ∧ ∃ db', DevW.Dev W d db' (DevP.op X (PoolP.fits X f.no) (DevP.wrote X f.no.toNat (PageP.sealed f.x))) ∧ ∀ b ∈ db', b ∈ db ∨ w2.heap.size ≤ b)))) (by show 8 ∉ [13, 14] ∧ 8 ≠ 15; decide) (Reg.extB_next rfl) (fun k1 b1 a1 wa v1 wb h1 h2 => HST.out (some 25) k1 b1 a1 wa wb v1 (by show ((some 25) : Option Nat) ≠ some 30 ∧ ((some 25) : Option Nat) ≠ some 6; decide) h1 h2) ?_
      intro ax wx hx hs
      obtain ⟨e1, -⟩ := hs
      have g1 := Reg.ev (v := .pointer (some ⟨g, 0, none⟩)) e1
      exact Reg.obl_freeL rfl (Reg.wp_eqvB (Option.some_ne_none _) (by go_simp) rfl)
    · refine Reg.oblL_ord (l := (Reg.Line.mk [13, 14] 15 (Reg.callS 30 6 (fun W => DevW.Dev W d db X) (fun v W => v = .int .i64 (DevP.err X (PoolP.fits X f.no)) ∧ ∃ db', DevW.Dev W d db' (DevP.op X (PoolP.fits X f.no) (DevP.wrote X f.no.toNat (PageP.sealed f.x))) ∧ ∀ b ∈ db', b ∈ db ∨ w2.heap.size ≤ b)))) (by show 9 ∉ [13, 14] ∧ 9 ≠ 15; decide) (Reg.extB_next rfl) (fun k1 b1 a1 wa v1 wb h1 h2 => HST.out (some 26) k1 b1 a1 wa wb v1 (by show ((some 26) : Option Nat) ≠ some 30 ∧ ((some 26) : Option Nat) ≠ some 6; decide) h1 h2) ?_
      intro ax wx hx hs
      obtain ⟨e25, -⟩ := hs
      have g25 := Reg.ev (v := .pointer (some ⟨g, 0, none⟩)) e25
      exact Reg.obl_freeL rfl (Reg.wp_eqvB (Option.some_ne_none _) (by go_simp) rfl)
    · refine Reg.oblL_ord (l := (Reg.Line.mk [13, 14] 15 (Reg.callS 30 6 (fun W => DevW.Dev W d db X) (fun v W => v = .int .i64 (DevP.err X (PoolP.fits X f.no)) ∧ ∃ db', DevW.Dev W d db' (DevP.op X (PoolP.fits X f.no) (DevP.wrote X f.no.toNat (PageP.sealed f.x))) ∧ ∀ b ∈ db', b ∈ db ∨ w2.heap.size ≤ b)))) (by show 10 ∉ [13, 14] ∧ 10 ≠ 15; decide) (Reg.extB_next rfl) (fun k1 b1 a1 wa v1 wb h1 h2 => HST.out (some 27) k1 b1 a1 wa wb v1 (by show ((some 27) : Option Nat) ≠ some 30 ∧ ((some 27) : Option Nat) ≠ some 6; decide) h1 h2) ?_
      intro ax wx hx hs
      obtain ⟨e26, -⟩ := hs
      have g26 := Reg.ev (v := .pointer (some ⟨g, 0, none⟩)) e26
      exact Reg.obl_freeL rfl (Reg.wp_eqvB (Option.some_ne_none _) (by go_simp) rfl)
    · refine Reg.oblL_ord (l := (Reg.Line.mk [13, 14] 15 (Reg.callS 30 6 (fun W => DevW.Dev W d db X) (fun v W => v = .int .i64 (DevP.err X (PoolP.fits X f.no)) ∧ ∃ db', DevW.Dev W d db' (DevP.op X (PoolP.fits X f.no) (DevP.wrote X f.no.toNat (PageP.sealed f.x))) ∧ ∀ b ∈ db', b ∈ db ∨ w2.heap.size ≤ b)))) (by show 11 ∉ [13, 14] ∧ 11 ≠ 15; decide) (Reg.extB_next rfl) (fun k1 b1 a1 wa v1 wb h1 h2 => HST.out (some 28) k1 b1 a1 wa wb v1 (by show ((some 28) : Option Nat) ≠ some 30 ∧ ((some 28) : Option Nat) ≠ some 6; decide) h1 h2) ?_
      intro ax wx hx hs
      obtain ⟨e27, -⟩ := hs
      have g27 := Reg.ev (v := .pointer (some ⟨g, 1, none⟩)) e27
      have hx' : Reg.KeepB w2.heap.size db w2 wx := hx
      have q0 := str4 (show Str wx p #[.pointer (some ⟨d, 0, none⟩), .iface 32 (.pointer (some ⟨lg, 0, none⟩)), .int .i64 n, .slice A m c] from HI2.out.box.keepB hx' hpd)
      have hld := ld_x (HG2.out.keepB hx' hgd) HX.out
      have hfc := fr_cells (HG2.out.keepB hx' hgd) HX.out
      exact Reg.obl_freeL rfl (Reg.wp_eqvB (Option.some_ne_none _) (by go_simp) rfl)
    · refine Reg.oblL_ord (l := (Reg.Line.mk [13, 14] 15 (Reg.callS 30 6 (fun W => DevW.Dev W d db X) (fun v W => v = .int .i64 (DevP.err X (PoolP.fits X f.no)) ∧ ∃ db', DevW.Dev W d db' (DevP.op X (PoolP.fits X f.no) (DevP.wrote X f.no.toNat (PageP.sealed f.x))) ∧ ∀ b ∈ db', b ∈ db ∨ w2.heap.size ≤ b)))) (by show 12 ∉ [13, 14] ∧ 12 ≠ 15; decide) (Reg.extB_next rfl) (fun k1 b1 a1 wa v1 wb h1 h2 => HST.out (some 29) k1 b1 a1 wa wb v1 (by show ((some 29) : Option Nat) ≠ some 30 ∧ ((some 29) : Option Nat) ≠ some 6; decide) h1 h2) ?_
      intro ax wx hx hs
      obtain ⟨e28, -⟩ := hs
      have g28 := Reg.ev (v := .agg (rowV f.x)) e28
      refine Reg.obl_freeL rfl ?_
      have hx' : Reg.KeepB w2.heap.size db w2 wx := hx
      go_simp
      refine (PageW.sealed_any f.x HX.out wx).mono ?_
      rintro e wy ⟨rfl, hby⟩
      exact Reg.doneB (Option.some_ne_none _) rfl hby
    · refine Reg.oblL_line (l := (Reg.Line.mk [13, 14] 15 (Reg.callS 30 6 (fun W => DevW.Dev W d db X) (fun v W => v = .int .i64 (DevP.err X (PoolP.fits X f.no)) ∧ ∃ db', DevW.Dev W d db' (DevP.op X (PoolP.fits X f.no) (DevP.wrote X f.no.toNat (PageP.sealed f.x))) ∧ ∀ b ∈ db', b ∈ db ∨ w2.heap.size ≤ b)))) (k := 0) rfl rfl (by show List.Nodup [13, 14]; decide) (by show 13 ≠ 15; decide) (by show 13 < 15; decide) (.inl rfl) ?_
      intro b ax wx hx hs has hwb hS
      obtain ⟨e20, e24, e29, -⟩ := hs
      have g20 := Reg.ev (v := .pointer (some ⟨d, 0, none⟩)) e20
      have g24 := Reg.ev (v := .int .i64 f.no) e24
      have g29 := Reg.ev (v := .agg (rowV (PageP.sealed f.x))) e29
      have hx' : Reg.KeepB w2.heap.size db w2 wx := hx
      have HDX : Hid (DevW.Dev wx d db X) := Lib.hid hS
      have HXX := Lib.hid hx'
      have HAS := Lib.hid has
      clear hS hx hx' has
      go_simp
      refine (DevW.Write_any f.no (PageP.sealed f.x) hSX.out wx HDX.out HS.out).mono ?_
      intro e wy hT
      obtain ⟨he, db', hD', hn', hk'⟩ := hT
      subst he
      have hx' := HXX.out
      refine ⟨⟨_, rfl, (fun h => by cases h), trivial, hk'.less hx'.size⟩, ?_⟩
      show Act.eval (ax.put (some 30) _) (.tmp 30) = _ ∧ _
      rw [Reg.eval_put_same (by rw [HAS.out]; show 30 < 37; decide)]
      exact ⟨rfl, db', hD', fun b hb => (hn' b hb).imp id (Nat.le_trans hx'.size)⟩
    · refine Reg.oblL_line (l := (Reg.Line.mk [13, 14] 15 (Reg.callS 30 6 (fun W => DevW.Dev W d db X) (fun v W => v = .int .i64 (DevP.err X (PoolP.fits X f.no)) ∧ ∃ db', DevW.Dev W d db' (DevP.op X (PoolP.fits X f.no) (DevP.wrote X f.no.toNat (PageP.sealed f.x))) ∧ ∀ b ∈ db', b ∈ db ∨ w2.heap.size ≤ b)))) (k := 1) rfl rfl (by show List.Nodup [13, 14]; decide) (by show 14 ≠ 15; decide) (by show 14 < 15; decide) (.inr ⟨13, rfl, by kernel_rfl⟩) ?_
      intro b ax wx hx hs has hwb hS
      obtain ⟨e30, -⟩ := hs
      refine Oper.wp_mono (K := fun a1 w1 => a1 = ax.put (some 6) (ax.eval (.tmp 30)) ∧ w1 = wx) ?_ ?_
      · rintro a1 w1 ⟨rfl, rfl⟩
        refine ⟨⟨_, rfl, (fun h => by cases h), trivial, Reg.KeepB.of (Below.refl _ _)⟩, ?_⟩
        show Act.eval (ax.put (some 6) _) (.tmp 6) = _ ∧ _
        rw [Reg.eval_put_same (by rw [has]; show 6 < 37; decide)]
        exact hS
      · clear has hS
        go_simp
  · intro W3 listed hwf hall
    simp only [Reg.Fin]
    rintro _ rfl _ rfl _ rfl _ rfl _ rfl _ rfl _ rfl _ rfl _ rfl _ rfl _ rfl _ rfl _ rfl v30 h30 v6 h6
    intro hJ
    obtain ⟨bL, hbL, hSL⟩ := Reg.line_end (l := (Reg.Line.mk [13, 14] 15 (Reg.callS 30 6 (fun W => DevW.Dev W d db X) (fun v W => v = .int .i64 (DevP.err X (PoolP.fits X f.no)) ∧ ∃ db', DevW.Dev W d db' (DevP.op X (PoolP.fits X f.no) (DevP.wrote X f.no.toNat (PageP.sealed f.x))) ∧ ∀ b ∈ db', b ∈ db ∨ w2.heap.size ≤ b)))) (n := 15) hall (by show ∀ c ∈ [13, 14], c < 15; decide) hJ
    clear hJ hall hbL
    go_simp
    have hk3 : Reg.KeepB w2.heap.size db w2 W3 := hwf
    obtain ⟨e6, db', hD3, hn3⟩ := hSL
    have e6' : v6 = .int .i64 (DevP.err X (PoolP.fits X f.no)) := by simpa [Act.eval, Act.put] using e6
    subst e6'
    have HK3 := Lib.hid hk3
    have HI3 := Lib.hid (HI2.out.at_ (fun b hm => hk3.block b (HI2.out.lt b hm) (blk_pool HN.out b hm).2))
    have HG3 := Lib.hid (HG2.out.keepB hk3 hgd)
    have HL3 := Lib.hid (HL2.out.keepB hk3 hld')
    have HD3 := Lib.hid hD3
    have HN3 := Lib.hid hn3
    clear hwf hk3 hD3 hn3 e6 g0 hl0 hld hfc
    have hw3 := HK3.out.size
    have hkA : Reg.KeepB w.heap.size (lg :: g :: db) w W3 := (HK2.out.more (by simp)).trans (HK3.out.more (fun x hx => by simp [hx])) hw2
    have HKA := Lib.hid hkA
    have HNA : Hid (∀ b ∈ db', b ∈ db ∨ w.heap.size ≤ b) := Lib.hid fun b hb => (HN3.out b hb).imp id (Nat.le_trans hw2)
    clear hkA
    have gf3 := fun j => HG3.out.frozen j
    have hfc := fr_cells HG3.out HX.out
    have hlg3 := HG3.out.lt
    by_cases he : (DevP.err X (PoolP.fits X f.no)) = 0
    · have hne : ((DevP.err X (PoolP.fits X f.no)) != 0) = false := by simp [he]
      have HE := Lib.hid he
      clear he
      go_wp2_with fail
      go_ret
      have hg4 := grown_set (grown_refl W3 g) 513 (.bool false)
      have hS4 := fr_dirty HG3.out HX.out false
      obtain ⟨W4, hW4⟩ : ∃ W, W3.setCell ⟨g, 513, none⟩ (.bool false) = W := ⟨_, rfl⟩
      rw [hW4] at hg4 hS4 ⊢
      have hgL : g ∈ L := List.mem_of_getElem? HI.out.2
      have hnd := HI3.out.nd
      have hLd : L.Nodup := (List.nodup_append.1 (List.nodup_cons.1 hnd).2).2.1
      have hpg' : p ≠ g := hpg
      refine ⟨by first | rfl | (rw [HE.out]; rfl), ?_⟩
      show Wrote w p d lg n A m c L _ db _ _ g _
      refine ⟨db', ?_, HD3.out.grown hg4 (fun hm => ?_), HL3.out.grownO hg4 (by intro e; injection e with e; exact hlg e.symm), HNA.out, HKA.out.grown hg4 HKA.out.size (.inr (by simp))⟩
      · try rw [if_pos HE.out]
        refine ⟨HI3.out.box.grownO hg4 (by intro e; injection e with e; exact hpg e.symm), HI3.out.row.grownP ptrE_pure hg4 (fun a e h => ?_), HI3.out.frs.set HI.out.2 hLd hg4 hS4 ?_, HI3.out.nd, HI3.out.m100⟩
        · injection h with h
          have h10 := (List.nodup_append.1 (List.nodup_cons.1 hnd).2).2.2
          exact h10 a.block (by rw [e]; simp) g hgL h.symm
        · have := HI3.out.frs.ok f (List.mem_of_getElem? HI.out.1)
          exact ⟨this.x, this.no, this.p0, this.p1⟩
      · rcases HN3.out g hm with h | h
        · exact hgd h
        · omega
    · have hne : ((DevP.err X (PoolP.fits X f.no)) != 0) = true := by simpa using he
      have HE := Lib.hid he
      clear he
      go_wp2_with fail
      go_ret
      refine ⟨rfl, ?_⟩
      show Wrote w p d lg n A m c L _ db _ _ g _
      refine ⟨db', ?_, HD3.out, HL3.out, HNA.out, HKA.out⟩
      try rw [if_neg HE.out]
      exact HI3.out
end PoolW
end Go.Proofs.YtcfieofcnpalgaaGreat
end
section
namespace Go.Proofs.YtcfieofcnpalgaaGreat
open Go.RowKit
set_option linter.unusedVariables false
set_option linter.unusedSimpArgs false
namespace PoolW
attribute [local go_sem ↓] app_fold cut_fold cl_fold cp_fold
theorem own_short {w : World} {T : TypeId} {base m c k : Nat} {A : Option Addr} {L : List Nat} (h : OwnE PtrE T w base A m c L) (hk : k ≤ m) (h0 : 0 < m) : OwnE PtrE T w base A k c (L.take k) := by
  have hcap := h.elemsIn.cap
  have hlen := h.len
  obtain ⟨g, cur, vs, rfl, hg, hh, hnc, hm, hc, hx, hr, hvl⟩ := h.row (by omega)
  refine OwnE.mk' (cur := cur.toList) hg (by simpa using hh) (by omega) hm (by simpa using hc) ?_ (hr.take k) (by simp; omega)
  have hall := hr.all
  rw [flat_take (size := PtrE.size) vs hall k, ← hx, List.take_take, Nat.min_eq_left (Nat.mul_le_mul_right _ hk)]
theorem own_set {w : World} {base m c j x : Nat} {A : Option Addr} {L : List Nat} (h : OwnE PtrE 73 w base A m c L) (hj : j < m) : ∃ g, A = some ⟨g, 0, none⟩ ∧ (w.cell? ⟨g, j, none⟩).isSome = true ∧ w.frozen? ⟨g, j, none⟩ = false ∧ OwnE PtrE 73 (w.setCell ⟨g, j, none⟩ (.pointer (some ⟨x, 0, none⟩))) base A m c (L.set j x) := by
  obtain ⟨g, e, -, -, h1, h2, h3⟩ := h.write1 (P := Tryz.prog) (j := j) (i := 0) (v := .pointer (some ⟨x, 0, none⟩)) (x := x) hj (by show 0 < 1; omega) rfl (fun g vs e hr => by
    have hlen := h.len
    have hv := hr L[j] (List.getElem?_eq_getElem (by omega))
    have hv' : vs = [.pointer (some ⟨L[j], 0, none⟩)] := hv
    subst hv'
    rfl)
  rw [show j * PtrE.size + 0 = j from by show j * 1 + 0 = j; omega] at h1 h2 h3
  exact ⟨g, e, h1, h2, h3⟩
set_option maxRecDepth 100000 in
set_option maxHeartbeats 1000000 in
theorem is_any (x g b3 : Nat) (w : World) {cx cg : Array Value} (hb : Str w b3 #[.pointer (some ⟨g, 0, none⟩)]) (hx : Str w x cx) (hg : Str w g cg) :
    Calls Tryz.prog 56 #[.pointer (some ⟨x, 0, none⟩), .pointer (some ⟨b3, 0, none⟩)] w fun e w' => e = .returned (.bool (x == g)) ∧ w = w' := by
  have hq := eql_ptr hx hg
  have g0 := str1 hb
  have hl := hb.lt
  clear hx hg hb
  go_enter Tryz.func56, Tryz.ntmps56
  go_wp2
  go_ret
  exact ⟨rfl, by trivial⟩
set_option maxRecDepth 100000 in
set_option maxHeartbeats 1000000 in
theorem indexF_any (m c g b3 i : Nat) (A : Option Addr) (L : List Nat) (w : World) (h : OwnE PtrE 73 w 0 A m c L) (hm : m ≤ 100) {cg : Array Value} (hb : Str w b3 #[.pointer (some ⟨g, 0, none⟩)]) (hg : Str w g cg) (hS : ∀ x ∈ L, ∃ cs, Str w x cs) (hi : L[i]? = some g) (hd : L.Nodup) :
    Calls Tryz.prog 68 #[.slice A m c, .func (.func 56) #[] #[.pointer (some ⟨b3, 0, none⟩)]] w fun e w' => e = .returned (.int .i64 (i : Int)) ∧ w = w' := by
  have hlen := h.len
  have him : i < m := by have := (List.getElem?_eq_some_iff.1 hi).1; omega
  have H := Lib.hid h
  have HS := Lib.hid hS
  have HG := Lib.hid hg
  have HB := Lib.hid hb
  have HI := Lib.hid (And.intro hi hd)
  clear h hS hg hb hi hd
  have hcf : ∀ (x : Nat) (W : World), (callFunc 56 #[.pointer (some ⟨x, 0, none⟩), .pointer (some ⟨b3, 0, none⟩)]).run Tryz.prog W = .ok (.enter 56 #[.pointer (some ⟨x, 0, none⟩), .pointer (some ⟨b3, 0, none⟩)]) W := fun x W => enters_of Tryz.func56 (by kernel_rfl) rfl _ W
  go_enter Tryz.func68, Tryz.ntmps68
  go_wp2
  go_loopw [8] (fun iv wr => ∃ k : Nat, k ≤ i ∧ iv = .int .i64 (k : Int) ∧ wr = w) (fun iv _ => m - (intOf iv).toNat)
  case atStart => exact ⟨0, Nat.zero_le _, rfl, rfl⟩
  case round =>
    obtain ⟨k, hk, rfl, rfl⟩ := hrel
    have hlt : k < m := by omega
    have hd : decide ((k : Int) < (m : Int)) = true := by simp; omega
    obtain ⟨b, o, x, rfl, hb, hx, q0⟩ := ptr_at H.out.elems hlt
    obtain ⟨cx, hsx⟩ := HS.out x (List.mem_of_getElem? hx)
    have HX := Lib.hid hx
    have HSX := Lib.hid hsx
    clear hx hsx
    go_wp2_with fail
    refine (is_any x g b3 wr HB.out HSX.out HG.out).mono ?_
    rintro e w' ⟨rfl, rfl⟩
    by_cases he : k = i
    · subst he
      have hxg : x = g := by have := HX.out.symm.trans HI.out.1; injection this
      subst hxg
      rw [beq_self_eq_true]
      go_wp2
      go_ret
      exact ⟨rfl, by trivial⟩
    · have hxg : (x == g) = false := by
        have : x ≠ g := fun e => by
          subst e
          obtain ⟨h1, h2⟩ := List.getElem?_eq_some_iff.1 HX.out
          obtain ⟨h3, h4⟩ := List.getElem?_eq_some_iff.1 HI.out.1
          exact he ((List.getElem_inj HI.out.2).1 (h2.trans h4.symm))
        simpa using this
      rw [hxg]
      go_wp2
      go_roundw
      case rel => exact ⟨k + 1, by omega, by go_num, by trivial⟩
      case measure => simp [intOf]; omega
/-- the list when k are in their places -/
def mid (L : List Nat) (i k : Nat) : List Nat := (L.eraseIdx i).take k ++ L.drop k
theorem mid_zero {L : List Nat} {i : Nat} (hi : i < L.length) : mid L i i = L := by
  unfold mid
  rw [List.eraseIdx_eq_take_drop_succ, List.take_left' (by rw [List.length_take]; omega), List.take_append_drop]
theorem mid_get {L : List Nat} {i k : Nat} (hi : i ≤ k) (hk : k + 1 < L.length) : (mid L i k)[k + 1]? = L[k + 1]? := by
  unfold mid
  have hl : ((L.eraseIdx i).take k).length = k := by rw [List.length_take, List.length_eraseIdx_of_lt (by omega)]; omega
  rw [List.getElem?_append_right (by omega), hl, List.getElem?_drop]
  congr 1
  omega
theorem mid_set {L : List Nat} {i k x : Nat} (hi : i ≤ k) (hk : k + 1 < L.length) (hx : L[k + 1]? = some x) : (mid L i k).set k x = mid L i (k + 1) := by
  unfold mid
  have hl : ((L.eraseIdx i).take k).length = k := by rw [List.length_take, List.length_eraseIdx_of_lt (by omega)]; omega
  rw [List.set_append_right _ _ (by omega), hl, Nat.sub_self, List.drop_eq_getElem_cons (by omega : k < L.length), List.set_cons_zero]
  have h1 : (L.eraseIdx i)[k]? = some x := by rw [List.getElem?_eraseIdx_of_ge hi]; exact hx
  obtain ⟨h2, h3⟩ := List.getElem?_eq_some_iff.1 h1
  rw [List.take_succ_eq_append_getElem h2, h3, List.append_assoc]
  rfl
theorem mid_end {L : List Nat} {i : Nat} (hi : i < L.length) : (mid L i (L.length - 1)).take (L.length - 1) = L.eraseIdx i := by
  unfold mid
  have hl : ((L.eraseIdx i).take (L.length - 1)).length = L.length - 1 := by rw [List.length_take, List.length_eraseIdx_of_lt hi]; omega
  rw [List.take_left' hl, List.take_of_length_le (by rw [List.length_eraseIdx_of_lt hi]; omega)]
set_option maxRecDepth 100000 in
set_option maxHeartbeats 1000000 in
theorem deleteF_any (m c g b3 i : Nat) (A : Option Addr) (L : List Nat) (w : World) (h : OwnE PtrE 73 w 0 A m c L) (hm : m ≤ 100) {cg : Array Value} (hb : Str w b3 #[.pointer (some ⟨g, 0, none⟩)]) (hg : Str w g cg) (hS : ∀ x ∈ L, ∃ cs, Str w x cs) (hi : L[i]? = some g) (hd : L.Nodup) (hr : ∀ a, A = some a → a.block ≠ b3 ∧ a.block ∉ L) :
    Calls Tryz.prog 55 #[.slice A m c, .func (.func 56) #[] #[.pointer (some ⟨b3, 0, none⟩)]] w fun e w' => e = .returned (.slice A (m - 1) c) ∧ OwnE PtrE 73 w' 0 A (m - 1) c (L.eraseIdx i) ∧ ∃ a, A = some a ∧ w.grownBy w' (some a.block) := by
  have hlen := h.len
  have him : i < m := by have := (List.getElem?_eq_some_iff.1 hi).1; omega
  have H := Lib.hid h
  have HS := Lib.hid hS
  have HG := Lib.hid hg
  have HB := Lib.hid hb
  have HI := Lib.hid (And.intro hi hd)
  have HR := Lib.hid hr
  have hcap := h.elemsIn.cap
  have hcm := hcap.2
  have hcn := hcap.1
  unfold maxLen at hcm
  have hgL : g ∈ L := List.mem_of_getElem? hi
  have HGL := Lib.hid hgL
  clear h hS hg hb hi hd hr hcap hgL
  have hcf : ∀ (x : Nat) (W : World), (callFunc 56 #[.pointer (some ⟨x, 0, none⟩), .pointer (some ⟨b3, 0, none⟩)]).run Tryz.prog W = .ok (.enter 56 #[.pointer (some ⟨x, 0, none⟩), .pointer (some ⟨b3, 0, none⟩)]) W := fun x W => enters_of Tryz.func56 (by kernel_rfl) rfl _ W
  go_enter Tryz.func55, Tryz.ntmps55
  go_wp2_with fail
  refine (indexF_any m c g b3 i A L w H.out hm HB.out HG.out HS.out HI.out.1 HI.out.2).mono ?_
  rintro e w' ⟨rfl, rfl⟩
  have hi1 : ((i : Int) == -1) = false := by rw [beq_eq_false_iff_ne]; omega
  go_wp2
  go_loopw [5, 6] (fun iv jv wr => ∃ k : Nat, i ≤ k ∧ k + 1 ≤ m ∧ iv = .int .i64 (k : Int) ∧ jv = .int .i64 ((k : Int) + 1) ∧ Hid (OwnE PtrE 73 wr 0 A m c (mid L i k) ∧ ∀ a, A = some a → w.grownBy wr (some a.block))) (fun _ jv _ => m - (intOf jv).toNat)
  case atStart => exact ⟨i, Nat.le_refl _, by omega, rfl, rfl, Lib.hid ⟨by rw [mid_zero (by omega)]; exact H.out, fun a _ => grown_refl w _⟩⟩
  case round =>
    obtain ⟨k, hk, hk2, rfl, rfl, HK⟩ := hrel
    by_cases hlt : k + 1 < m
    · have hd : decide ((k : Int) + 1 < (m : Int)) = true := by simp; omega
      obtain ⟨b, o, x, rfl, hb, hx, q0⟩ := ptr_at HK.out.1.elems hlt
      rw [mid_get hk (by omega)] at hx
      obtain ⟨g', e', hcell, hfr, hO2⟩ := own_set (x := x) HK.out.1 (show k < m by omega)
      injection e' with e'
      injection e' with e1 e2
      subst e1 e2
      have hgb := HK.out.2 _ rfl
      obtain ⟨cx, hsx⟩ := HS.out x (List.mem_of_getElem? hx)
      have hrr := HR.out _ rfl
      have hsx' := hsx.grownO hgb (by intro e; injection e with e; exact hrr.2 (by rw [e]; exact List.mem_of_getElem? hx))
      have hsg' := HG.out.grownO hgb (by intro e; injection e with e; exact hrr.2 (by rw [e]; exact HGL.out))
      have hb3' := HB.out.grownO hgb (by intro e; injection e with e; exact hrr.1 e)
      rw [mid_set hk (by omega) hx] at hO2
      obtain ⟨v0, hv0⟩ := Option.isSome_iff_exists.1 hcell
      clear hcell
      have HX := Lib.hid hx
      have HSX := Lib.hid hsx'
      have HSG := Lib.hid hsg'
      have HB3 := Lib.hid hb3'
      have HO2 := Lib.hid hO2
      have HGB := Lib.hid hgb
      have hxg : (x == g) = false := by
        have : x ≠ g := fun e => by
          subst e
          obtain ⟨h1, h2⟩ := List.getElem?_eq_some_iff.1 HX.out
          obtain ⟨h3, h4⟩ := List.getElem?_eq_some_iff.1 HI.out.1
          have := (List.getElem_inj HI.out.2).1 (h2.trans h4.symm)
          omega
        simpa using this
      rw [Nat.zero_add] at q0
      have htn : ((k : Int) + 1).toNat = k + 1 := by omega
      clear hx hsx hsx' hsg' hb3' hO2 hgb hrr
      go_wp2_with fail
      refine (is_any x g b3 wr HB3.out HSX.out HSG.out).mono ?_
      rintro e w' ⟨rfl, rfl⟩
      rw [hxg]
      go_wp2
      go_roundw
      case rel => exact ⟨k + 1, by omega, by omega, by go_num, by go_num, Lib.hid ⟨HO2.out, fun a e => by cases e; exact grown_set HGB.out k _⟩⟩
      case measure => simp [intOf]; omega
    · have hd : decide ((k : Int) + 1 < (m : Int)) = false := by simp; omega
      obtain rfl : k = m - 1 := by omega
      obtain ⟨i0, hi, hz0, hz1, hz2⟩ := info_parts infoPF
      have hO := own_short HK.out.1 (show m - 1 ≤ m by omega) (by omega)
      rw [← hlen, mid_end (by omega), hlen] at hO
      obtain ⟨g', w2, e, hrun2, hO2, hg2, hs2⟩ := hO.wipe (P := Tryz.prog) 70 0 i0 _ Tryz.underlying70 hi hz0 rfl (by intro v hv; simp only [Value.cells, List.mem_cons, List.not_mem_nil, or_false] at hv; subst hv; rfl) (by omega) (m - (m - 1)) (by omega)
      subst e
      rw [show PtrE.size = 1 from rfl] at hrun2
      have HO2 := Lib.hid hO2
      have HG2 : Hid (w.grownBy w2 (some g')) := Lib.hid ((HK.out.2 _ rfl).trans hg2)
      have hmm : ((m - 1 : Nat) : Int) ≤ (m : Int) := by omega
      have hmc : ((m - 1 : Nat) : Int) ≤ (c : Int) := by omega
      have htn : (((m - 1 : Nat) : Int)).toNat = m - 1 := by omega
      clear hO hO2 hg2 hi hz0 hz1 hz2
      go_wp2
      go_ret
      have hcz : cutA (some ⟨g', 0, none⟩) 0 c 1 = some ⟨g', 0, none⟩ := by unfold cutA; split <;> simp [add_none]
      exact ⟨by rw [hcz]; rfl, HO2.out, _, rfl, HG2.out⟩
end PoolW
end Go.Proofs.YtcfieofcnpalgaaGreat
end
