/-
  Parts of the proof of PoolAhead.
-/
import Derived.Test.YtcfieofcnpalgaaGreatAhG20
import Derived.Test.YtcfieofcnpalgaaGreatAhG11
section
namespace Go.Proofs.YtcfieofcnpalgaaGreat
open Go.RowKit
set_option linter.unusedVariables false
set_option linter.unusedSimpArgs false
namespace PoolW
section
variable {w : World} {p d lg m c : Nat} {n far : Int} {A : Option Addr} {L db : List Nat} {F : List Fr} {X : DevX}
theorem In.nodup (h : In w p d lg n A m c L F) : L.Nodup := (List.nodup_append.1 (List.nodup_cons.1 h.nd).2).2.1
theorem In.off (h : In w p d lg n A m c L F) : p ∉ (A.map (·.block)).toList := fun hm => (List.nodup_cons.1 h.nd).1 (List.mem_append.2 (.inl hm))
theorem In.cells (h : In w p d lg n A m c L F) : ∀ x ∈ L, ∃ cs, Str w x cs := fun x hx => by
  obtain ⟨q, hq⟩ := List.getElem?_of_mem hx
  obtain ⟨fq, hfq⟩ : ∃ fq, F[q]? = some fq := ⟨_, List.getElem?_eq_getElem (by rw [← h.frs.len]; exact (List.getElem?_eq_some_iff.1 hq).1)⟩
  exact ⟨_, h.frs.str q x fq hq hfq⟩
theorem use_nodup {L : List Nat} {i g : Nat} (h : L.Nodup) (hg : L[i]? = some g) : (L.eraseIdx i ++ [g]).Nodup := by
  refine List.nodup_append.2 ⟨List.Nodup.sublist (List.eraseIdx_sublist L i) h, by simp, fun a ha b hb e => ?_⟩
  simp only [List.mem_singleton] at hb
  subst hb e
  obtain ⟨q, hq⟩ := List.getElem?_of_mem ha
  rw [List.getElem?_eraseIdx] at hq
  obtain ⟨k1, k2⟩ := List.getElem?_eq_some_iff.1 hg
  split at hq
  · obtain ⟨k3, k4⟩ := List.getElem?_eq_some_iff.1 hq
    have := (List.getElem_inj h).1 (k2.trans k4.symm)
    omega
  · obtain ⟨k3, k4⟩ := List.getElem?_eq_some_iff.1 hq
    have := (List.getElem_inj h).1 (k2.trans k4.symm)
    omega
theorem Gone.step {W0 W1 w' : World} {bs b1 : List Nat} {S' : PoolX} (hn : ∀ b ∈ b1, b ∈ bs ∨ W0.heap.size ≤ b) (hk : Reg.KeepB W0.heap.size bs W0 W1) (h : Gone W1 p d lg b1 S' w') : Gone W0 p d lg bs S' w' := by
  obtain ⟨b2, hP2, hn2, hk2⟩ := h
  have hsz := hk.size
  refine ⟨b2, hP2, fun b hb => ?_, ?_⟩
  · rcases hn2 b hb with h | h
    · exact hn b h
    · exact .inr (by omega)
  · refine ⟨hk2.os.trans hk.os, hk2.tape.trans hk.tape, hk2.output.trans hk.output, Nat.le_trans hk.size hk2.size, fun i hi hb => ?_⟩
    refine (hk2.block i (by omega) (fun hm => ?_)).trans (hk.block i hi hb)
    rcases hn i hm with h | h
    · exact hb h
    · omega
theorem read_len {w : World} {d : Nat} {bs : List Nat} {X : DevX} (hD : DevW.Dev w d bs X) (no : Int) (fits : Bool) : (DevP.read X no fits).length = 512 := by
  unfold DevP.read
  split
  · cases hg : X.now[no.toNat]? with
    | none => exact SlotPut.zeros_len 512
    | some q => exact hD.ok.w1 q (List.mem_of_getElem? hg)
  · exact SlotPut.zeros_len 512
theorem use_at (h1 : In w p d lg n A m c L F) (h2 : DevW.Dev w d db X) (h3 : Str w lg #[.int .i64 far]) (h4 : (blocks p lg A L db).Nodup) (i g : Nat) (f : Fr) (hg : L[i]? = some g) (hf : F[i]? = some f) :
    Calls Tryz.prog 33 #[.pointer (some ⟨p, 0, none⟩), .pointer (some ⟨g, 0, none⟩)] w fun e w' => e = .returned (.tuple #[]) ∧ Gone w p d lg (blocks p lg A L db) ⟨X, far, n, PoolP.use F i f⟩ w' ∧ Str w' g (frC f) := by
  obtain ⟨g', hg', hs, hok⟩ := h1.frs.get hf
  rw [hg] at hg'
  cases hg'
  have hgL : g ∈ L := List.mem_of_getElem? hg
  refine (use_in p d lg m c g n A L w h1.box h1.row h1.off h1.m100 hs h1.cells i hg h1.nodup).mono ?_
  rintro e W1 ⟨rfl, hU⟩
  have hF' : Frs w (L.eraseIdx i ++ [g]) (PoolP.use F i f) := (h1.frs.erase i).snoc hs hok
  obtain ⟨A1, hP1, hn1, hk1⟩ := Pool.used h1 h2 h3 h4 hU hF' (fun b hb => .inl (by rcases List.mem_append.1 hb with h | h; exact List.mem_of_mem_eraseIdx h; simp at h; rw [h]; exact hgL)) (use_nodup h1.nodup hg) h1.m100
  obtain ⟨A', c', hB, hR, hA, hkU⟩ := hU
  refine ⟨rfl, ⟨_, hP1, fun b hb => ?_, hk1⟩, hs.keepB hkU ?_⟩
  · rcases hn1 b hb with h | h | h
    · exact .inl h
    · refine .inl (mem_blocks.2 (.inr (.inr (.inr (.inl ?_)))))
      rcases List.mem_append.1 h with h | h
      · exact List.mem_of_mem_eraseIdx h
      · simp at h; rw [h]; exact hgL
    · exact .inr h
  · have hnd := List.nodup_cons.1 h1.nd
    intro hm
    rcases List.mem_cons.1 hm with h | h
    · subst h; exact hnd.1 (List.mem_append.2 (.inr hgL))
    · exact (List.nodup_append.1 hnd.2).2.2 g h g hgL rfl
theorem use_fresh {W0 : World} (h1 : In w p d lg n A m c L F) (h2 : DevW.Dev w d db X) (h3 : Str w lg #[.int .i64 far]) (h4 : (blocks p lg A L db).Nodup) (g : Nat) (f : Fr) (hs : Str w g (frC f)) (hok : FrOk f) (hb : Below W0.heap.size W0 w) (hlt : ∀ b ∈ blocks p lg A L db, b < W0.heap.size) (hg : W0.heap.size ≤ g) (hm : m + 1 ≤ 100) :
    Calls Tryz.prog 33 #[.pointer (some ⟨p, 0, none⟩), .pointer (some ⟨g, 0, none⟩)] w fun e w' => e = .returned (.tuple #[]) ∧ Gone W0 p d lg (blocks p lg A L db) ⟨X, far, n, F ++ [f]⟩ w' := by
  have hgb : g ∉ blocks p lg A L db := fun hm => by have := hlt g hm; omega
  have hgL : g ∉ L := fun hm => hgb (mem_blocks.2 (.inr (.inr (.inr (.inl hm)))))
  refine (use_new p d lg m c g n A L w h1.box h1.row h1.off h1.m100 hs h1.cells hgL).mono ?_
  rintro e W1 ⟨rfl, hU⟩
  have hF' : Frs w (L ++ [g]) (F ++ [f]) := h1.frs.snoc hs hok
  have hd' : (L ++ [g]).Nodup := List.nodup_append.2 ⟨h1.nodup, by simp, fun a ha b hb e => by simp at hb; subst hb e; exact hgL ha⟩
  obtain ⟨A1, hP1, hn1, hk1⟩ := Pool.used h1 h2 h3 h4 hU hF' (fun b hb => by rcases List.mem_append.1 hb with h | h; exact .inl h; simp at h; subst h; exact .inr hgb) hd' hm
  have hsz := hb.size
  refine ⟨rfl, _, hP1, fun b hb => ?_, (Reg.KeepB.of hb).trans hk1 hsz⟩
  rcases hn1 b hb with h | h | h
  · exact .inl h
  · rcases List.mem_append.1 h with h | h
    · exact .inl (mem_blocks.2 (.inr (.inr (.inr (.inl h)))))
    · simp at h; rw [h]; exact .inr hg
  · exact .inr (by omega)
end
end PoolW
end Go.Proofs.YtcfieofcnpalgaaGreat
end
section
namespace Go.Proofs.YtcfieofcnpalgaaGreat
open Go.RowKit
set_option linter.unusedVariables false
set_option linter.unusedSimpArgs false
namespace PoolW
theorem bdFr_fold (ps : Array (Nat × Value)) : Instr.build 77 ps = bdSem 77 ps := rfl
theorem frZ_size : frZ.size = 515 := by kernel_rfl
theorem fr_build (ps : List (Nat × Value)) (w : World) : (Instr.build 77 ps.toArray).run Tryz.prog w = ((match Instr.fill ((#[(0, 1), (1, 512), (513, 1), (514, 1)] : Array (Nat × Nat))[·]?) frZ ps with
    | some cells => pure (.agg cells)
    | none => stuck "build: no such field, or a part of the wrong size") : Sem Value).run Tryz.prog w := by
  obtain ⟨hz, _⟩ := zero_of_info infoFr
  unfold Instr.build
  simp only [Sem.run_bind, hz, Result.andThen_ok, run_underlying Tryz.underlying77]
  refine (DevW.then_of (w := w) (a := (#[(0, 1), (1, 512), (513, 1), (514, 1)] : Array (Nat × Nat))) _ (by kernel_rfl)).trans ?_
  rw [show (Value.agg frZ).cells = frZ from rfl]
  show Sem.run _ _ _ = _
  generalize Instr.fill (fun x => (#[(0, 1), (1, 512), (513, 1), (514, 1)] : Array (Nat × Nat))[x]?) frZ ps = r
  cases r <;> rfl
theorem fr_bd0 (n : Int) (w : World) : (bdSem 77 #[(0, .int .i64 n)]).run Tryz.prog w = .ok (.agg (frC ⟨n, SlotP.zeros 512, false, 0⟩)) w := by kernel_rfl
theorem fr_bd1 (n : Int) (l : List UInt8) (hl : l.length = 512) (w : World) : (bdSem 77 #[(0, .int .i64 n), (1, .agg (rowV l))]).run Tryz.prog w = .ok (.agg (frC ⟨n, l, false, 0⟩)) w := by
  unfold bdSem
  rw [show (#[(0, .int .i64 n), (1, .agg (rowV l))] : Array (Nat × Value)) = [(0, .int .i64 n), (1, .agg (rowV l))].toArray from rfl, fr_build]
  have hz : (SlotP.zeros 512).length = 512 := List.length_replicate
  have hs : (rowV l).size = 512 := by rw [rowV_size, hl]
  have hsz : (frC ⟨n, SlotP.zeros 512, false, 0⟩).size = 515 := frC_size hz
  have hf2 : ((rowV l).zipIdx.foldl (fun cs (p : Value × Nat) => cs.setIfInBounds (1 + p.2) p.1) (frC ⟨n, SlotP.zeros 512, false, 0⟩)) = frC ⟨n, l, false, 0⟩ := by
    apply Array.ext'
    have h3 := DevW.foldl_set 1 (l.map byteV) 0 (frC ⟨n, SlotP.zeros 512, false, 0⟩) (by rw [hsz]; simp [hl])
    have h4 : (rowV l).zipIdx.toList = (l.map byteV).zipIdx 0 := by simp [rowV]
    rw [← Array.foldl_toList, h4, h3]
    simp [splice, frC, hl, hz]
  have hz1 : frZ.setIfInBounds 0 (.int .i64 n) = frC ⟨n, SlotP.zeros 512, false, 0⟩ := by kernel_rfl
  have e1 : Instr.fill ((#[(0, 1), (1, 512), (513, 1), (514, 1)] : Array (Nat × Nat))[·]?) frZ [(0, .int .i64 n), (1, .agg (rowV l))] = some (frC ⟨n, l, false, 0⟩) := by
    have s0 : frZ.size = 515 := frZ_size
    simp [Instr.fill, Value.cells, hs, s0, hz1, hsz]
    have hz2 : (rowV l).zipIdx.size = 512 := by simp [hs]
    have hf3 := hf2
    rw [hz2] at hf3
    exact hf3
  rw [e1]
  rfl
/-- a frame's page is stored -/
theorem st_x {w : World} {g : Nat} {f : Fr} {x : List UInt8} (hs : Str w g (frC f)) (hf : f.x.length = 512) (hx : x.length = 512) :
    ∃ W, (stSem 42 (.pointer (some ⟨g, 1, none⟩)) (.agg (rowV x))).run Tryz.prog w = .ok () W ∧ Str W g (frC { f with x := x }) ∧ w.grownBy W (some g) := by
  refine ⟨w.setCells g 1 (rowV x).toList, ?_, ?_, grown_setCells g _ _ w w (grown_refl w _)⟩
  · unfold stSem
    refine run_storeAt_mid w g 1 42 (rowV x) (fun j hj => ?_) ?_ (rowV_one x)
    · rw [rowV_size, hx] at hj
      refine ⟨?_, hs.frozen _⟩
      rw [hs.cell, frC_x hf hj, List.getElem?_eq_getElem (by omega)]
      rfl
    · rw [rowV_size, hx]; exact arrPage.size
  · obtain ⟨t, ht⟩ := hs
    refine ⟨t, ?_⟩
    rw [setCells_heap g _ _ w _ t ht (by rw [frC_size hf]; simp [rowV, hx])]
    congr 2
    apply Array.ext'
    simp [frC, rowV, splice, hf, hx]
theorem fr_pins {w : World} {b : Nat} {f : Fr} (hs : Str w b (frC f)) (hx : f.x.length = 512) (v : Int) : Str (w.setCell ⟨b, 514, none⟩ (.int .i64 v)) b (frC { f with pins := v }) := by
  have h := hs.set 514 (.int .i64 v)
  have e : (frC f).setIfInBounds 514 (.int .i64 v) = frC { f with pins := v } := by
    unfold frC
    apply Array.ext'
    rw [Array.toList_setIfInBounds]
    show (([Value.int .i64 f.no] : List Value) ++ f.x.map byteV ++ ([.bool f.dirty, .int .i64 f.pins] : List Value)).set 514 (.int .i64 v) = _
    rw [List.set_append_right _ _ (by simp [hx])]
    simp [hx]
  rwa [e] at h
section
variable {w W : World} {p d lg m c i g : Nat} {n far : Int} {A : Option Addr} {L db : List Nat} {F : List Fr} {X : DevX} {f : Fr}
/-- a frame of the pool turns -/
theorem put_frame (h1 : In w p d lg n A m c L F) (h2 : DevW.Dev w d db X) (h3 : Str w lg #[.int .i64 far]) (h4 : (blocks p lg A L db).Nodup) (hi : L[i]? = some g) (hg : w.grownBy W (some g)) (hs : Str W g (frC f)) (ho : FrOk f) :
    In W p d lg n A m c L (F.set i f) ∧ DevW.Dev W d db X ∧ Str W lg #[.int .i64 far] ∧ Reg.KeepB w.heap.size (blocks p lg A L db) w W := by
  have hgL : g ∈ L := List.mem_of_getElem? hi
  have hnd := List.nodup_cons.1 h1.nd
  have hp := blk_pool h4
  have hgm : g ∈ p :: ((A.map (·.block)).toList ++ L) := by simp [hgL]
  refine ⟨⟨h1.box.grownO hg (by intro e; injection e with e; subst e; exact hnd.1 (List.mem_append.2 (.inr hgL))), h1.row.grownP ptrE_pure hg (fun a e h => ?_), h1.frs.set hi h1.nodup hg hs ho, h1.nd, h1.m100⟩, h2.grown hg (hp g hgm).2, h3.grownO hg (by intro e; injection e with e; exact (hp g hgm).1 e), (Reg.KeepB.of (Below.refl _ _)).grown hg (Nat.le_refl _) (.inr (mem_blocks.2 (.inr (.inr (.inr (.inl hgL))))))⟩
  injection h with h
  exact (List.nodup_append.1 hnd.2).2.2 a.block (by rw [e]; simp) g hgL h.symm
theorem use_set {F : List Fr} {i : Nat} {f : Fr} : PoolP.use (F.set i f) i f = F.eraseIdx i ++ [f] := by unfold PoolP.use; rw [List.eraseIdx_set_eq]
/-- a frame turned, and was used -/
theorem use_put {W0 w : World} {bs : List Nat} (h1 : In w p d lg n A m c L F) (h2 : DevW.Dev w d db X) (h3 : Str w lg #[.int .i64 far]) (h4 : (blocks p lg A L db).Nodup) (hi : L[i]? = some g) (hf : i < F.length) (hg : w.grownBy W (some g)) (hs : Str W g (frC f)) (ho : FrOk f) (hn : ∀ b ∈ blocks p lg A L db, b ∈ bs ∨ W0.heap.size ≤ b) (hk : Reg.KeepB W0.heap.size bs W0 w) :
    Calls Tryz.prog 33 #[.pointer (some ⟨p, 0, none⟩), .pointer (some ⟨g, 0, none⟩)] W fun e w' => e = .returned (.tuple #[]) ∧ Gone W0 p d lg bs ⟨X, far, n, F.eraseIdx i ++ [f]⟩ w' := by
  obtain ⟨q1, q2, q3, q4⟩ := put_frame h1 h2 h3 h4 hi hg hs ho
  refine (use_at q1 q2 q3 h4 i g f hi (by rw [List.getElem?_set_self hf])).mono ?_
  rintro e w' ⟨rfl, h, -⟩
  rw [use_set] at h
  exact ⟨rfl, Gone.step hn hk (Gone.step (fun b hb => .inl hb) q4 h)⟩
end
end PoolW
end Go.Proofs.YtcfieofcnpalgaaGreat
end
section
namespace Go.Proofs.YtcfieofcnpalgaaGreat
open Go.RowKit
set_option linter.unusedVariables false
set_option linter.unusedSimpArgs false
namespace PoolW
attribute [local go_sem ↓] alPage_fold ldPage_fold stPage_fold bdPage_fold bdFr_fold
set_option maxRecDepth 100000 in
set_option maxHeartbeats 4000000 in
theorem get_in (p d lg : Nat) (bs : List Nat) (S : PoolX) (no : Int) (w : World) (h : Pool w p d lg bs S) (i : Nat) (f : Fr) (hi : PoolP.find S.fs no = some i) (hf : S.fs[i]? = some f) :
    Calls Tryz.prog 8 #[.pointer (some ⟨p, 0, none⟩), .int .i64 no] w (Told w p d lg bs { S with fs := PoolP.use S.fs i f } (.tuple #[.agg (rowV f.x), .int .i64 0])) := by
  have hal := fun W => run_al (P := Tryz.prog) arrPage W
  have HZ := Lib.hid (SlotPut.zeros_len 512)
  have HBL := Lib.hid h.lt
  obtain ⟨W0, hW0⟩ : ∃ W0, w.alloc (.cells (rowV (SlotP.zeros 512)) 42) = W0 := ⟨_, rfl⟩
  have hb0 : Below w.heap.size w W0 := by rw [← hW0]; exact balloc (bsame w) _
  have hS0 : Str W0 w.heap.size (rowV (SlotP.zeros 512)) := by rw [← hW0]; exact Str.new _ _ _
  have HP0 := Lib.hid (h.next hb0)
  have HB0 := Lib.hid hb0
  have HS0 := Lib.hid hS0
  have hl0 := hS0.lt
  clear hb0 hS0 h
  obtain ⟨A, m, c, L, db, h1, h2, h3, h4, rfl⟩ := HP0.out
  have HI := Lib.hid h1
  have HD := Lib.hid h2
  have HL := Lib.hid h3
  have HN := Lib.hid h4
  have hm := h1.m100
  have hoff : ∀ q ∈ blocks p lg A L db, q ≠ w.heap.size := fun q hq => by have := HBL.out q hq; omega
  have HOFF := Lib.hid hoff
  clear h1 h2 h3 h4 hoff
  go_enter Tryz.func8, Tryz.ntmps8
  go_wp2_with fail
  refine (find_any p d lg m c S.n A L S.fs no W0 HI.out).mono ?_
  rintro e w' ⟨rfl, rfl⟩
  obtain ⟨g, hg, hsg, hok⟩ := HI.out.frs.get hf
  rw [hi]
  simp only [Option.bind_some, hg, Option.map_some]
  have HG := Lib.hid hg
  have HSG := Lib.hid hsg
  have HOK := Lib.hid hok
  have HF := Lib.hid hf
  clear hg hsg hok hf hi
  go_wp2_with fail
  refine (use_at HI.out HD.out HL.out HN.out i g f HG.out HF.out).mono ?_
  rintro e W1 ⟨rfl, hGo, hG1⟩
  have hGo' := hGo
  obtain ⟨b1, hP1, hn1, hk1⟩ := hGo'
  have HZW1 := Lib.hid (HS0.out.keepB hk1 (fun hm => HOFF.out _ hm rfl))
  have HGO := Lib.hid hGo
  have hld := ld_x hG1 HOK.out.x
  have hlg := hG1.lt
  clear hGo hP1 hn1 hk1
  have hstF := run_st (P := Tryz.prog) arrPage HZW1.out (by rw [rowV_size]; exact HZ.out) (HOK.out.x)
  have HSF := HZW1.out.setRow (cs' := rowV f.x)
  have hgF : W1.grownBy (W1.setRow w.heap.size (rowV f.x)) (some w.heap.size) := grown_setRow W1 w.heap.size _
  have HGF := Lib.hid hgF
  have HSFF := Lib.hid HSF
  clear hgF HSF
  go_wp2_with fail
  exact bodyPost_ret (v := .tuple #[.agg (rowV f.x), .int .i64 0]) (DevW.results_page Tryz.results8 _ HSFF.out (HOK.out.x) rfl) rfl ((Gone.turn HGO.out HGF.out hl0 (fun hm => HOFF.out _ hm rfl) HB0.out (Nat.le_refl _)).told (by rfl))
set_option maxRecDepth 100000 in
set_option maxHeartbeats 4000000 in
theorem get_full (p d lg : Nat) (bs : List Nat) (S : PoolX) (no : Int) (w : World) (h : Pool w p d lg bs S) (hi : PoolP.find S.fs no = none) (hs : DevP.Small S.D) (he : ¬ (PoolP.free S).2 = 0) :
    Calls Tryz.prog 8 #[.pointer (some ⟨p, 0, none⟩), .int .i64 no] w (Told w p d lg bs (PoolP.free S).1 (.tuple #[.agg (rowV (SlotP.zeros 512)), .int .i64 (PoolP.free S).2])) := by
  have hal := fun W => run_al (P := Tryz.prog) arrPage W
  have HZ := Lib.hid (SlotPut.zeros_len 512)
  have HBL := Lib.hid h.lt
  have HFN := Lib.hid hi
  have HSM := Lib.hid hs
  clear hi hs
  have hbd := fun W => run_bd (P := Tryz.prog) arrPage W
  obtain ⟨W0, hW0⟩ : ∃ W0, w.alloc (.cells (rowV (SlotP.zeros 512)) 42) = W0 := ⟨_, rfl⟩
  have hb0 : Below w.heap.size w W0 := by rw [← hW0]; exact balloc (bsame w) _
  have hS0 : Str W0 w.heap.size (rowV (SlotP.zeros 512)) := by rw [← hW0]; exact Str.new _ _ _
  have HP0 := Lib.hid (h.next hb0)
  have HB0 := Lib.hid hb0
  have HS0 := Lib.hid hS0
  have hl0 := hS0.lt
  clear hb0 hS0 h
  obtain ⟨A, m, c, L, db, h1, h2, h3, h4, rfl⟩ := HP0.out
  have HI := Lib.hid h1
  have HD := Lib.hid h2
  have HL := Lib.hid h3
  have HN := Lib.hid h4
  have hm := h1.m100
  have hoff : ∀ q ∈ blocks p lg A L db, q ≠ w.heap.size := fun q hq => by have := HBL.out q hq; omega
  have HOFF := Lib.hid hoff
  clear h1 h2 h3 h4 hoff
  go_enter Tryz.func8, Tryz.ntmps8
  go_wp2_with fail
  refine (find_any p d lg m c S.n A L S.fs no W0 HI.out).mono ?_
  rintro e w' ⟨rfl, rfl⟩
  rw [HFN.out]
  simp only [Option.bind_none]
  go_wp2_with fail
  refine (free_any p d lg _ S W0 HP0.out HSM.out).mono ?_
  rintro e W1 ⟨rfl, b1, hP1, hn1, hk1⟩
  have HZW1 := Lib.hid (HS0.out.keepB hk1 (fun hm => HOFF.out _ hm rfl))
  have HGO1 : Hid (Gone W0 p d lg (blocks p lg A L db) (PoolP.free S).1 W1) := Lib.hid ⟨b1, hP1, hn1, hk1⟩
  have hne : ((PoolP.free S).2 != 0) = true := by simpa using he
  have HGO := HGO1
  generalize hX : (PoolP.free S).1 = S1 at *
  generalize hY : (PoolP.free S).2 = e1 at *
  clear he hX hY hP1 hn1 hk1
  have hstF := run_st (P := Tryz.prog) arrPage HZW1.out (by rw [rowV_size]; exact HZ.out) (HZ.out)
  have HSF := HZW1.out.setRow (cs' := rowV (SlotP.zeros 512))
  have hgF : W1.grownBy (W1.setRow w.heap.size (rowV (SlotP.zeros 512))) (some w.heap.size) := grown_setRow W1 w.heap.size _
  have HGF := Lib.hid hgF
  have HSFF := Lib.hid HSF
  clear hgF HSF
  go_wp2_with fail
  exact bodyPost_ret (v := .tuple #[.agg (rowV (SlotP.zeros 512)), .int .i64 e1]) (DevW.results_page Tryz.results8 _ HSFF.out (HZ.out) rfl) rfl ((Gone.turn HGO.out HGF.out hl0 (fun hm => HOFF.out _ hm rfl) HB0.out (Nat.le_refl _)).told (by rfl))
set_option maxRecDepth 100000 in
set_option maxHeartbeats 4000000 in
theorem get_errs (p d lg : Nat) (bs : List Nat) (S : PoolX) (no : Int) (w : World) (h : Pool w p d lg bs S) (hi : PoolP.find S.fs no = none) (hs : DevP.Small S.D) (he : (PoolP.free S).2 = 0) (hs1 : (PoolP.free S).1.D.ops ≤ 1000000000) (hno : In64 no) (hcs : ¬ DevP.err (PoolP.free S).1.D (PoolP.fits (PoolP.free S).1.D no) = 0) :
    Calls Tryz.prog 8 #[.pointer (some ⟨p, 0, none⟩), .int .i64 no] w (Told w p d lg bs (PoolP.read (PoolP.free S).1 no) (.tuple #[.agg (rowV (SlotP.zeros 512)), .int .i64 (DevP.err (PoolP.free S).1.D (PoolP.fits (PoolP.free S).1.D no))])) := by
  have hal := fun W => run_al (P := Tryz.prog) arrPage W
  have HZ := Lib.hid (SlotPut.zeros_len 512)
  have HBL := Lib.hid h.lt
  have HFN := Lib.hid hi
  have HSM := Lib.hid hs
  clear hi hs
  have hbd := fun W => run_bd (P := Tryz.prog) arrPage W
  obtain ⟨W0, hW0⟩ : ∃ W0, w.alloc (.cells (rowV (SlotP.zeros 512)) 42) = W0 := ⟨_, rfl⟩
  have hb0 : Below w.heap.size w W0 := by rw [← hW0]; exact balloc (bsame w) _
  have hS0 : Str W0 w.heap.size (rowV (SlotP.zeros 512)) := by rw [← hW0]; exact Str.new _ _ _
  have HP0 := Lib.hid (h.next hb0)
  have HB0 := Lib.hid hb0
  have HS0 := Lib.hid hS0
  have hl0 := hS0.lt
  clear hb0 hS0 h
  obtain ⟨A, m, c, L, db, h1, h2, h3, h4, rfl⟩ := HP0.out
  have HI := Lib.hid h1
  have HD := Lib.hid h2
  have HL := Lib.hid h3
  have HN := Lib.hid h4
  have hm := h1.m100
  have hoff : ∀ q ∈ blocks p lg A L db, q ≠ w.heap.size := fun q hq => by have := HBL.out q hq; omega
  have HOFF := Lib.hid hoff
  clear h1 h2 h3 h4 hoff
  go_enter Tryz.func8, Tryz.ntmps8
  go_wp2_with fail
  refine (find_any p d lg m c S.n A L S.fs no W0 HI.out).mono ?_
  rintro e w' ⟨rfl, rfl⟩
  rw [HFN.out]
  simp only [Option.bind_none]
  go_wp2_with fail
  refine (free_any p d lg _ S W0 HP0.out HSM.out).mono ?_
  rintro e W1 ⟨rfl, b1, hP1, hn1, hk1⟩
  have HZW1 := Lib.hid (HS0.out.keepB hk1 (fun hm => HOFF.out _ hm rfl))
  have HGO1 : Hid (Gone W0 p d lg (blocks p lg A L db) (PoolP.free S).1 W1) := Lib.hid ⟨b1, hP1, hn1, hk1⟩
  rw [he]
  have HS1 := Lib.hid hs1
  have HCS := Lib.hid hcs
  generalize hX : (PoolP.free S).1 = S1 at *
  clear hX he hs1 hcs
  have HB1L := Lib.hid hP1.lt
  obtain ⟨A1, m1, c1, L1, db1, q1, q2, q3, q4, rfl⟩ := hP1
  have HI1 := Lib.hid q1
  have HD1 := Lib.hid q2
  have HL1 := Lib.hid q3
  have HN1 := Lib.hid q4
  have HNN := Lib.hid hn1
  have HKK := Lib.hid hk1
  have g1 := str4 (show Str W1 p #[.pointer (some ⟨d, 0, none⟩), .iface 32 (.pointer (some ⟨lg, 0, none⟩)), .int .i64 S1.n, .slice A1 m1 c1] from q1.box)
  have hlp := q1.box.lt
  clear q1 q2 q3 q4 hn1 hk1
  go_wp2_with fail
  refine (DevW.Read_any no W1 HD1.out HS1.out).mono ?_
  rintro e W2 ⟨rfl, hT⟩
  have hG2 : Gone W1 p d lg (blocks p lg A1 L1 db1) (PoolP.read S1 no) W2 := Pool.dev HI1.out HD1.out HL1.out HN1.out hT
  obtain ⟨b2, hP2, hn2, hk2⟩ := hG2
  have hzo : w.heap.size ∉ blocks p lg A1 L1 db1 := fun hm => by
    rcases HNN.out _ hm with h | h
    · exact HOFF.out _ h rfl
    · omega
  have hlW1 := HZW1.out.lt
  have hxl : (PoolP.got S1 no).length = 512 := read_len HD1.out no _
  rw [show DevP.read S1.D no (DevW.fitsN S1.D no) = PoolP.got S1 no from rfl, show DevP.err S1.D (DevW.fitsN S1.D no) = DevP.err S1.D (PoolP.fits S1.D no) from rfl]
  have HX := Lib.hid hxl
  obtain ⟨W3, hW3⟩ : ∃ W, (W2.alloc (.cells (rowV (SlotP.zeros 512)) 42)).setRow W2.heap.size (rowV (PoolP.got S1 no)) = W := ⟨_, rfl⟩
  have hst3 := run_st (P := Tryz.prog) arrPage (Str.new W2 (rowV (SlotP.zeros 512)) 42) (by rw [rowV_size]; exact HZ.out) hxl
  rw [hW3] at hst3
  have hb3 : Below W2.heap.size W2 W3 := by rw [← hW3]; exact below_setRow (balloc (bsame _) _) (Nat.le_refl _) _
  have hB3 : Str W3 W2.heap.size (rowV (PoolP.got S1 no)) := by rw [← hW3]; exact (Str.new _ _ _).setRow
  have hk3 := hk2.step hb3 hk2.size
  have HP3 := Lib.hid (hP2.next hb3)
  have HBX3 := Lib.hid hB3
  have HN2 := Lib.hid hn2
  have HK3 := Lib.hid hk3
  have HZW3 := Lib.hid (HZW1.out.keepB hk3 hzo)
  have HLT2 := Lib.hid hP2.lt
  have hl2 := hk2.size
  have hl3 := hb3.size
  have hlb := hB3.lt
  have hld := run_ld (P := Tryz.prog) arrPage hB3 hxl
  clear hW3 hT hP2 hn2 hk2 hb3 hB3 hk3 g1 hlp hxl
  have hne : ((DevP.err S1.D (PoolP.fits S1.D no)) != 0) = true := by simpa using HCS.out
  have hstF := run_st (P := Tryz.prog) arrPage HZW3.out (by rw [rowV_size]; exact HZ.out) (HZ.out)
  have HSF := HZW3.out.setRow (cs' := rowV (SlotP.zeros 512))
  have hgF : W3.grownBy (W3.setRow w.heap.size (rowV (SlotP.zeros 512))) (some w.heap.size) := grown_setRow W3 w.heap.size _
  have HGF := Lib.hid hgF
  have HSFF := Lib.hid HSF
  clear hgF HSF
  go_wp2_with fail
  exact bodyPost_ret (v := .tuple #[.agg (rowV (SlotP.zeros 512)), .int .i64 (DevP.err S1.D (PoolP.fits S1.D no))]) (DevW.results_page Tryz.results8 _ HSFF.out (HZ.out) rfl) rfl ((Gone.turn (Gone.step HNN.out HKK.out ⟨b2, HP3.out, HN2.out, HK3.out⟩) HGF.out hl0 (fun hm => HOFF.out _ hm rfl) HB0.out (Nat.le_refl _)).told (by rfl))
set_option maxRecDepth 100000 in
set_option maxHeartbeats 4000000 in
theorem get_bad (p d lg : Nat) (bs : List Nat) (S : PoolX) (no : Int) (w : World) (h : Pool w p d lg bs S) (hi : PoolP.find S.fs no = none) (hs : DevP.Small S.D) (he : (PoolP.free S).2 = 0) (hs1 : (PoolP.free S).1.D.ops ≤ 1000000000) (hno : In64 no) (hcs : DevP.err (PoolP.free S).1.D (PoolP.fits (PoolP.free S).1.D no) = 0 ∧ PageP.right (PoolP.got (PoolP.free S).1 no) no = false) :
    Calls Tryz.prog 8 #[.pointer (some ⟨p, 0, none⟩), .int .i64 no] w (Told w p d lg bs (PoolP.read (PoolP.free S).1 no) (.tuple #[.agg (rowV (SlotP.zeros 512)), .int .i64 14])) := by
  have hal := fun W => run_al (P := Tryz.prog) arrPage W
  have HZ := Lib.hid (SlotPut.zeros_len 512)
  have HBL := Lib.hid h.lt
  have HFN := Lib.hid hi
  have HSM := Lib.hid hs
  clear hi hs
  have hbd := fun W => run_bd (P := Tryz.prog) arrPage W
  obtain ⟨W0, hW0⟩ : ∃ W0, w.alloc (.cells (rowV (SlotP.zeros 512)) 42) = W0 := ⟨_, rfl⟩
  have hb0 : Below w.heap.size w W0 := by rw [← hW0]; exact balloc (bsame w) _
  have hS0 : Str W0 w.heap.size (rowV (SlotP.zeros 512)) := by rw [← hW0]; exact Str.new _ _ _
  have HP0 := Lib.hid (h.next hb0)
  have HB0 := Lib.hid hb0
  have HS0 := Lib.hid hS0
  have hl0 := hS0.lt
  clear hb0 hS0 h
  obtain ⟨A, m, c, L, db, h1, h2, h3, h4, rfl⟩ := HP0.out
  have HI := Lib.hid h1
  have HD := Lib.hid h2
  have HL := Lib.hid h3
  have HN := Lib.hid h4
  have hm := h1.m100
  have hoff : ∀ q ∈ blocks p lg A L db, q ≠ w.heap.size := fun q hq => by have := HBL.out q hq; omega
  have HOFF := Lib.hid hoff
  clear h1 h2 h3 h4 hoff
  go_enter Tryz.func8, Tryz.ntmps8
  go_wp2_with fail
  refine (find_any p d lg m c S.n A L S.fs no W0 HI.out).mono ?_
  rintro e w' ⟨rfl, rfl⟩
  rw [HFN.out]
  simp only [Option.bind_none]
  go_wp2_with fail
  refine (free_any p d lg _ S W0 HP0.out HSM.out).mono ?_
  rintro e W1 ⟨rfl, b1, hP1, hn1, hk1⟩
  have HZW1 := Lib.hid (HS0.out.keepB hk1 (fun hm => HOFF.out _ hm rfl))
  have HGO1 : Hid (Gone W0 p d lg (blocks p lg A L db) (PoolP.free S).1 W1) := Lib.hid ⟨b1, hP1, hn1, hk1⟩
  rw [he]
  have HS1 := Lib.hid hs1
  have HCS := Lib.hid hcs
  generalize hX : (PoolP.free S).1 = S1 at *
  clear hX he hs1 hcs
  have HB1L := Lib.hid hP1.lt
  obtain ⟨A1, m1, c1, L1, db1, q1, q2, q3, q4, rfl⟩ := hP1
  have HI1 := Lib.hid q1
  have HD1 := Lib.hid q2
  have HL1 := Lib.hid q3
  have HN1 := Lib.hid q4
  have HNN := Lib.hid hn1
  have HKK := Lib.hid hk1
  have g1 := str4 (show Str W1 p #[.pointer (some ⟨d, 0, none⟩), .iface 32 (.pointer (some ⟨lg, 0, none⟩)), .int .i64 S1.n, .slice A1 m1 c1] from q1.box)
  have hlp := q1.box.lt
  clear q1 q2 q3 q4 hn1 hk1
  go_wp2_with fail
  refine (DevW.Read_any no W1 HD1.out HS1.out).mono ?_
  rintro e W2 ⟨rfl, hT⟩
  have hG2 : Gone W1 p d lg (blocks p lg A1 L1 db1) (PoolP.read S1 no) W2 := Pool.dev HI1.out HD1.out HL1.out HN1.out hT
  obtain ⟨b2, hP2, hn2, hk2⟩ := hG2
  have hzo : w.heap.size ∉ blocks p lg A1 L1 db1 := fun hm => by
    rcases HNN.out _ hm with h | h
    · exact HOFF.out _ h rfl
    · omega
  have hlW1 := HZW1.out.lt
  have hxl : (PoolP.got S1 no).length = 512 := read_len HD1.out no _
  rw [show DevP.read S1.D no (DevW.fitsN S1.D no) = PoolP.got S1 no from rfl, show DevP.err S1.D (DevW.fitsN S1.D no) = DevP.err S1.D (PoolP.fits S1.D no) from rfl]
  have HX := Lib.hid hxl
  obtain ⟨W3, hW3⟩ : ∃ W, (W2.alloc (.cells (rowV (SlotP.zeros 512)) 42)).setRow W2.heap.size (rowV (PoolP.got S1 no)) = W := ⟨_, rfl⟩
  have hst3 := run_st (P := Tryz.prog) arrPage (Str.new W2 (rowV (SlotP.zeros 512)) 42) (by rw [rowV_size]; exact HZ.out) hxl
  rw [hW3] at hst3
  have hb3 : Below W2.heap.size W2 W3 := by rw [← hW3]; exact below_setRow (balloc (bsame _) _) (Nat.le_refl _) _
  have hB3 : Str W3 W2.heap.size (rowV (PoolP.got S1 no)) := by rw [← hW3]; exact (Str.new _ _ _).setRow
  have hk3 := hk2.step hb3 hk2.size
  have HP3 := Lib.hid (hP2.next hb3)
  have HBX3 := Lib.hid hB3
  have HN2 := Lib.hid hn2
  have HK3 := Lib.hid hk3
  have HZW3 := Lib.hid (HZW1.out.keepB hk3 hzo)
  have HLT2 := Lib.hid hP2.lt
  have hl2 := hk2.size
  have hl3 := hb3.size
  have hlb := hB3.lt
  have hld := run_ld (P := Tryz.prog) arrPage hB3 hxl
  clear hW3 hT hP2 hn2 hk2 hb3 hB3 hk3 g1 hlp hxl
  rw [HCS.out.1]
  go_wp2_with fail
  refine (PageW.check_any (PoolP.got S1 no) HX.out no W3).mono ?_
  rintro e W4 ⟨rfl, hb4⟩
  rw [HCS.out.2]
  have HZW4 := Lib.hid (HZW3.out.next hb4)
  have HB4 := Lib.hid hb4
  clear hst3 hld hb4
  rw [show PageP.code false = 14 from rfl]
  have hstF := run_st (P := Tryz.prog) arrPage HZW4.out (by rw [rowV_size]; exact HZ.out) (HZ.out)
  have HSF := HZW4.out.setRow (cs' := rowV (SlotP.zeros 512))
  have hgF : W4.grownBy (W4.setRow w.heap.size (rowV (SlotP.zeros 512))) (some w.heap.size) := grown_setRow W4 w.heap.size _
  have HGF := Lib.hid hgF
  have HSFF := Lib.hid HSF
  clear hgF HSF
  go_wp2_with fail
  exact bodyPost_ret (v := .tuple #[.agg (rowV (SlotP.zeros 512)), .int .i64 14]) (DevW.results_page Tryz.results8 _ HSFF.out (HZ.out) rfl) rfl ((Gone.turn ((Gone.step HNN.out HKK.out ⟨b2, HP3.out, HN2.out, HK3.out⟩).after HB4.out) HGF.out hl0 (fun hm => HOFF.out _ hm rfl) HB0.out (Nat.le_refl _)).told (by rfl))
set_option maxRecDepth 100000 in
set_option maxHeartbeats 4000000 in
theorem get_new (p d lg : Nat) (bs : List Nat) (S : PoolX) (no : Int) (w : World) (h : Pool w p d lg bs S) (hi : PoolP.find S.fs no = none) (hs : DevP.Small S.D) (he : (PoolP.free S).2 = 0) (hs1 : (PoolP.free S).1.D.ops ≤ 1000000000) (hno : In64 no) (hs2 : (PoolP.free S).1.fs.length ≤ 90) (hcs : DevP.err (PoolP.free S).1.D (PoolP.fits (PoolP.free S).1.D no) = 0 ∧ PageP.right (PoolP.got (PoolP.free S).1 no) no = true) :
    Calls Tryz.prog 8 #[.pointer (some ⟨p, 0, none⟩), .int .i64 no] w (Told w p d lg bs { PoolP.read (PoolP.free S).1 no with fs := (PoolP.free S).1.fs ++ [⟨no, PoolP.got (PoolP.free S).1 no, false, 0⟩] } (.tuple #[.agg (rowV (PoolP.got (PoolP.free S).1 no)), .int .i64 0])) := by
  have hal := fun W => run_al (P := Tryz.prog) arrPage W
  have HZ := Lib.hid (SlotPut.zeros_len 512)
  have HBL := Lib.hid h.lt
  have HFN := Lib.hid hi
  have HSM := Lib.hid hs
  clear hi hs
  have hbd := fun W => run_bd (P := Tryz.prog) arrPage W
  have HS2 := Lib.hid hs2
  clear hs2
  obtain ⟨W0, hW0⟩ : ∃ W0, w.alloc (.cells (rowV (SlotP.zeros 512)) 42) = W0 := ⟨_, rfl⟩
  have hb0 : Below w.heap.size w W0 := by rw [← hW0]; exact balloc (bsame w) _
  have hS0 : Str W0 w.heap.size (rowV (SlotP.zeros 512)) := by rw [← hW0]; exact Str.new _ _ _
  have HP0 := Lib.hid (h.next hb0)
  have HB0 := Lib.hid hb0
  have HS0 := Lib.hid hS0
  have hl0 := hS0.lt
  clear hb0 hS0 h
  obtain ⟨A, m, c, L, db, h1, h2, h3, h4, rfl⟩ := HP0.out
  have HI := Lib.hid h1
  have HD := Lib.hid h2
  have HL := Lib.hid h3
  have HN := Lib.hid h4
  have hm := h1.m100
  have hoff : ∀ q ∈ blocks p lg A L db, q ≠ w.heap.size := fun q hq => by have := HBL.out q hq; omega
  have HOFF := Lib.hid hoff
  clear h1 h2 h3 h4 hoff
  go_enter Tryz.func8, Tryz.ntmps8
  go_wp2_with fail
  refine (find_any p d lg m c S.n A L S.fs no W0 HI.out).mono ?_
  rintro e w' ⟨rfl, rfl⟩
  rw [HFN.out]
  simp only [Option.bind_none]
  go_wp2_with fail
  refine (free_any p d lg _ S W0 HP0.out HSM.out).mono ?_
  rintro e W1 ⟨rfl, b1, hP1, hn1, hk1⟩
  have HZW1 := Lib.hid (HS0.out.keepB hk1 (fun hm => HOFF.out _ hm rfl))
  have HGO1 : Hid (Gone W0 p d lg (blocks p lg A L db) (PoolP.free S).1 W1) := Lib.hid ⟨b1, hP1, hn1, hk1⟩
  rw [he]
  have HS1 := Lib.hid hs1
  have HCS := Lib.hid hcs
  generalize hX : (PoolP.free S).1 = S1 at *
  clear hX he hs1 hcs
  have HB1L := Lib.hid hP1.lt
  obtain ⟨A1, m1, c1, L1, db1, q1, q2, q3, q4, rfl⟩ := hP1
  have HI1 := Lib.hid q1
  have HD1 := Lib.hid q2
  have HL1 := Lib.hid q3
  have HN1 := Lib.hid q4
  have HNN := Lib.hid hn1
  have HKK := Lib.hid hk1
  have g1 := str4 (show Str W1 p #[.pointer (some ⟨d, 0, none⟩), .iface 32 (.pointer (some ⟨lg, 0, none⟩)), .int .i64 S1.n, .slice A1 m1 c1] from q1.box)
  have hlp := q1.box.lt
  clear q1 q2 q3 q4 hn1 hk1
  go_wp2_with fail
  refine (DevW.Read_any no W1 HD1.out HS1.out).mono ?_
  rintro e W2 ⟨rfl, hT⟩
  have hG2 : Gone W1 p d lg (blocks p lg A1 L1 db1) (PoolP.read S1 no) W2 := Pool.dev HI1.out HD1.out HL1.out HN1.out hT
  obtain ⟨b2, hP2, hn2, hk2⟩ := hG2
  have hzo : w.heap.size ∉ blocks p lg A1 L1 db1 := fun hm => by
    rcases HNN.out _ hm with h | h
    · exact HOFF.out _ h rfl
    · omega
  have hlW1 := HZW1.out.lt
  have hxl : (PoolP.got S1 no).length = 512 := read_len HD1.out no _
  rw [show DevP.read S1.D no (DevW.fitsN S1.D no) = PoolP.got S1 no from rfl, show DevP.err S1.D (DevW.fitsN S1.D no) = DevP.err S1.D (PoolP.fits S1.D no) from rfl]
  have HX := Lib.hid hxl
  obtain ⟨W3, hW3⟩ : ∃ W, (W2.alloc (.cells (rowV (SlotP.zeros 512)) 42)).setRow W2.heap.size (rowV (PoolP.got S1 no)) = W := ⟨_, rfl⟩
  have hst3 := run_st (P := Tryz.prog) arrPage (Str.new W2 (rowV (SlotP.zeros 512)) 42) (by rw [rowV_size]; exact HZ.out) hxl
  rw [hW3] at hst3
  have hb3 : Below W2.heap.size W2 W3 := by rw [← hW3]; exact below_setRow (balloc (bsame _) _) (Nat.le_refl _) _
  have hB3 : Str W3 W2.heap.size (rowV (PoolP.got S1 no)) := by rw [← hW3]; exact (Str.new _ _ _).setRow
  have hk3 := hk2.step hb3 hk2.size
  have HP3 := Lib.hid (hP2.next hb3)
  have HBX3 := Lib.hid hB3
  have HN2 := Lib.hid hn2
  have HK3 := Lib.hid hk3
  have HZW3 := Lib.hid (HZW1.out.keepB hk3 hzo)
  have HLT2 := Lib.hid hP2.lt
  have hl2 := hk2.size
  have hl3 := hb3.size
  have hlb := hB3.lt
  have hld := run_ld (P := Tryz.prog) arrPage hB3 hxl
  clear hW3 hT hP2 hn2 hk2 hb3 hB3 hk3 g1 hlp hxl
  rw [HCS.out.1]
  go_wp2_with fail
  refine (PageW.check_any (PoolP.got S1 no) HX.out no W3).mono ?_
  rintro e W4 ⟨rfl, hb4⟩
  rw [HCS.out.2]
  have HZW4 := Lib.hid (HZW3.out.next hb4)
  have HBX4 := Lib.hid (HBX3.out.next hb4)
  have HP4 := HP3.out.next hb4
  have hk4 := HK3.out.step hb4 HK3.out.size
  obtain ⟨A2, m2, c2, L2, db2, q1, q2, q3, q4, rfl⟩ := HP4
  have hm2 : m2 ≤ 90 := by have h1 := q1.row.len; have h2 := q1.frs.len; have h3 := HS2.out; show _; rw [← h1, h2]; exact h3
  have hl4 := hb4.size
  have HI4 := Lib.hid q1
  have HD4 := Lib.hid q2
  have HL4 := Lib.hid q3
  have HN4 := Lib.hid q4
  have HK4 := Lib.hid hk4
  have hlt4 : ∀ b ∈ blocks p lg A2 L2 db2, b < W4.heap.size := fun b hb => by have := HLT2.out b hb; omega
  have HLT4 := Lib.hid hlt4
  have hld := run_ld (P := Tryz.prog) arrPage HBX4.out HX.out
  have hlb4 := HBX4.out.lt
  have hfb := fun W => fr_bd1 no (PoolP.got S1 no) HX.out W
  clear hst3 hb4 q1 q2 q3 q4 hk4 hlt4
  rw [show PageP.code true = 0 from rfl]
  go_wp2_with fail
  obtain ⟨V, hV⟩ : ∃ V, W4.alloc (.cells (frC ⟨no, PoolP.got S1 no, false, 0⟩) 77) = V := ⟨_, rfl⟩
  have hbV : Below W4.heap.size W4 V := by rw [← hV]; exact balloc (bsame _) _
  have hfr : Str V W4.heap.size (frC ⟨no, PoolP.got S1 no, false, 0⟩) := by rw [← hV]; exact Str.new _ _ _
  try rw [hV]
  refine (use_fresh (W0 := W4) (HI4.out.next hbV) (HD4.out.below hbV) (HL4.out.next hbV) HN4.out W4.heap.size _ hfr ⟨HX.out, hno, by show (0 : Int) ≤ 0; omega, by show (0 : Int) ≤ 1000000000; omega⟩ hbV HLT4.out (Nat.le_refl _) (by omega)).mono ?_
  rintro e W5 ⟨rfl, b5, hP5, hn5, hk5⟩
  have hbx : W2.heap.size ∉ blocks p lg A2 L2 db2 := fun hm => by have := HLT2.out _ hm; omega
  have hzo4 : w.heap.size ∉ blocks p lg A2 L2 db2 := fun hm => by
    rcases HN2.out _ hm with h | h
    · exact hzo h
    · omega
  have HZW5 := Lib.hid (HZW4.out.keepB hk5 hzo4)
  have hBX5 := HBX4.out.keepB hk5 hbx
  have hld := run_ld (P := Tryz.prog) arrPage hBX5 HX.out
  have hlb5 := hBX5.lt
  have HGO5 : Hid (Gone W0 p d lg (blocks p lg A L db) { PoolP.read S1 no with fs := S1.fs ++ [⟨no, PoolP.got S1 no, false, 0⟩] } W5) := Lib.hid (Gone.step HNN.out HKK.out (Gone.step HN2.out HK4.out ⟨b5, hP5, hn5, hk5⟩))
  clear hV hbV hfr hP5 hn5 hk5 hBX5 hlb4
  have hstF := run_st (P := Tryz.prog) arrPage HZW5.out (by rw [rowV_size]; exact HZ.out) (HX.out)
  have HSF := HZW5.out.setRow (cs' := rowV (PoolP.got S1 no))
  have hgF : W5.grownBy (W5.setRow w.heap.size (rowV (PoolP.got S1 no))) (some w.heap.size) := grown_setRow W5 w.heap.size _
  have HGF := Lib.hid hgF
  have HSFF := Lib.hid HSF
  clear hgF HSF
  go_wp2_with fail
  exact bodyPost_ret (v := .tuple #[.agg (rowV (PoolP.got S1 no)), .int .i64 0]) (DevW.results_page Tryz.results8 _ HSFF.out (HX.out) rfl) rfl ((Gone.turn HGO5.out HGF.out hl0 (fun hm => HOFF.out _ hm rfl) HB0.out (Nat.le_refl _)).told (by rfl))
theorem get_any (p d lg : Nat) (bs : List Nat) (S : PoolX) (no : Int) (w : World) (h : Pool w p d lg bs S) (hs : DevP.Small S.D) (hs1 : (PoolP.free S).1.D.ops ≤ 1000000000) (hs2 : (PoolP.free S).1.fs.length ≤ 90) (hno : In64 no) :
    Calls Tryz.prog 8 #[.pointer (some ⟨p, 0, none⟩), .int .i64 no] w (Told w p d lg bs (PoolP.get S no).1 (.tuple #[.agg (rowV (PoolP.get S no).2.1), .int .i64 (PoolP.get S no).2.2])) := by
  cases hf : PoolP.find S.fs no with
  | some i =>
    obtain ⟨f, hi, -⟩ := PoolP.find_some hf
    rw [PoolP.get_some hf hi]
    exact get_in p d lg bs S no w h i f hf hi
  | none =>
    rw [PoolP.get_none hf]
    by_cases he : (PoolP.free S).2 = 0
    · rw [if_pos he]
      unfold PoolP.fetch
      by_cases h1 : DevP.err (PoolP.free S).1.D (PoolP.fits (PoolP.free S).1.D no) = 0
      · rw [if_neg (by simpa using h1)]
        by_cases h2 : PageP.right (PoolP.got (PoolP.free S).1 no) no = true
        · rw [if_pos h2]
          exact get_new p d lg bs S no w h hf hs he hs1 hno hs2 ⟨h1, h2⟩
        · rw [if_neg h2]
          exact get_bad p d lg bs S no w h hf hs he hs1 hno ⟨h1, by simpa using h2⟩
      · rw [if_pos h1]
        exact get_errs p d lg bs S no w h hf hs he hs1 hno h1
    · rw [if_neg he]
      exact get_full p d lg bs S no w h hf hs he
end PoolW
end Go.Proofs.YtcfieofcnpalgaaGreat
end
