/-
  Texts of one claim, joined: CellPut, ArrT.
-/
import Derived.Test.YtiokcemlfdonnaaRecP8
import Derived.Deep.RegionWith
import Derived.Test.YtiokcemlfdonnaaRecP2
namespace Go.Proofs.Ytiokcemlfdonnaa.CellPut
open Go.RowKit
attribute [local go_sem ↓] app_fold

/-- a slice in a box, which owns its bytes -/
def Out (w : World) (base B : Nat) (l : List UInt8) : Prop := ∃ v, Boxed w B 23 v ∧ w.ownsRow base 5 1 v l.length (l.map byteV) ∧ base ≤ B
def Added (w : World) (base B : Nat) (l : List UInt8) (e : Ending) (w' : World) : Prop := e = .returned (.tuple #[]) ∧ Out w' base B l ∧ Below base w w'

set_option maxHeartbeats 1000000 in
theorem add_any (base B width : Nat) (m : Int) (l : List UInt8) (w : World) (h : Out w base B l) (hw1 : 1 ≤ width) (hw8 : width ≤ 8) (hn : l.length + 8 ≤ 140737488355328) :
    Calls Try.prog 122 #[.int .i64 (width : Int), .int .i64 m, .pointer (some ⟨B, 0, none⟩)] w (Added w base B (l ++ BeP.parts width m)) := by
  obtain ⟨v, hbox, hown, hbase⟩ := h
  obtain ⟨i0, hi, hz0, hz1, hz2⟩ := info_parts Be.infoU8
  have hc := hbox.cell
  have hlt := hbox.lt
  have HBOX := Lib.hid hbox
  have HOWN := Lib.hid hown
  clear hbox hown
  have hpl := BeP.parts_length width m
  have HPL := Lib.hid hpl
  clear hpl
  go_enter Try.func122, Try.ntmps122
  go_wp2
  go_region_with ((go_at_call 32; refine (Be.put_wide none 0 0 0 [] width m _ (Bytes.none_ _ _) (Nat.zero_le _) hw1 hw8 (by omega)).mono ?_; rintro e w1 ⟨A1, n1, c1, rfl, hby, hb⟩; have hn1 : n1 = width := hby.len.symm.trans (by simp [HPL.out]); have hbs := hb.size; obtain ⟨v', w2, happ, hown2, hgrow2⟩ := run_append_bytes (P := Try.prog) w1 base 23 23 5 i0 _ Try.underlying23 hi hz0 hz1 hz2 rfl v l.length (l.map byteV) (own_next HOWN.out.drew hb) w1.heap.size A1 n1 c1 _ hby (by omega) (by simp at hbs; omega); obtain ⟨g', cap', hv', -, -⟩ := hown2.form (by omega); have hb1 : Boxed w1 B 23 v := (hb.block B hlt).trans HBOX.out; have hb2 : Boxed w2 B 23 v := hb1.kept hgrow2 (hb1.not_row (by decide) (own_next HOWN.out.drew hb)); have hc1 := hb1.cell; have hc2 := hb2.cell; have hf2 := hb2.frozen; subst hv'; have HBY := Lib.hid hby; have HB := Lib.hid hb; have HO2 := Lib.hid hown2; have HG2 := Lib.hid hgrow2; have HN1 := Lib.hid hn1; clear hby hb hown2 hgrow2 hn1))
  all_goals go_end0
  all_goals
    have h3 : base ≤ w.heap.size := by omega
    have hbw : Below base w w1 := (Below.refl base w).drew.trans (HB.out.mono (by simpa using h3))
    refine ⟨rfl, ⟨_, hb2.set _, ?_, hbase⟩, (hbw.grown HG2.out (by simp at hbs; omega) (fun k e => ?_)).setCell hbase _⟩
    · have hl1 := HN1.out
      have hl2 := HPL.out
      have hx : (l ++ BeP.parts width m).length = l.length + n1 := by simp; omega
      have hxs : (l ++ BeP.parts width m).map byteV = l.map byteV ++ ([] ++ BeP.parts width m).map byteV := by simp
      rw [hx, hxs]
      exact HO2.out.kept (grownBy_setCell' w2 B _) (.inr (hb2.not_row (by decide) HO2.out).symm)
    · rcases HOWN.out.2 with ⟨rfl, _⟩ | ⟨g, cap, cur, rfl, hg, _⟩
      · simp [Value.ownBlock] at e
      · obtain rfl : g = k := by simpa [Value.ownBlock] using e
        exact hg

theorem bytes_rec (c : Cell) (hr : CellP.right c = true) (hk : c.kind = 1) : CellP.bytes c = BeP.parts 1 c.kind ++ (BeP.parts 1 (c.data.length : Int) ++ c.data) := by
  have h32 : c.data.length ≤ 32 := by
    unfold CellP.right at hr
    rw [if_pos hk] at hr
    simp at hr
    exact hr.1
  unfold CellP.bytes
  rw [if_pos hr, if_pos hk, hk]
  have e1 : BeP.parts 1 1 = [1] := by decide
  have e2 : BeP.parts 1 (c.data.length : Int) = [UInt8.ofNat c.data.length] := by
    have : BeP.u64 (c.data.length : Int) = c.data.length := by unfold BeP.u64; omega
    simp [BeP.parts, BeP.part, this]
  rw [e1, e2]
  rfl
theorem bytes_cnt (c : Cell) (hr : CellP.right c = true) (hk : c.kind = 2) : CellP.bytes c = BeP.parts 1 c.kind ++ (BeP.parts 8 c.lo ++ (BeP.parts 8 c.hi ++ BeP.parts 8 c.val)) := by
  unfold CellP.bytes
  rw [if_pos hr, if_neg (by omega), hk]
  have e1 : BeP.parts 1 2 = [2] := by decide
  rw [e1]

set_option maxHeartbeats 1000000 in
theorem put_any (A A' : Option Addr) (n c n' cap' B B' : Nat) (l : List UInt8) (x : Cell) (w : World) (h : Bytes w B A n c l) (hB : B ≤ w.heap.size) (h' : Bytes w B' A' n' cap' x.data) (hB' : B' ≤ w.heap.size) (hn : n ≤ 100000000000000) :
    Calls Try.prog 108 #[.slice A n c, .agg #[.int .i64 x.kind, .slice A' n' cap', .int .i64 x.lo, .int .i64 x.hi, .int .i64 x.val]] w (GivesBytes w (l ++ CellP.bytes x)) := by
  obtain ⟨i0, hi, hz0, hz1, hz2⟩ := info_parts Be.infoU8
  have hln := h.len
  have hlx := h'.len
  have hmx := Nat.le_trans h'.2.1 h'.2.2.1
  have HLN := Lib.hid hln
  have hmk : ∀ W : World, (Instr.makeSlice 23 (.int .i64 0) (.int .i64 ((n : Int) + 2 + 32))).run Try.prog W = .ok (.slice (some ⟨W.heap.size, 0, none⟩) 0 (n + 34)) (W.alloc (.cells (zerosV (n + 34)).toArray 5)) := fun W => by
    have := Be.run_make_b 0 (n + 34) (by omega) (by omega) W
    have e : ((n + 34 : Nat) : Int) = (n : Int) + 2 + 32 := by omega
    rw [e] at this
    exact this
  obtain ⟨kind, data, lo, hi', val⟩ := x
  dsimp only at *
  -- the world behind make, and the append of b
  obtain ⟨W1, hW1⟩ : ∃ W1, w.alloc (.cells #[.int .i64 kind, .slice A' n' cap', .int .i64 lo, .int .i64 hi', .int .i64 val] 25) = W1 := ⟨_, rfl⟩
  have hz1' : W1.heap.size = w.heap.size + 1 := by rw [← hW1]; simp
  have hown0 : (W1.alloc (.cells (zerosV (n + 34)).toArray 5)).ownsRow (w.heap.size + 1) 5 1 (.slice (some ⟨W1.heap.size, 0, none⟩) 0 (n + 34)) 0 [] :=
    ⟨rfl, .inr ⟨_, _, _, rfl, by omega, heap_alloc_new W1 _, by omega, by unfold maxLen; omega, by simp [zerosV_length], by simp⟩⟩
  have hbyW : Bytes (W1.alloc (.cells (zerosV (n + 34)).toArray 5)) B A n c l := by
    rw [← hW1]
    exact (h.alloc hB _).alloc (by simp; omega) _
  obtain ⟨v', w3, happ, hown3, hgrow3⟩ := run_append_bytes (P := Try.prog) (W1.alloc (.cells (zerosV (n + 34)).toArray 5)) (w.heap.size + 1) 23 23 5 i0 _ Try.underlying23 hi hz0 hz1 hz2 rfl _ 0 [] hown0 B A n c l hbyW (by omega) (by simp; omega)
  simp only [Nat.zero_add, List.nil_append] at hown3
  obtain ⟨A3, c3, rfl⟩ := own_slice hown3
  have hb3 : Below (w.heap.size + 1) W1 w3 := ((Below.refl _ W1).alloc (by omega) _).grown hgrow3 (by simp; omega) (own_block hown0)
  have HO3 := Lib.hid hown3
  have HB3 := Lib.hid hb3
  rw [hz1'] at happ
  clear hown3 hb3 hgrow3 hown0 hbyW hz1'
  subst hW1
  have HLX := Lib.hid hlx
  have H' := Lib.hid h'
  clear hln hlx h h'
  have hs3 := HB3.out.size
  simp only [World.size_alloc] at hs3
  have k0 := HB3.out.cell (p := ⟨w.heap.size, 0, none⟩) (by simp)
  have k1 := HB3.out.cell (p := ⟨w.heap.size, 1, none⟩) (by simp)
  have k2 := HB3.out.cell (p := ⟨w.heap.size, 2, none⟩) (by simp)
  have k3 := HB3.out.cell (p := ⟨w.heap.size, 3, none⟩) (by simp)
  have k4 := HB3.out.cell (p := ⟨w.heap.size, 4, none⟩) (by simp)
  simp at k0 k1 k2 k3 k4
  have hs3' : w.heap.size < w3.heap.size := by omega
  have bO := Boxed.new w3 23 (.slice A3 n c3)
  have HBO := Lib.hid bO
  clear bO hs3
  cases hr : CellP.right ⟨kind, data, lo, hi', val⟩
  · have hc1 : CellP.code false = 1 := rfl
    go_enter Try.func108, Try.ntmps108
    go_wp2_with (go_at_call 111; refine (CellW.check_any A' n' cap' ⟨kind, data, lo, hi', val⟩ _ HLX.out hmx).mono ?_; rintro e w4 ⟨rfl, hb4⟩; rw [hr]; obtain ⟨hq4, hf4⟩ := bcell hb4)
    go_ret
    have hl : l ++ CellP.bytes ⟨kind, data, lo, hi', val⟩ = l := by simp [CellP.bytes, hr]
    rw [hl]
    have hbW : Below w.heap.size w w4 := (balloc (bsame w) _).trans ((HB3.out.mono (by omega)).trans (((Below.refl _ w3).alloc (by omega) _).trans (hb4.mono (by simp; omega))))
    obtain ⟨A9, n9, c9, e9, hby9⟩ := Bytes.of_own (own_next (HO3.out.alloc _) hb4)
    cases e9
    exact ⟨A3, n, c3, rfl, hby9, hbW⟩
  · have hc0 : CellP.code true = 0 := rfl
    have hb34 : Below w.heap.size w (w3.alloc (.cells #[.slice A3 n c3] 23)) := (balloc (bsame w) _).trans ((HB3.out.mono (by omega)).trans ((Below.refl _ w3).alloc (by omega) _))
    have HB34 := Lib.hid hb34
    clear hb34
    go_enter Try.func108, Try.ntmps108
    go_wp2_with (go_at_call 111; refine (CellW.check_any A' n' cap' ⟨kind, data, lo, hi', val⟩ _ HLX.out hmx).mono ?_; rintro e w4 ⟨rfl, hb4⟩; rw [hr]; obtain ⟨hq4, hf4⟩ := bcell hb4)
    have hO4 : Out w4 (w.heap.size + 1) w3.heap.size l := by
      refine ⟨_, (hb4.block _ (by simp)).trans HBO.out, ?_, by omega⟩
      rw [HLN.out]
      exact own_next (HO3.out.alloc _) hb4
    have hs4 := hb4.size
    simp only [World.size_alloc] at hs4
    have hB4 : Below w.heap.size w w4 := HB34.out.trans (hb4.mono (by simp; omega))
    have HB4 := Lib.hid hB4
    clear hB4
    refine (add_any (w.heap.size + 1) w3.heap.size 1 kind l w4 hO4 (by omega) (by omega) (by rw [HLN.out]; omega)).mono ?_
    rintro e w5 ⟨rfl, hO5, hb5⟩
    have hq5 := fun o => hb5.cell (p := ⟨w.heap.size, o, none⟩) (by simp)
    have HB5 := Lib.hid (HB4.out.trans (hb5.mono (by omega)))
    have HO5 := Lib.hid hO5
    have hs5 := hb5.size
    clear hO4 hO5 hb5
    have hp1 := BeP.parts_length 1 kind
    by_cases hk : kind = 1
    · have HBY := Lib.hid (bytes_rec ⟨kind, data, lo, hi', val⟩ hr hk)
      have hkb : (kind == 1) = true := by simpa using hk
      have h32 : n' ≤ 32 := by
        have := HLX.out
        unfold CellP.right at hr
        rw [if_pos hk] at hr
        simp at hr
        omega
      clear hk
      go_wp2_with fail
      have HLX' := HLX.out
      refine (add_any (w.heap.size + 1) w3.heap.size 1 (n' : Int) (l ++ BeP.parts 1 kind) w5 HO5.out (by omega) (by omega) (by simp [hp1, HLN.out]; omega)).mono ?_
      rintro e w6 ⟨rfl, hO6, hb6⟩
      have hq6 := fun o => hb6.cell (p := ⟨w.heap.size, o, none⟩) (by simp)
      have HB6 := Lib.hid (HB5.out.trans (hb6.mono (by omega)))
      have hs6 := hb6.size
      have hp2 := BeP.parts_length 1 (n' : Int)
      obtain ⟨v6, hbx6, hown6, -⟩ := hO6
      have hc6 := hbx6.cell
      obtain ⟨v7, w7, happ7, hown7, hgrow7⟩ := run_append_bytes (P := Try.prog) w6 (w.heap.size + 1) 23 23 5 i0 _ Try.underlying23 hi hz0 hz1 hz2 rfl v6 _ _ hown6 B' A' n' cap' data (H'.out.below (HB6.out.mono hB')) (by simp [hp1, hp2, HLN.out]; omega) (by omega)
      have hfin : Below w.heap.size w w7 := HB6.out.grown hgrow7 (by omega) (fun k e => by have := own_block hown6 k e; omega)
      obtain ⟨A9, n9, c9, rfl, hby9⟩ := Bytes.of_own (l := (l ++ BeP.parts 1 kind ++ BeP.parts 1 (n' : Int)) ++ data) (by simpa using hown7)
      have HF := Lib.hid hfin
      have HY := Lib.hid hby9
      clear hfin hby9 hown7 hgrow7 hbx6 hown6 hb6 hp1 hp2
      go_wp2_with fail
      go_ret
      rw [HBY.out]
      refine ⟨A9, n9, c9, rfl, ?_, HF.out⟩
      have := HY.out
      rw [← HLX'] at this
      simpa using this
    · have hk2 : kind = 2 := by
        unfold CellP.right at hr
        rw [if_neg hk] at hr
        simp at hr
        exact hr.1
      have HBY := Lib.hid (bytes_cnt ⟨kind, data, lo, hi', val⟩ hr hk2)
      have hkb : (kind == 1) = false := by simpa using hk
      clear hk hk2
      have hp2 := BeP.parts_length 8 lo
      have hp3 := BeP.parts_length 8 hi'
      go_wp2_with fail
      refine (add_any (w.heap.size + 1) w3.heap.size 8 lo (l ++ BeP.parts 1 kind) w5 HO5.out (by omega) (by omega) (by simp [hp1, HLN.out]; omega)).mono ?_
      rintro e w6 ⟨rfl, hO6, hb6⟩
      have hq6 := fun o => hb6.cell (p := ⟨w.heap.size, o, none⟩) (by simp)
      have HB6 := Lib.hid (HB5.out.trans (hb6.mono (by omega)))
      have HO6 := Lib.hid hO6
      have hs6 := hb6.size
      clear hO6 hb6
      go_wp2_with fail
      refine (add_any (w.heap.size + 1) w3.heap.size 8 hi' (l ++ BeP.parts 1 kind ++ BeP.parts 8 lo) w6 HO6.out (by omega) (by omega) (by simp [hp1, hp2, HLN.out]; omega)).mono ?_
      rintro e w7 ⟨rfl, hO7, hb7⟩
      have hq7 := fun o => hb7.cell (p := ⟨w.heap.size, o, none⟩) (by simp)
      have HB7 := Lib.hid (HB6.out.trans (hb7.mono (by omega)))
      have HO7 := Lib.hid hO7
      have hs7 := hb7.size
      clear hO7 hb7
      go_wp2_with fail
      refine (add_any (w.heap.size + 1) w3.heap.size 8 val (l ++ BeP.parts 1 kind ++ BeP.parts 8 lo ++ BeP.parts 8 hi') w7 HO7.out (by omega) (by omega) (by simp [hp1, hp2, hp3, HLN.out]; omega)).mono ?_
      rintro e w8 ⟨rfl, hO8, hb8⟩
      have HB8 := Lib.hid (HB7.out.trans (hb8.mono (by omega)))
      obtain ⟨v8, hbx8, hown8, -⟩ := hO8
      have hc8 := hbx8.cell
      obtain ⟨A9, n9, c9, rfl, hby9⟩ := Bytes.of_own hown8
      have HY := Lib.hid hby9
      clear hby9 hbx8 hown8 hb8 hp1 hp2 hp3
      go_wp2_with fail
      go_ret
      rw [HBY.out]
      refine ⟨A9, n9, c9, rfl, ?_, HB8.out⟩
      have := HY.out
      simpa using this
end Go.Proofs.Ytiokcemlfdonnaa.CellPut
namespace Go.Proofs.Ytiokcemlfdonnaa
open Go.RowKit
set_option maxRecDepth 100000

theorem arr64 : ArrT Try.prog 107 64 := ⟨⟨5, Try.underlying107, Try.underlying5, Be.sizeU8⟩, by kernel_rfl, by kernel_rfl⟩
theorem al64_fold : Instr.alloc 107 true (.tuple #[]) = alSem 107 := rfl
theorem bd64_fold (ps : Array (Nat × Value)) : Instr.build 107 ps = bdSem 107 ps := rfl
theorem ld64_fold (v : Value) : Instr.loadAt 107 v = ldSem 107 v := rfl
theorem st64_fold (a v : Value) : Instr.storeAt 107 a v = stSem 107 a v := rfl
theorem arr512 : ArrT Try.prog 135 512 := ⟨⟨5, Try.underlying135, Try.underlying5, Be.sizeU8⟩, by kernel_rfl, by kernel_rfl⟩
theorem al512_fold : Instr.alloc 135 true (.tuple #[]) = alSem 135 := rfl
theorem bd512_fold (ps : Array (Nat × Value)) : Instr.build 135 ps = bdSem 135 ps := rfl
theorem ld512_fold (v : Value) : Instr.loadAt 135 v = ldSem 135 v := rfl
theorem st512_fold (a v : Value) : Instr.storeAt 135 a v = stSem 135 a v := rfl
theorem arrPage : ArrT Try.prog 136 512 := ⟨⟨5, Try.underlying136, Try.underlying5, Be.sizeU8⟩, by kernel_rfl, by kernel_rfl⟩
theorem alPage_fold : Instr.alloc 136 true (.tuple #[]) = alSem 136 := rfl
theorem bdPage_fold (ps : Array (Nat × Value)) : Instr.build 136 ps = bdSem 136 ps := rfl
theorem ldPage_fold (v : Value) : Instr.loadAt 136 v = ldSem 136 v := rfl
theorem stPage_fold (a v : Value) : Instr.storeAt 136 a v = stSem 136 a v := rfl
theorem sl64_fold (x : Value) (lo hi mx : Option Value) : Instr.sliceAt 107 x lo hi mx = slSem 107 x lo hi mx := rfl
theorem sl512_fold (x : Value) (lo hi mx : Option Value) : Instr.sliceAt 135 x lo hi mx = slSem 135 x lo hi mx := rfl
theorem slPage_fold (x : Value) (lo hi mx : Option Value) : Instr.sliceAt 136 x lo hi mx = slSem 136 x lo hi mx := rfl
end Go.Proofs.Ytiokcemlfdonnaa
