/-
  Parts of the proof of PlanGrows.
-/
import Derived.Test.YtpklclnehlgcpaaGreatPlanG7
import Derived.Deep.RegionWith
import Derived.Test.YtpklclnehlgcpaaGreatPlanG1
import Derived.Test.YtpklclnehlgcpaaGreatPlanG3
import Derived.IntWalk
import Derived.Test.YtpklclnehlgcpaaGreatPlanG0
import Derived.Test.YtpklclnehlgcpaaGreatPlanG2
section
namespace Go.Proofs.YtpklclnehlgcpaaGreat.CellPut
open Go.RowKit
attribute [local go_sem ↓] app_fold

/-- a slice in a box, which owns its bytes -/
def Out (w : World) (base B : Nat) (l : List UInt8) : Prop := ∃ v, Boxed w B 23 v ∧ w.ownsRow base 5 1 v l.length (l.map byteV) ∧ base ≤ B
def Added (w : World) (base B : Nat) (l : List UInt8) (e : Ending) (w' : World) : Prop := e = .returned (.tuple #[]) ∧ Out w' base B l ∧ Below base w w'

set_option maxHeartbeats 1000000 in
theorem add_any (base B width : Nat) (m : Int) (l : List UInt8) (w : World) (h : Out w base B l) (hw1 : 1 ≤ width) (hw8 : width ≤ 8) (hn : l.length + 8 ≤ 140737488355328) :
    Calls Tryz.prog 83 #[.int .i64 (width : Int), .int .i64 m, .pointer (some ⟨B, 0, none⟩)] w (Added w base B (l ++ BeP.parts width m)) := by
  obtain ⟨v, hbox, hown, hbase⟩ := h
  obtain ⟨i0, hi, hz0, hz1, hz2⟩ := info_parts Be.infoU8
  have hc := hbox.cell
  have hlt := hbox.lt
  have HBOX := Lib.hid hbox
  have HOWN := Lib.hid hown
  clear hbox hown
  have hpl := BeP.parts_length width m
  have HPL := Lib.hid hpl
  clear hpl
  go_enter Tryz.func83, Tryz.ntmps83
  go_wp2
  go_region_with ((go_at_call 66; refine (Be.put_wide none 0 0 0 [] width m _ (Bytes.none_ _ _) (Nat.zero_le _) hw1 hw8 (by omega)).mono ?_; rintro e w1 ⟨A1, n1, c1, rfl, hby, hb⟩; have hn1 : n1 = width := hby.len.symm.trans (by simp [HPL.out]); have hbs := hb.size; obtain ⟨v', w2, happ, hown2, hgrow2⟩ := run_append_bytes (P := Tryz.prog) w1 base 23 23 5 i0 _ Tryz.underlying23 hi hz0 hz1 hz2 rfl v l.length (l.map byteV) (own_next HOWN.out.drew hb) w1.heap.size A1 n1 c1 _ hby (by omega) (by simp at hbs; omega); obtain ⟨g', cap', hv', -, -⟩ := hown2.form (by omega); have hb1 : Boxed w1 B 23 v := (hb.block B hlt).trans HBOX.out; have hb2 : Boxed w2 B 23 v := hb1.kept hgrow2 (hb1.not_row (by decide) (own_next HOWN.out.drew hb)); have hc1 := hb1.cell; have hc2 := hb2.cell; have hf2 := hb2.frozen; subst hv'; have HBY := Lib.hid hby; have HB := Lib.hid hb; have HO2 := Lib.hid hown2; have HG2 := Lib.hid hgrow2; have HN1 := Lib.hid hn1; clear hby hb hown2 hgrow2 hn1))
  all_goals go_end0
  all_goals
    have h3 : base ≤ w.heap.size := by omega
    have hbw : Below base w w1 := (Below.refl base w).drew.trans (HB.out.mono (by simpa using h3))
    refine ⟨rfl, ⟨_, hb2.set _, ?_, hbase⟩, (hbw.grown HG2.out (by simp at hbs; omega) (fun k e => ?_)).setCell hbase _⟩
    · have hl1 := HN1.out
      have hl2 := HPL.out
      have hx : (l ++ BeP.parts width m).length = l.length + n1 := by simp; omega
      have hxs : (l ++ BeP.parts width m).map byteV = l.map byteV ++ ([] ++ BeP.parts width m).map byteV := by simp
      rw [hx, hxs]
      exact HO2.out.kept (grownBy_setCell' w2 B _) (.inr (hb2.not_row (by decide) HO2.out).symm)
    · rcases HOWN.out.2 with ⟨rfl, _⟩ | ⟨g, cap, cur, rfl, hg, _⟩
      · simp [Value.ownBlock] at e
      · obtain rfl : g = k := by simpa [Value.ownBlock] using e
        exact hg

theorem bytes_rec (c : Cell) (hr : CellP.right c = true) (hk : c.kind = 1) : CellP.bytes c = BeP.parts 1 c.kind ++ (BeP.parts 1 (c.data.length : Int) ++ c.data) := by
  have h32 : c.data.length ≤ 32 := by
    unfold CellP.right at hr
    rw [if_pos hk] at hr
    simp at hr
    exact hr.1
  unfold CellP.bytes
  rw [if_pos hr, if_pos hk, hk]
  have e1 : BeP.parts 1 1 = [1] := by decide
  have e2 : BeP.parts 1 (c.data.length : Int) = [UInt8.ofNat c.data.length] := by
    have : BeP.u64 (c.data.length : Int) = c.data.length := by unfold BeP.u64; omega
    simp [BeP.parts, BeP.part, this]
  rw [e1, e2]
  rfl
theorem bytes_cnt (c : Cell) (hr : CellP.right c = true) (hk : c.kind = 2) : CellP.bytes c = BeP.parts 1 c.kind ++ (BeP.parts 8 c.lo ++ (BeP.parts 8 c.hi ++ BeP.parts 8 c.val)) := by
  unfold CellP.bytes
  rw [if_pos hr, if_neg (by omega), hk]
  have e1 : BeP.parts 1 2 = [2] := by decide
  rw [e1]

set_option maxHeartbeats 1000000 in
theorem put_any (A A' : Option Addr) (n c n' cap' B B' : Nat) (l : List UInt8) (x : Cell) (w : World) (h : Bytes w B A n c l) (hB : B ≤ w.heap.size) (h' : Bytes w B' A' n' cap' x.data) (hB' : B' ≤ w.heap.size) (hn : n ≤ 100000000000000) :
    Calls Tryz.prog 65 #[.slice A n c, .agg #[.int .i64 x.kind, .slice A' n' cap', .int .i64 x.lo, .int .i64 x.hi, .int .i64 x.val]] w (GivesBytes w (l ++ CellP.bytes x)) := by
  obtain ⟨i0, hi, hz0, hz1, hz2⟩ := info_parts Be.infoU8
  have hln := h.len
  have hlx := h'.len
  have hmx := Nat.le_trans h'.2.1 h'.2.2.1
  have HLN := Lib.hid hln
  have hmk : ∀ W : World, (Instr.makeSlice 23 (.int .i64 0) (.int .i64 ((n : Int) + 2 + 32))).run Tryz.prog W = .ok (.slice (some ⟨W.heap.size, 0, none⟩) 0 (n + 34)) (W.alloc (.cells (zerosV (n + 34)).toArray 5)) := fun W => by
    have := Be.run_make_b 0 (n + 34) (by omega) (by omega) W
    have e : ((n + 34 : Nat) : Int) = (n : Int) + 2 + 32 := by omega
    rw [e] at this
    exact this
  obtain ⟨kind, data, lo, hi', val⟩ := x
  dsimp only at *
  -- the world behind make, and the append of b
  obtain ⟨W1, hW1⟩ : ∃ W1, w.alloc (.cells #[.int .i64 kind, .slice A' n' cap', .int .i64 lo, .int .i64 hi', .int .i64 val] 25) = W1 := ⟨_, rfl⟩
  have hz1' : W1.heap.size = w.heap.size + 1 := by rw [← hW1]; simp
  have hown0 : (W1.alloc (.cells (zerosV (n + 34)).toArray 5)).ownsRow (w.heap.size + 1) 5 1 (.slice (some ⟨W1.heap.size, 0, none⟩) 0 (n + 34)) 0 [] :=
    ⟨rfl, .inr ⟨_, _, _, rfl, by omega, heap_alloc_new W1 _, by omega, by unfold maxLen; omega, by simp [zerosV_length], by simp⟩⟩
  have hbyW : Bytes (W1.alloc (.cells (zerosV (n + 34)).toArray 5)) B A n c l := by
    rw [← hW1]
    exact (h.alloc hB _).alloc (by simp; omega) _
  obtain ⟨v', w3, happ, hown3, hgrow3⟩ := run_append_bytes (P := Tryz.prog) (W1.alloc (.cells (zerosV (n + 34)).toArray 5)) (w.heap.size + 1) 23 23 5 i0 _ Tryz.underlying23 hi hz0 hz1 hz2 rfl _ 0 [] hown0 B A n c l hbyW (by omega) (by simp; omega)
  simp only [Nat.zero_add, List.nil_append] at hown3
  obtain ⟨A3, c3, rfl⟩ := own_slice hown3
  have hb3 : Below (w.heap.size + 1) W1 w3 := ((Below.refl _ W1).alloc (by omega) _).grown hgrow3 (by simp; omega) (own_block hown0)
  have HO3 := Lib.hid hown3
  have HB3 := Lib.hid hb3
  rw [hz1'] at happ
  clear hown3 hb3 hgrow3 hown0 hbyW hz1'
  subst hW1
  have HLX := Lib.hid hlx
  have H' := Lib.hid h'
  clear hln hlx h h'
  have hs3 := HB3.out.size
  simp only [World.size_alloc] at hs3
  have k0 := HB3.out.cell (p := ⟨w.heap.size, 0, none⟩) (by simp)
  have k1 := HB3.out.cell (p := ⟨w.heap.size, 1, none⟩) (by simp)
  have k2 := HB3.out.cell (p := ⟨w.heap.size, 2, none⟩) (by simp)
  have k3 := HB3.out.cell (p := ⟨w.heap.size, 3, none⟩) (by simp)
  have k4 := HB3.out.cell (p := ⟨w.heap.size, 4, none⟩) (by simp)
  simp at k0 k1 k2 k3 k4
  have hs3' : w.heap.size < w3.heap.size := by omega
  have bO := Boxed.new w3 23 (.slice A3 n c3)
  have HBO := Lib.hid bO
  clear bO hs3
  cases hr : CellP.right ⟨kind, data, lo, hi', val⟩
  · have hc1 : CellP.code false = 1 := rfl
    go_enter Tryz.func65, Tryz.ntmps65
    go_wp2_with (go_at_call 82; refine (CellW.check_any A' n' cap' ⟨kind, data, lo, hi', val⟩ _ HLX.out hmx).mono ?_; rintro e w4 ⟨rfl, hb4⟩; rw [hr]; obtain ⟨hq4, hf4⟩ := bcell hb4)
    go_ret
    have hl : l ++ CellP.bytes ⟨kind, data, lo, hi', val⟩ = l := by simp [CellP.bytes, hr]
    rw [hl]
    have hbW : Below w.heap.size w w4 := (balloc (bsame w) _).trans ((HB3.out.mono (by omega)).trans (((Below.refl _ w3).alloc (by omega) _).trans (hb4.mono (by simp; omega))))
    obtain ⟨A9, n9, c9, e9, hby9⟩ := Bytes.of_own (own_next (HO3.out.alloc _) hb4)
    cases e9
    exact ⟨A3, n, c3, rfl, hby9, hbW⟩
  · have hc0 : CellP.code true = 0 := rfl
    have hb34 : Below w.heap.size w (w3.alloc (.cells #[.slice A3 n c3] 23)) := (balloc (bsame w) _).trans ((HB3.out.mono (by omega)).trans ((Below.refl _ w3).alloc (by omega) _))
    have HB34 := Lib.hid hb34
    clear hb34
    go_enter Tryz.func65, Tryz.ntmps65
    go_wp2_with (go_at_call 82; refine (CellW.check_any A' n' cap' ⟨kind, data, lo, hi', val⟩ _ HLX.out hmx).mono ?_; rintro e w4 ⟨rfl, hb4⟩; rw [hr]; obtain ⟨hq4, hf4⟩ := bcell hb4)
    have hO4 : Out w4 (w.heap.size + 1) w3.heap.size l := by
      refine ⟨_, (hb4.block _ (by simp)).trans HBO.out, ?_, by omega⟩
      rw [HLN.out]
      exact own_next (HO3.out.alloc _) hb4
    have hs4 := hb4.size
    simp only [World.size_alloc] at hs4
    have hB4 : Below w.heap.size w w4 := HB34.out.trans (hb4.mono (by simp; omega))
    have HB4 := Lib.hid hB4
    clear hB4
    refine (add_any (w.heap.size + 1) w3.heap.size 1 kind l w4 hO4 (by omega) (by omega) (by rw [HLN.out]; omega)).mono ?_
    rintro e w5 ⟨rfl, hO5, hb5⟩
    have hq5 := fun o => hb5.cell (p := ⟨w.heap.size, o, none⟩) (by simp)
    have HB5 := Lib.hid (HB4.out.trans (hb5.mono (by omega)))
    have HO5 := Lib.hid hO5
    have hs5 := hb5.size
    clear hO4 hO5 hb5
    have hp1 := BeP.parts_length 1 kind
    by_cases hk : kind = 1
    · have HBY := Lib.hid (bytes_rec ⟨kind, data, lo, hi', val⟩ hr hk)
      have hkb : (kind == 1) = true := by simpa using hk
      have h32 : n' ≤ 32 := by
        have := HLX.out
        unfold CellP.right at hr
        rw [if_pos hk] at hr
        simp at hr
        omega
      clear hk
      go_wp2_with fail
      have HLX' := HLX.out
      refine (add_any (w.heap.size + 1) w3.heap.size 1 (n' : Int) (l ++ BeP.parts 1 kind) w5 HO5.out (by omega) (by omega) (by simp [hp1, HLN.out]; omega)).mono ?_
      rintro e w6 ⟨rfl, hO6, hb6⟩
      have hq6 := fun o => hb6.cell (p := ⟨w.heap.size, o, none⟩) (by simp)
      have HB6 := Lib.hid (HB5.out.trans (hb6.mono (by omega)))
      have hs6 := hb6.size
      have hp2 := BeP.parts_length 1 (n' : Int)
      obtain ⟨v6, hbx6, hown6, -⟩ := hO6
      have hc6 := hbx6.cell
      obtain ⟨v7, w7, happ7, hown7, hgrow7⟩ := run_append_bytes (P := Tryz.prog) w6 (w.heap.size + 1) 23 23 5 i0 _ Tryz.underlying23 hi hz0 hz1 hz2 rfl v6 _ _ hown6 B' A' n' cap' data (H'.out.below (HB6.out.mono hB')) (by simp [hp1, hp2, HLN.out]; omega) (by omega)
      have hfin : Below w.heap.size w w7 := HB6.out.grown hgrow7 (by omega) (fun k e => by have := own_block hown6 k e; omega)
      obtain ⟨A9, n9, c9, rfl, hby9⟩ := Bytes.of_own (l := (l ++ BeP.parts 1 kind ++ BeP.parts 1 (n' : Int)) ++ data) (by simpa using hown7)
      have HF := Lib.hid hfin
      have HY := Lib.hid hby9
      clear hfin hby9 hown7 hgrow7 hbx6 hown6 hb6 hp1 hp2
      go_wp2_with fail
      go_ret
      rw [HBY.out]
      refine ⟨A9, n9, c9, rfl, ?_, HF.out⟩
      have := HY.out
      rw [← HLX'] at this
      simpa using this
    · have hk2 : kind = 2 := by
        unfold CellP.right at hr
        rw [if_neg hk] at hr
        simp at hr
        exact hr.1
      have HBY := Lib.hid (bytes_cnt ⟨kind, data, lo, hi', val⟩ hr hk2)
      have hkb : (kind == 1) = false := by simpa using hk
      clear hk hk2
      have hp2 := BeP.parts_length 8 lo
      have hp3 := BeP.parts_length 8 hi'
      go_wp2_with fail
      refine (add_any (w.heap.size + 1) w3.heap.size 8 lo (l ++ BeP.parts 1 kind) w5 HO5.out (by omega) (by omega) (by simp [hp1, HLN.out]; omega)).mono ?_
      rintro e w6 ⟨rfl, hO6, hb6⟩
      have hq6 := fun o => hb6.cell (p := ⟨w.heap.size, o, none⟩) (by simp)
      have HB6 := Lib.hid (HB5.out.trans (hb6.mono (by omega)))
      have HO6 := Lib.hid hO6
      have hs6 := hb6.size
      clear hO6 hb6
      go_wp2_with fail
      refine (add_any (w.heap.size + 1) w3.heap.size 8 hi' (l ++ BeP.parts 1 kind ++ BeP.parts 8 lo) w6 HO6.out (by omega) (by omega) (by simp [hp1, hp2, HLN.out]; omega)).mono ?_
      rintro e w7 ⟨rfl, hO7, hb7⟩
      have hq7 := fun o => hb7.cell (p := ⟨w.heap.size, o, none⟩) (by simp)
      have HB7 := Lib.hid (HB6.out.trans (hb7.mono (by omega)))
      have HO7 := Lib.hid hO7
      have hs7 := hb7.size
      clear hO7 hb7
      go_wp2_with fail
      refine (add_any (w.heap.size + 1) w3.heap.size 8 val (l ++ BeP.parts 1 kind ++ BeP.parts 8 lo ++ BeP.parts 8 hi') w7 HO7.out (by omega) (by omega) (by simp [hp1, hp2, hp3, HLN.out]; omega)).mono ?_
      rintro e w8 ⟨rfl, hO8, hb8⟩
      have HB8 := Lib.hid (HB7.out.trans (hb8.mono (by omega)))
      obtain ⟨v8, hbx8, hown8, -⟩ := hO8
      have hc8 := hbx8.cell
      obtain ⟨A9, n9, c9, rfl, hby9⟩ := Bytes.of_own hown8
      have HY := Lib.hid hby9
      clear hby9 hbx8 hown8 hb8 hp1 hp2 hp3
      go_wp2_with fail
      go_ret
      rw [HBY.out]
      refine ⟨A9, n9, c9, rfl, ?_, HB8.out⟩
      have := HY.out
      simpa using this
end Go.Proofs.YtpklclnehlgcpaaGreat.CellPut
end
section
namespace Go.Proofs.YtpklclnehlgcpaaGreat.SlotPut
open Go.RowKit
attribute [local go_sem ↓] al64_fold ld64_fold st64_fold bd64_fold sl64_fold cp_fold

theorem bytes_zero (x : Item) (h : ¬ (x.state ≠ 0 ∧ SlotP.right x = true)) : SlotP.bytes x = SlotP.zeros 64 := by
  unfold SlotP.bytes
  rw [if_neg h]
theorem zeros_len (n : Nat) : (SlotP.zeros n).length = n := by simp [SlotP.zeros]

set_option maxRecDepth 100000 in
set_option maxHeartbeats 1000000 in
theorem put_zero (A : Option Addr) (n cap B : Nat) (x : Item) (w : World) (h : Bytes w B A n cap x.cell.data) (hB : B ≤ w.heap.size) (hk : x.key.size ≤ maxLen) (h0 : ¬ (x.state ≠ 0 ∧ SlotP.right x = true)) :
    Calls Tryz.prog 47 #[SlotW.itemV A n cap x] w fun e w' => e = .returned (.agg (rowV (SlotP.bytes x))) ∧ Below w.heap.size w w' := by
  rw [bytes_zero x h0]
  have HC := Lib.hid (fun W (hW : Bytes W B A n cap x.cell.data) (hB : B ≤ W.heap.size) => SlotW.check_any A n cap B x W hW hB hk)
  have H := Lib.hid h
  have hal := fun W => run_al (P := Tryz.prog) arr64 W
  have hzl := zeros_len 64
  clear h hk
  by_cases hs : x.state = 0
  · obtain ⟨s, k, kind, data, lo, hi, val⟩ := x
    dsimp only at *
    subst hs
    clear h0
    obtain ⟨W3, hW3⟩ : ∃ W3, ((w.alloc (.cells #[.int .i64 0, .string k, .int .i64 kind, .slice A n cap, .int .i64 lo, .int .i64 hi, .int .i64 val] 27)).alloc (.cells (rowV (SlotP.zeros 64)) 94)).alloc (.cells (rowV (SlotP.zeros 64)) 94) = W3 := ⟨_, rfl⟩
    have hS1 : Str W3 (w.heap.size + 1) (rowV (SlotP.zeros 64)) := by
      rw [← hW3]
      have := (Str.new (w.alloc (.cells #[.int .i64 0, .string k, .int .i64 kind, .slice A n cap, .int .i64 lo, .int .i64 hi, .int .i64 val] 27)) (rowV (SlotP.zeros 64)) 94).alloc (.cells (rowV (SlotP.zeros 64)) 94)
      simpa using this
    have hS2 : Str W3 (w.heap.size + 1 + 1) (rowV (SlotP.zeros 64)) := by
      rw [← hW3]
      have := Str.new ((w.alloc (.cells #[.int .i64 0, .string k, .int .i64 kind, .slice A n cap, .int .i64 lo, .int .i64 hi, .int .i64 val] 27)).alloc (.cells (rowV (SlotP.zeros 64)) 94)) (rowV (SlotP.zeros 64)) 94
      simpa using this
    have hld := run_ld (P := Tryz.prog) arr64 hS2 hzl
    have hst := run_st (P := Tryz.prog) arr64 hS1 (by rw [rowV_size]; exact hzl) hzl
    have HB : Hid (Below w.heap.size w (W3.setRow (w.heap.size + 1) (rowV (SlotP.zeros 64)))) := Lib.hid (below_setRow (by rw [← hW3]; exact balloc (balloc (balloc (bsame w) _) _) _) (by omega) _)
    have HS := Lib.hid (hS1.setRow (cs' := rowV (SlotP.zeros 64)))
    have HZ := Lib.hid hzl
    rw [← hW3] at hld hst HB HS
    clear hS1 hS2 hzl hW3
    go_enter Tryz.func47, Tryz.ntmps47
    go_wp2
    exact bodyPost_ret (v := .agg (rowV (SlotP.zeros 64))) (results_arr arr64 Tryz.results47 _ HS.out HZ.out rfl) rfl ⟨rfl, HB.out⟩
  · have hr : SlotP.right x = false := by
      cases hb : SlotP.right x
      · rfl
      · exact absurd ⟨hs, hb⟩ h0
    have HR := Lib.hid hr
    obtain ⟨s, k, kind, data, lo, hi, val⟩ := x
    dsimp only at *
    have hs0 : (s == 0) = false := by simpa using hs
    have hcf := SlotW.code_false
    clear h0 hr
    go_enter Tryz.func47, Tryz.ntmps47
    go_wp2_with fail
    refine (HC.out _ (((H.out.alloc hB _).alloc (by simp; omega) _).alloc (by simp; omega) _) (by simp; omega)).mono ?_
    rintro e w1 ⟨rfl, hb⟩
    rw [HR.out]
    have hS1 : Str w1 (w.heap.size + 1) (rowV (SlotP.zeros 64)) := by
      have := ((Str.new (w.alloc (.cells #[.int .i64 s, .string k, .int .i64 kind, .slice A n cap, .int .i64 lo, .int .i64 hi, .int .i64 val] 27)) (rowV (SlotP.zeros 64)) 94).alloc (.cells (rowV (SlotP.zeros 64)) 94)).next hb
      simpa using this
    have hS2 : Str w1 (w.heap.size + 1 + 1) (rowV (SlotP.zeros 64)) := by
      have := (Str.new ((w.alloc (.cells #[.int .i64 s, .string k, .int .i64 kind, .slice A n cap, .int .i64 lo, .int .i64 hi, .int .i64 val] 27)).alloc (.cells (rowV (SlotP.zeros 64)) 94)) (rowV (SlotP.zeros 64)) 94).next hb
      simpa using this
    have hld := run_ld (P := Tryz.prog) arr64 hS2 hzl
    have hst := run_st (P := Tryz.prog) arr64 hS1 (by rw [rowV_size]; exact hzl) hzl
    have HB : Hid (Below w.heap.size w (w1.setRow (w.heap.size + 1) (rowV (SlotP.zeros 64)))) := Lib.hid (below_setRow (bstep (balloc (balloc (balloc (bsame w) _) _) _) hb) (by omega) _)
    have HS := Lib.hid (hS1.setRow (cs' := rowV (SlotP.zeros 64)))
    have HZ := Lib.hid hzl
    clear hS1 hS2 hzl hb
    go_wp2
    exact bodyPost_ret (v := .agg (rowV (SlotP.zeros 64))) (results_arr arr64 Tryz.results47 _ HS.out HZ.out rfl) rfl ⟨rfl, HB.out⟩


set_option maxRecDepth 100000 in
set_option maxHeartbeats 1000000 in
theorem put_full (A : Option Addr) (n cap B : Nat) (x : Item) (w : World) (h : Bytes w B A n cap x.cell.data) (hB : B ≤ w.heap.size) (hk : x.key.size ≤ maxLen) (h0 : x.state ≠ 0) (hr : SlotP.right x = true) :
    Calls Tryz.prog 47 #[SlotW.itemV A n cap x] w fun e w' => e = .returned (.agg (rowV (SlotP.bytes x))) ∧ Below w.heap.size w w' := by
  have HC := Lib.hid (fun W (hW : Bytes W B A n cap x.cell.data) (hB : B ≤ W.heap.size) => SlotW.check_any A n cap B x W hW hB hk)
  have H := Lib.hid h
  have hal := fun W => run_al (P := Tryz.prog) arr64 W
  have HZ := Lib.hid (zeros_len 64)
  have hk16 : x.key.size ≤ 16 := SlotP.right_key x h0 hr
  have h12 := SlotP.right_state x h0 hr
  have HL := Lib.hid (SlotP.put_list x h0 hr)
  have HBL := Lib.hid (SlotP.cell_le x.cell)
  have HR := Lib.hid hr
  clear h hk hr
  obtain ⟨s, k, kind, data, lo, hi, val⟩ := x
  dsimp only at *
  have hkm : ((k.size : Int) % 256) = (k.size : Int) := by omega
  have hkb : Value.int .u8 (k.size : Int) = byteV (UInt8.ofNat k.size) := by
    have : (UInt8.ofNat k.size).toNat = k.size := by simp; omega
    simp [byteV, this]
  have HKB := Lib.hid hkb
  have hcf := SlotW.code_true
  clear hkb h0
  rcases h12 with rfl | rfl
  · go_enter Tryz.func47, Tryz.ntmps47
    go_wp2_with fail
    refine (HC.out _ (((H.out.alloc hB _).alloc (by simp; omega) _).alloc (by simp; omega) _) (by simp; omega)).mono ?_
    rintro e w1 ⟨rfl, hb⟩
    rw [HR.out]
    have hS0 : Str w1 w.heap.size #[.int .i64 1, .string k, .int .i64 kind, .slice A n cap, .int .i64 lo, .int .i64 hi, .int .i64 val] := ((((Str.new w #[.int .i64 1, .string k, .int .i64 kind, .slice A n cap, .int .i64 lo, .int .i64 hi, .int .i64 val] 27).alloc (.cells (rowV (SlotP.zeros 64)) 94)).alloc (.cells (rowV (SlotP.zeros 64)) 94))).next hb
    have hS1 : Str w1 (w.heap.size + 1) (rowV (SlotP.zeros 64)) := by
      have := ((Str.new (w.alloc (.cells #[.int .i64 1, .string k, .int .i64 kind, .slice A n cap, .int .i64 lo, .int .i64 hi, .int .i64 val] 27)) (rowV (SlotP.zeros 64)) 94).alloc (.cells (rowV (SlotP.zeros 64)) 94)).next hb
      simpa using this
    have hS2 : Str w1 (w.heap.size + 1 + 1) (rowV (SlotP.zeros 64)) := by
      have := (Str.new ((w.alloc (.cells #[.int .i64 1, .string k, .int .i64 kind, .slice A n cap, .int .i64 lo, .int .i64 hi, .int .i64 val] 27)).alloc (.cells (rowV (SlotP.zeros 64)) 94)) (rowV (SlotP.zeros 64)) 94).next hb
      simpa using this
    obtain ⟨p0, p1, p2, p3, p4, p5, p6⟩ := str7 hS0
    have c20 : w1.cell? ⟨w.heap.size + 1 + 1, 0, none⟩ = some (byteV 0) := by rw [hS2.cell]; rfl
    have c21 : w1.cell? ⟨w.heap.size + 1 + 1, 1, none⟩ = some (byteV 0) := by rw [hS2.cell]; rfl
    have kf := fun i => hS2.frozen i
    have HS0 := Lib.hid hS0
    have HS1 := Lib.hid hS1
    have HS2 := Lib.hid hS2
    have HB1 := Lib.hid (bstep (balloc (balloc (balloc (bsame w) _) _) _) hb)
    clear hS0 hS1 hS2 hb
    go_wp2_with fail
    obtain ⟨W4, hW4⟩ : ∃ W4, (w1.setCell ⟨w.heap.size + 1 + 1, 0, none⟩ (.int .u8 1)).setCell ⟨w.heap.size + 1 + 1, 1, none⟩ (.int .u8 (k.size : Int)) = W4 := ⟨_, rfl⟩
    have hT2 : Str W4 (w.heap.size + 1 + 1) (rowV (((SlotP.zeros 64).set 0 1).set 1 (UInt8.ofNat k.size))) := by
      rw [← hW4, HKB.out]
      have := (HS2.out.set 0 (byteV 1)).set 1 (byteV (UInt8.ofNat k.size))
      rw [rowV_set, rowV_set] at this
      exact this
    have hT0 : Str W4 w.heap.size #[.int .i64 1, .string k, .int .i64 kind, .slice A n cap, .int .i64 lo, .int .i64 hi, .int .i64 val] := by rw [← hW4]; exact (HS0.out.other 0 _ (by omega)).other 1 _ (by omega)
    have hT1 : Str W4 (w.heap.size + 1) (rowV (SlotP.zeros 64)) := by rw [← hW4]; exact (HS1.out.other 0 _ (by omega)).other 1 _ (by omega)
    have hB14 : Below w.heap.size w1 W4 := by rw [← hW4]; exact ((Below.refl _ _).setCell (by simp; omega) _).setCell (by simp; omega) _
    have HB4 := Lib.hid (HB1.out.trans hB14)
    have hlen2 : (((SlotP.zeros 64).set 0 1).set 1 (UInt8.ofNat k.size)).length = 64 := by simp [HZ.out]
    rw [hW4]
    obtain ⟨q0, q1, q2, q3, q4, q5, q6⟩ := str7 hT0
    have hl4 := hT0.lt
    have HT0 := Lib.hid hT0
    have HT1 := Lib.hid hT1
    have HT2 := Lib.hid hT2
    have HLEN2 := Lib.hid hlen2
    clear hW4 hT0 hT1 hT2 hB14 hlen2 p0 p1 p2 p3 p4 p5 p6 c20 c21 kf HS0 HS1 HS2 HB1
    have hsl := fun W => run_sl_from (P := Tryz.prog) arr64 (w.heap.size + 1 + 1) 2 (by omega) W
    simp only [Nat.reduceSub, Int.cast_ofNat_Int] at hsl
    refine Reg.wp_region_tail (R := ext) (W := W4) [Reg.eqv (.slice (some ⟨w.heap.size + 1 + 1, 2, none⟩) 62 62), Reg.eqv (.pointer (some ⟨w.heap.size, 1, none⟩)), Reg.eqv (.string k)] 36 3 _ [[(3, none)], [(1, none)], [(23, some 1)]] rfl (by kernel_rfl) (by kernel_rfl) (by rfl) (by rfl) rfl (by kernel_rfl) ?_ [some 22, some 23, some 24] (by kernel_rfl) ?_
    · refine ⟨?_, ?_, ?_, trivial⟩
      · intro ax wx hx hs
        obtain ⟨e3, -⟩ := hs
        have g3 := Reg.ev (v := .pointer (some ⟨w.heap.size + 1 + 1, 0, none⟩)) e3
        exact Reg.obl_free rfl (Reg.wp_eqv (Option.some_ne_none _) (by go_simp) rfl)
      · intro ax wx hx hs
        obtain ⟨e1, -⟩ := hs
        have g1 := Reg.ev (v := .pointer (some ⟨w.heap.size, 0, none⟩)) e1
        exact Reg.obl_free rfl (Reg.wp_eqv (Option.some_ne_none _) (by go_simp) rfl)
      · intro ax wx hx hs
        obtain ⟨e23, -⟩ := hs
        have g23 := Reg.ev (v := .pointer (some ⟨w.heap.size, 1, none⟩)) e23
        obtain ⟨hc, -⟩ := bcell hx
        exact Reg.obl_free rfl (Reg.wp_eqv (Option.some_ne_none _) (by go_simp) rfl)
    · intro wf hwf
      simp only [Reg.Fin]
      rintro _ rfl _ rfl _ rfl
      have hwf' : Below W4.heap.size W4 wf := hwf
      obtain ⟨w5, hcp, hU2, hg5⟩ := copy_string (P := Tryz.prog) 23 9 3 5 Tryz.underlying23 Be.sizeU8 (dLen := 62) (dCap := 62) (off := 2) (HT2.out.next hwf') k (by omega) (by rw [HLEN2.out]; omega)
      have hU0 := (HT0.out.next hwf').grown hg5 (by omega)
      have hU1 := (HT1.out.next hwf').grown hg5 (by omega)
      have HB5 := Lib.hid (below_grown (bstep HB4.out hwf') hg5 (by omega))
      have hD5 := H.out.below (HB5.out.mono hB)
      have hlen3 : (SlotP.over (((SlotP.zeros 64).set 0 1).set 1 (UInt8.ofNat k.size)) 2 k.data.toList).length = 64 := by
        rw [SlotP.over_length _ _ _ (by rw [HLEN2.out, Array.length_toList]; show 2 + k.size ≤ 64; omega), HLEN2.out]
      have HU0 := Lib.hid hU0
      have HU1 := Lib.hid hU1
      have HU2 := Lib.hid hU2
      have HD5 := Lib.hid hD5
      have HLEN3 := Lib.hid hlen3
      have hl5 := hU0.lt
      have hl5' := HB5.out.size
      obtain ⟨r0, r1, r2, r3, r4, r5, r6⟩ := str7 hU0
      clear hwf hwf' hU0 hU1 hU2 hg5 hD5 hlen3 q0 q1 q2 q3 q4 q5 q6 hl4 HT0 HT1 HT2 HLEN2 HB4 hsl
      refine Reg.Goal.mk ?_
      go_simp
      clear hcp
      go_wp2_with fail
      have hsl : ∀ W, (slSem 94 (.pointer (some ⟨w.heap.size + 1 + 1, 0, none⟩)) (some (.int .i64 (2 + (k.size : Int)))) none none).run Tryz.prog W = .ok (.slice (some ⟨w.heap.size + 1 + 1, 2 + k.size, none⟩) (64 - (2 + k.size)) (64 - (2 + k.size))) W := by
        intro W
        have := run_sl_from (P := Tryz.prog) arr64 (w.heap.size + 1 + 1) (2 + k.size) (by omega) W
        rwa [show ((2 + k.size : Nat) : Int) = 2 + (k.size : Int) by omega] at this
      refine Reg.wp_region_tail (R := ext) (W := w5) [Reg.eqv (.pointer (some ⟨w.heap.size, 1, none⟩)), Reg.eqv (.string k), Reg.eqv (.int .i64 (k.size : Int)), Reg.eqv (.int .i64 (2 + (k.size : Int))), Reg.eqv (.slice (some ⟨w.heap.size + 1 + 1, 2 + k.size, none⟩) (64 - (2 + k.size)) (64 - (2 + k.size))), Reg.eqv (.pointer (some ⟨w.heap.size, 2, none⟩)), Reg.eqv (.agg #[.int .i64 kind, .slice A n cap, .int .i64 lo, .int .i64 hi, .int .i64 val]), Reg.bytes (CellP.bytes ⟨kind, data, lo, hi, val⟩)] 36 8 _ [[(1, none)], [(26, some 0)], [(27, some 1)], [(28, some 2)], [(3, none), (29, some 3)], [(1, none)], [(31, some 5)], [(32, some 6)]] rfl (by kernel_rfl) (by kernel_rfl) (by rfl) (by rfl) rfl (by kernel_rfl) ?_ [some 26, some 27, some 28, some 29, some 30, some 31, some 32, some 33] (by kernel_rfl) ?_
      · refine ⟨?_, ?_, ?_, ?_, ?_, ?_, ?_, ?_, trivial⟩
        · intro ax wx hx hs
          obtain ⟨e1, -⟩ := hs
          have g1 := Reg.ev (v := .pointer (some ⟨w.heap.size, 0, none⟩)) e1
          exact Reg.obl_free rfl (Reg.wp_eqv (Option.some_ne_none _) (by go_simp) rfl)
        · intro ax wx hx hs
          obtain ⟨e26, -⟩ := hs
          have g26 := Reg.ev (v := .pointer (some ⟨w.heap.size, 1, none⟩)) e26
          obtain ⟨hc, -⟩ := bcell hx
          exact Reg.obl_free rfl (Reg.wp_eqv (Option.some_ne_none _) (by go_simp) rfl)
        · intro ax wx hx hs
          obtain ⟨e27, -⟩ := hs
          have g27 := Reg.ev (v := .string k) e27
          exact Reg.obl_free rfl (Reg.wp_eqv (Option.some_ne_none _) (by go_simp) rfl)
        · intro ax wx hx hs
          obtain ⟨e28, -⟩ := hs
          have g28 := Reg.ev (v := .int .i64 (k.size : Int)) e28
          refine Reg.obl_free rfl ?_
          exact Reg.wp_eqv (Option.some_ne_none _) (by go_simp; exact IntWalk.i64_in _ (by omega)) rfl
        · intro ax wx hx hs
          obtain ⟨e3, e29, -⟩ := hs
          have g3 := Reg.ev (v := .pointer (some ⟨w.heap.size + 1 + 1, 0, none⟩)) e3
          have g29 := Reg.ev (v := .int .i64 (2 + (k.size : Int))) e29
          exact Reg.obl_free rfl (Reg.wp_eqv (Option.some_ne_none _) (by go_simp) rfl)
        · intro ax wx hx hs
          obtain ⟨e1, -⟩ := hs
          have g1 := Reg.ev (v := .pointer (some ⟨w.heap.size, 0, none⟩)) e1
          exact Reg.obl_free rfl (Reg.wp_eqv (Option.some_ne_none _) (by go_simp) rfl)
        · intro ax wx hx hs
          obtain ⟨e31, -⟩ := hs
          have g31 := Reg.ev (v := .pointer (some ⟨w.heap.size, 2, none⟩)) e31
          obtain ⟨hc, -⟩ := bcell hx
          exact Reg.obl_free rfl (Reg.wp_eqv (Option.some_ne_none _) (by go_simp) rfl)
        · intro ax wx hx hs
          obtain ⟨e32, -⟩ := hs
          have g32 := Reg.ev (v := .agg #[.int .i64 kind, .slice A n cap, .int .i64 lo, .int .i64 hi, .int .i64 val]) e32
          refine Reg.obl_free rfl ?_
          go_simp
          have hx' : Below w5.heap.size w5 wx := hx
          refine (CellPut.put_any none A 0 0 n cap 0 B [] ⟨kind, data, lo, hi, val⟩ wx (Bytes.none_ _ _) (Nat.zero_le _) (HD5.out.below (hx'.mono (by omega))) (by have := hx'.size; omega) (by omega)).mono ?_
          rintro e wy ⟨A3, n3, c3, rfl, hy, hby⟩
          exact Reg.done (Option.some_ne_none _) ⟨A3, n3, c3, rfl, hy⟩ hby
      · intro wf hwf
        simp only [Reg.Fin]
        rintro _ rfl _ rfl _ rfl _ rfl _ rfl _ rfl _ rfl v33 h33
        obtain ⟨A3, n3, c3, rfl, hy⟩ := h33
        have hwf' : Below w5.heap.size w5 wf := hwf
        obtain ⟨w6, hcp, hV2, hg6⟩ := copy_bytes (P := Tryz.prog) 23 23 3 5 Tryz.underlying23 Be.sizeU8 (dLen := 64 - (2 + k.size)) (dCap := 64 - (2 + k.size)) (off := 2 + k.size) (HU2.out.next hwf') hy (by rw [HLEN3.out]; omega)
        have hn3 := hy.len
        rw [List.take_of_length_le (by have := HBL.out; omega)] at hV2
        have hx1 : UInt8.ofNat (Int.toNat 1) = 1 := rfl
        have hL := HL.out
        rw [hx1] at hL
        rw [hL] at hV2
        have hV1 := (HU1.out.next hwf').grown hg6 (by omega)
        have HB6 := Lib.hid (below_grown (bstep HB5.out hwf') hg6 (by omega))
        have hld := run_ld (P := Tryz.prog) arr64 hV2 (SlotP.bytes_length _)
        have hst := run_st (P := Tryz.prog) arr64 hV1 (by rw [rowV_size]; exact HZ.out) (SlotP.bytes_length ⟨1, k, kind, data, lo, hi, val⟩)
        have HB7 := Lib.hid (below_setRow HB6.out (by omega : w.heap.size ≤ w.heap.size + 1) (rowV (SlotP.bytes ⟨1, k, kind, data, lo, hi, val⟩)))
        have HS7 := Lib.hid (hV1.setRow (cs' := rowV (SlotP.bytes ⟨1, k, kind, data, lo, hi, val⟩)))
        clear hwf hwf' hV1 hV2 hg6 hL hx1 hn3 hy r0 r1 r2 r3 r4 r5 r6 hl5 hl5' hsl HU0 HU1 HU2 HD5 HLEN3 HB5 HB6
        refine Reg.Goal.mk ?_
        go_simp
        clear hcp
        go_wp2_with fail
        exact bodyPost_ret (v := .agg (rowV (SlotP.bytes ⟨1, k, kind, data, lo, hi, val⟩))) (results_arr arr64 Tryz.results47 _ HS7.out (SlotP.bytes_length _) rfl) rfl ⟨rfl, HB7.out⟩
  · go_enter Tryz.func47, Tryz.ntmps47
    go_wp2_with fail
    refine (HC.out _ (((H.out.alloc hB _).alloc (by simp; omega) _).alloc (by simp; omega) _) (by simp; omega)).mono ?_
    rintro e w1 ⟨rfl, hb⟩
    rw [HR.out]
    have hS0 : Str w1 w.heap.size #[.int .i64 2, .string k, .int .i64 kind, .slice A n cap, .int .i64 lo, .int .i64 hi, .int .i64 val] := ((((Str.new w #[.int .i64 2, .string k, .int .i64 kind, .slice A n cap, .int .i64 lo, .int .i64 hi, .int .i64 val] 27).alloc (.cells (rowV (SlotP.zeros 64)) 94)).alloc (.cells (rowV (SlotP.zeros 64)) 94))).next hb
    have hS1 : Str w1 (w.heap.size + 1) (rowV (SlotP.zeros 64)) := by
      have := ((Str.new (w.alloc (.cells #[.int .i64 2, .string k, .int .i64 kind, .slice A n cap, .int .i64 lo, .int .i64 hi, .int .i64 val] 27)) (rowV (SlotP.zeros 64)) 94).alloc (.cells (rowV (SlotP.zeros 64)) 94)).next hb
      simpa using this
    have hS2 : Str w1 (w.heap.size + 1 + 1) (rowV (SlotP.zeros 64)) := by
      have := (Str.new ((w.alloc (.cells #[.int .i64 2, .string k, .int .i64 kind, .slice A n cap, .int .i64 lo, .int .i64 hi, .int .i64 val] 27)).alloc (.cells (rowV (SlotP.zeros 64)) 94)) (rowV (SlotP.zeros 64)) 94).next hb
      simpa using this
    obtain ⟨p0, p1, p2, p3, p4, p5, p6⟩ := str7 hS0
    have c20 : w1.cell? ⟨w.heap.size + 1 + 1, 0, none⟩ = some (byteV 0) := by rw [hS2.cell]; rfl
    have c21 : w1.cell? ⟨w.heap.size + 1 + 1, 1, none⟩ = some (byteV 0) := by rw [hS2.cell]; rfl
    have kf := fun i => hS2.frozen i
    have HS0 := Lib.hid hS0
    have HS1 := Lib.hid hS1
    have HS2 := Lib.hid hS2
    have HB1 := Lib.hid (bstep (balloc (balloc (balloc (bsame w) _) _) _) hb)
    clear hS0 hS1 hS2 hb
    go_wp2_with fail
    obtain ⟨W4, hW4⟩ : ∃ W4, (w1.setCell ⟨w.heap.size + 1 + 1, 0, none⟩ (.int .u8 2)).setCell ⟨w.heap.size + 1 + 1, 1, none⟩ (.int .u8 (k.size : Int)) = W4 := ⟨_, rfl⟩
    have hT2 : Str W4 (w.heap.size + 1 + 1) (rowV (((SlotP.zeros 64).set 0 2).set 1 (UInt8.ofNat k.size))) := by
      rw [← hW4, HKB.out]
      have := (HS2.out.set 0 (byteV 2)).set 1 (byteV (UInt8.ofNat k.size))
      rw [rowV_set, rowV_set] at this
      exact this
    have hT0 : Str W4 w.heap.size #[.int .i64 2, .string k, .int .i64 kind, .slice A n cap, .int .i64 lo, .int .i64 hi, .int .i64 val] := by rw [← hW4]; exact (HS0.out.other 0 _ (by omega)).other 1 _ (by omega)
    have hT1 : Str W4 (w.heap.size + 1) (rowV (SlotP.zeros 64)) := by rw [← hW4]; exact (HS1.out.other 0 _ (by omega)).other 1 _ (by omega)
    have hB14 : Below w.heap.size w1 W4 := by rw [← hW4]; exact ((Below.refl _ _).setCell (by simp; omega) _).setCell (by simp; omega) _
    have HB4 := Lib.hid (HB1.out.trans hB14)
    have hlen2 : (((SlotP.zeros 64).set 0 2).set 1 (UInt8.ofNat k.size)).length = 64 := by simp [HZ.out]
    rw [hW4]
    obtain ⟨q0, q1, q2, q3, q4, q5, q6⟩ := str7 hT0
    have hl4 := hT0.lt
    have HT0 := Lib.hid hT0
    have HT1 := Lib.hid hT1
    have HT2 := Lib.hid hT2
    have HLEN2 := Lib.hid hlen2
    clear hW4 hT0 hT1 hT2 hB14 hlen2 p0 p1 p2 p3 p4 p5 p6 c20 c21 kf HS0 HS1 HS2 HB1
    have hsl := fun W => run_sl_from (P := Tryz.prog) arr64 (w.heap.size + 1 + 1) 2 (by omega) W
    simp only [Nat.reduceSub, Int.cast_ofNat_Int] at hsl
    refine Reg.wp_region_tail (R := ext) (W := W4) [Reg.eqv (.slice (some ⟨w.heap.size + 1 + 1, 2, none⟩) 62 62), Reg.eqv (.pointer (some ⟨w.heap.size, 1, none⟩)), Reg.eqv (.string k)] 36 3 _ [[(3, none)], [(1, none)], [(23, some 1)]] rfl (by kernel_rfl) (by kernel_rfl) (by rfl) (by rfl) rfl (by kernel_rfl) ?_ [some 22, some 23, some 24] (by kernel_rfl) ?_
    · refine ⟨?_, ?_, ?_, trivial⟩
      · intro ax wx hx hs
        obtain ⟨e3, -⟩ := hs
        have g3 := Reg.ev (v := .pointer (some ⟨w.heap.size + 1 + 1, 0, none⟩)) e3
        exact Reg.obl_free rfl (Reg.wp_eqv (Option.some_ne_none _) (by go_simp) rfl)
      · intro ax wx hx hs
        obtain ⟨e1, -⟩ := hs
        have g1 := Reg.ev (v := .pointer (some ⟨w.heap.size, 0, none⟩)) e1
        exact Reg.obl_free rfl (Reg.wp_eqv (Option.some_ne_none _) (by go_simp) rfl)
      · intro ax wx hx hs
        obtain ⟨e23, -⟩ := hs
        have g23 := Reg.ev (v := .pointer (some ⟨w.heap.size, 1, none⟩)) e23
        obtain ⟨hc, -⟩ := bcell hx
        exact Reg.obl_free rfl (Reg.wp_eqv (Option.some_ne_none _) (by go_simp) rfl)
    · intro wf hwf
      simp only [Reg.Fin]
      rintro _ rfl _ rfl _ rfl
      have hwf' : Below W4.heap.size W4 wf := hwf
      obtain ⟨w5, hcp, hU2, hg5⟩ := copy_string (P := Tryz.prog) 23 9 3 5 Tryz.underlying23 Be.sizeU8 (dLen := 62) (dCap := 62) (off := 2) (HT2.out.next hwf') k (by omega) (by rw [HLEN2.out]; omega)
      have hU0 := (HT0.out.next hwf').grown hg5 (by omega)
      have hU1 := (HT1.out.next hwf').grown hg5 (by omega)
      have HB5 := Lib.hid (below_grown (bstep HB4.out hwf') hg5 (by omega))
      have hD5 := H.out.below (HB5.out.mono hB)
      have hlen3 : (SlotP.over (((SlotP.zeros 64).set 0 2).set 1 (UInt8.ofNat k.size)) 2 k.data.toList).length = 64 := by
        rw [SlotP.over_length _ _ _ (by rw [HLEN2.out, Array.length_toList]; show 2 + k.size ≤ 64; omega), HLEN2.out]
      have HU0 := Lib.hid hU0
      have HU1 := Lib.hid hU1
      have HU2 := Lib.hid hU2
      have HD5 := Lib.hid hD5
      have HLEN3 := Lib.hid hlen3
      have hl5 := hU0.lt
      have hl5' := HB5.out.size
      obtain ⟨r0, r1, r2, r3, r4, r5, r6⟩ := str7 hU0
      clear hwf hwf' hU0 hU1 hU2 hg5 hD5 hlen3 q0 q1 q2 q3 q4 q5 q6 hl4 HT0 HT1 HT2 HLEN2 HB4 hsl
      refine Reg.Goal.mk ?_
      go_simp
      clear hcp
      go_wp2_with fail
      have hsl : ∀ W, (slSem 94 (.pointer (some ⟨w.heap.size + 1 + 1, 0, none⟩)) (some (.int .i64 (2 + (k.size : Int)))) none none).run Tryz.prog W = .ok (.slice (some ⟨w.heap.size + 1 + 1, 2 + k.size, none⟩) (64 - (2 + k.size)) (64 - (2 + k.size))) W := by
        intro W
        have := run_sl_from (P := Tryz.prog) arr64 (w.heap.size + 1 + 1) (2 + k.size) (by omega) W
        rwa [show ((2 + k.size : Nat) : Int) = 2 + (k.size : Int) by omega] at this
      refine Reg.wp_region_tail (R := ext) (W := w5) [Reg.eqv (.pointer (some ⟨w.heap.size, 1, none⟩)), Reg.eqv (.string k), Reg.eqv (.int .i64 (k.size : Int)), Reg.eqv (.int .i64 (2 + (k.size : Int))), Reg.eqv (.slice (some ⟨w.heap.size + 1 + 1, 2 + k.size, none⟩) (64 - (2 + k.size)) (64 - (2 + k.size))), Reg.eqv (.pointer (some ⟨w.heap.size, 2, none⟩)), Reg.eqv (.agg #[.int .i64 kind, .slice A n cap, .int .i64 lo, .int .i64 hi, .int .i64 val]), Reg.bytes (CellP.bytes ⟨kind, data, lo, hi, val⟩)] 36 8 _ [[(1, none)], [(26, some 0)], [(27, some 1)], [(28, some 2)], [(3, none), (29, some 3)], [(1, none)], [(31, some 5)], [(32, some 6)]] rfl (by kernel_rfl) (by kernel_rfl) (by rfl) (by rfl) rfl (by kernel_rfl) ?_ [some 26, some 27, some 28, some 29, some 30, some 31, some 32, some 33] (by kernel_rfl) ?_
      · refine ⟨?_, ?_, ?_, ?_, ?_, ?_, ?_, ?_, trivial⟩
        · intro ax wx hx hs
          obtain ⟨e1, -⟩ := hs
          have g1 := Reg.ev (v := .pointer (some ⟨w.heap.size, 0, none⟩)) e1
          exact Reg.obl_free rfl (Reg.wp_eqv (Option.some_ne_none _) (by go_simp) rfl)
        · intro ax wx hx hs
          obtain ⟨e26, -⟩ := hs
          have g26 := Reg.ev (v := .pointer (some ⟨w.heap.size, 1, none⟩)) e26
          obtain ⟨hc, -⟩ := bcell hx
          exact Reg.obl_free rfl (Reg.wp_eqv (Option.some_ne_none _) (by go_simp) rfl)
        · intro ax wx hx hs
          obtain ⟨e27, -⟩ := hs
          have g27 := Reg.ev (v := .string k) e27
          exact Reg.obl_free rfl (Reg.wp_eqv (Option.some_ne_none _) (by go_simp) rfl)
        · intro ax wx hx hs
          obtain ⟨e28, -⟩ := hs
          have g28 := Reg.ev (v := .int .i64 (k.size : Int)) e28
          refine Reg.obl_free rfl ?_
          exact Reg.wp_eqv (Option.some_ne_none _) (by go_simp; exact IntWalk.i64_in _ (by omega)) rfl
        · intro ax wx hx hs
          obtain ⟨e3, e29, -⟩ := hs
          have g3 := Reg.ev (v := .pointer (some ⟨w.heap.size + 1 + 1, 0, none⟩)) e3
          have g29 := Reg.ev (v := .int .i64 (2 + (k.size : Int))) e29
          exact Reg.obl_free rfl (Reg.wp_eqv (Option.some_ne_none _) (by go_simp) rfl)
        · intro ax wx hx hs
          obtain ⟨e1, -⟩ := hs
          have g1 := Reg.ev (v := .pointer (some ⟨w.heap.size, 0, none⟩)) e1
          exact Reg.obl_free rfl (Reg.wp_eqv (Option.some_ne_none _) (by go_simp) rfl)
        · intro ax wx hx hs
          obtain ⟨e31, -⟩ := hs
          have g31 := Reg.ev (v := .pointer (some ⟨w.heap.size, 2, none⟩)) e31
          obtain ⟨hc, -⟩ := bcell hx
          exact Reg.obl_free rfl (Reg.wp_eqv (Option.some_ne_none _) (by go_simp) rfl)
        · intro ax wx hx hs
          obtain ⟨e32, -⟩ := hs
          have g32 := Reg.ev (v := .agg #[.int .i64 kind, .slice A n cap, .int .i64 lo, .int .i64 hi, .int .i64 val]) e32
          refine Reg.obl_free rfl ?_
          go_simp
          have hx' : Below w5.heap.size w5 wx := hx
          refine (CellPut.put_any none A 0 0 n cap 0 B [] ⟨kind, data, lo, hi, val⟩ wx (Bytes.none_ _ _) (Nat.zero_le _) (HD5.out.below (hx'.mono (by omega))) (by have := hx'.size; omega) (by omega)).mono ?_
          rintro e wy ⟨A3, n3, c3, rfl, hy, hby⟩
          exact Reg.done (Option.some_ne_none _) ⟨A3, n3, c3, rfl, hy⟩ hby
      · intro wf hwf
        simp only [Reg.Fin]
        rintro _ rfl _ rfl _ rfl _ rfl _ rfl _ rfl _ rfl v33 h33
        obtain ⟨A3, n3, c3, rfl, hy⟩ := h33
        have hwf' : Below w5.heap.size w5 wf := hwf
        obtain ⟨w6, hcp, hV2, hg6⟩ := copy_bytes (P := Tryz.prog) 23 23 3 5 Tryz.underlying23 Be.sizeU8 (dLen := 64 - (2 + k.size)) (dCap := 64 - (2 + k.size)) (off := 2 + k.size) (HU2.out.next hwf') hy (by rw [HLEN3.out]; omega)
        have hn3 := hy.len
        rw [List.take_of_length_le (by have := HBL.out; omega)] at hV2
        have hx1 : UInt8.ofNat (Int.toNat 2) = 2 := rfl
        have hL := HL.out
        rw [hx1] at hL
        rw [hL] at hV2
        have hV1 := (HU1.out.next hwf').grown hg6 (by omega)
        have HB6 := Lib.hid (below_grown (bstep HB5.out hwf') hg6 (by omega))
        have hld := run_ld (P := Tryz.prog) arr64 hV2 (SlotP.bytes_length _)
        have hst := run_st (P := Tryz.prog) arr64 hV1 (by rw [rowV_size]; exact HZ.out) (SlotP.bytes_length ⟨2, k, kind, data, lo, hi, val⟩)
        have HB7 := Lib.hid (below_setRow HB6.out (by omega : w.heap.size ≤ w.heap.size + 1) (rowV (SlotP.bytes ⟨2, k, kind, data, lo, hi, val⟩)))
        have HS7 := Lib.hid (hV1.setRow (cs' := rowV (SlotP.bytes ⟨2, k, kind, data, lo, hi, val⟩)))
        clear hwf hwf' hV1 hV2 hg6 hL hx1 hn3 hy r0 r1 r2 r3 r4 r5 r6 hl5 hl5' hsl HU0 HU1 HU2 HD5 HLEN3 HB5 HB6
        refine Reg.Goal.mk ?_
        go_simp
        clear hcp
        go_wp2_with fail
        exact bodyPost_ret (v := .agg (rowV (SlotP.bytes ⟨2, k, kind, data, lo, hi, val⟩))) (results_arr arr64 Tryz.results47 _ HS7.out (SlotP.bytes_length _) rfl) rfl ⟨rfl, HB7.out⟩

theorem put_any (A : Option Addr) (n cap B : Nat) (x : Item) (w : World) (h : Bytes w B A n cap x.cell.data) (hB : B ≤ w.heap.size) (hk : x.key.size ≤ maxLen) :
    Calls Tryz.prog 47 #[SlotW.itemV A n cap x] w fun e w' => e = .returned (.agg (rowV (SlotP.bytes x))) ∧ Below w.heap.size w w' := by
  by_cases h0 : x.state ≠ 0 ∧ SlotP.right x = true
  · exact put_full A n cap B x w h hB hk h0.1 h0.2
  · exact put_zero A n cap B x w h hB hk h0
end Go.Proofs.YtpklclnehlgcpaaGreat.SlotPut
end
section
namespace Go.Proofs.YtpklclnehlgcpaaGreat
open Go.RowKit
set_option linter.unusedVariables false
set_option linter.unusedSimpArgs false
namespace DiffP
theorem apply_nil (p : List UInt8) : apply p [] = (p, 0) := by unfold apply; rfl
theorem apply_go {p : List UInt8} {r : RunX} {l : List RunX} (h : PatchP.within r = true) : apply p (r :: l) = apply (put p r) l := by rw [apply, if_pos h]
theorem apply_no {p : List UInt8} {r : RunX} {l : List RunX} (h : PatchP.within r = false) : apply p (r :: l) = (SlotP.zeros 512, 2) := by rw [apply, if_neg (by rw [h]; decide)]
theorem within_of {r : RunX} (h : PatchP.within r = true) : PatchP.Within r := Classical.byContradiction fun hn => by rw [PatchP.within_no r hn] at h; cases h
theorem put_len {p : List UInt8} {r : RunX} (hp : p.length = 512) (h : PatchP.Within r) : (put p r).length = 512 := by
  have h2 := h.2.1
  have h3 := h.2.2
  unfold PatchP.stop at h3
  unfold put
  rw [SlotP.over_length _ _ _ (by omega)]
  exact hp
end DiffP
namespace PatchW
theorem results_page {fn : Func} {p u : Tmp} (h : fn.results = #[.cell p 30, .tmp u]) (tmps : Array Value) {w : World} {g : Nat} {l : List UInt8} (hs : Str w g (rowV l)) (hl : l.length = 512) (hp : tmps.getD p undef = .pointer (some ⟨g, 0, none⟩)) :
    (results fn tmps).run Tryz.prog w = .ok (.tuple #[.agg (rowV l), tmps.getD u undef]) w := by
  have hr := run_ld (P := Tryz.prog) arrPage hs hl
  simp only [ldSem, Instr.loadAt, Instr.sureAddr, Sem.run_bind, Sem.run_pure, Result.andThen_ok] at hr
  rw [results_cell_tmp h, hp]
  simp [asAddr, hr]
attribute [local go_sem ↓] alPage_fold ldPage_fold stPage_fold bdPage_fold slPage_fold cp_fold
set_option maxRecDepth 100000 in
set_option maxHeartbeats 4000000 in
theorem Apply_any (p : List UInt8) (hp : p.length = 512) (A : Option Addr) (n c B : Nat) (l : List RunX) (w : World) (hE : Elems RunE w B A n c l) (hB : B ≤ w.heap.size) :
    Calls Tryz.prog 26 #[.agg (rowV p), .slice A n c] w fun e w' => e = .returned (.tuple #[.agg (rowV (DiffP.apply p l).1), .int .i64 (DiffP.apply p l).2]) ∧ Below w.heap.size w w' := by
  have hal := fun W => run_al (P := Tryz.prog) arrPage W
  have HL := Lib.hid hp
  have HE := Lib.hid hE
  have hlen := hE.len
  have hcap := hE.cap
  have hcm := hcap.2
  unfold maxLen at hcm
  have HZ := Lib.hid (SlotPut.zeros_len 512)
  clear hp hE
  go_enter Tryz.func26, Tryz.ntmps26
  go_wp2_with fail
  generalize hW0 : ((w).alloc (.cells (rowV p) 30)).alloc (.cells (rowV (SlotP.zeros 512)) 30) = W0
  have HS0_0 : Hid (Str W0 (w.heap.size) (rowV p)) := Lib.hid (by rw [← hW0]; have := (Str.new (w) (rowV p) 30).alloc (.cells (rowV (SlotP.zeros 512)) 30); simpa using this)
  have HS1_0 : Hid (Str W0 (w.heap.size + 1) (rowV (SlotP.zeros 512))) := Lib.hid (by rw [← hW0]; have := Str.new ((w).alloc (.cells (rowV p) 30)) (rowV (SlotP.zeros 512)) 30; simpa using this)
  have HB_0 : Hid (Below w.heap.size w W0) := Lib.hid (by rw [← hW0]; exact balloc (balloc (bsame w) _) _)
  have hw_0 := HB_0.out.size
  clear hW0
  have hl0_0 := HS0_0.out.lt
  have hl1_0 := HS1_0.out.lt
  clear hal
  go_loopw [10] (fun iv wr => ∃ (k : Nat) (q : List UInt8), k ≤ n ∧ iv = .int .i64 (k : Int) ∧ q.length = 512 ∧ Hid (DiffP.apply p l = DiffP.apply q (l.drop k)) ∧ Hid (Below w.heap.size w wr) ∧ Hid (Str wr w.heap.size (rowV q) ∧ Str wr (w.heap.size + 1) (rowV (SlotP.zeros 512)))) (fun iv _ => n - (intOf iv).toNat)
  case atStart => exact ⟨0, p, Nat.zero_le _, rfl, HL.out, Lib.hid rfl, HB_0, Lib.hid ⟨HS0_0.out, HS1_0.out⟩⟩
  case round =>
    obtain ⟨k, q, hk, rfl, hq, HQ, HB, HS⟩ := hrel
    have hwr := HB.out.size
    clear HB_0 HS0_0 HS1_0 hl0_0 hl1_0 hw_0
    by_cases hlt : k < n
    · have hd : decide ((k : Int) < (n : Int)) = true := by simp; omega
      obtain ⟨b, o, r, A2, n2, c2, rfl, hb, hr, hy, hir, q0, q1⟩ := run_at HE.out hlt
      have hyl := hy.len
      have hym : n2 ≤ maxLen := Nat.le_trans hy.2.1 hy.2.2.1
      replace q0 := (HB.out.cell (p := ⟨b, o + k * 2, none⟩) (by show b < _; omega)).trans q0
      replace q1 := (HB.out.cell (p := ⟨b, o + k * 2 + 1, none⟩) (by show b < _; omega)).trans q1
      have hst : PatchP.stop r = r.at_ + (n2 : Nat) := by unfold PatchP.stop; rw [hyl]
      have hdr : l.drop k = r :: l.drop (k + 1) := by
        obtain ⟨h1, h2⟩ := List.getElem?_eq_some_iff.1 hr
        rw [List.drop_eq_getElem_cons h1, h2]
      have HDR := Lib.hid hdr
      have HYW := Lib.hid (hy.below (HB.out.mono hB))
      clear hdr
      obtain ⟨rp, rd⟩ := r
      dsimp only at *
      go_wp2_with fail
      generalize hW1 : wr.alloc (.cells #[.int .i64 rp, .slice A2 n2 c2] 79) = W1
      obtain ⟨HS1, HB1, hw1, hz1⟩ := new1 hW1
      refine (within_any ⟨rp, rd⟩ A2 n2 c2 hyl hym hir W1).mono ?_
      rintro e W2 ⟨rfl, hb2⟩
      have HX2 := Lib.hid (HS1.out.next hb2)
      have hb12 := bstep HB1.out hb2
      have HB2 := Lib.hid (bstep HB.out hb12)
      have HP2 := Lib.hid (HS.out.1.next hb12)
      have HR2 := Lib.hid (HS.out.2.next hb12)
      have HY2 := Lib.hid (HYW.out.below (hb12.mono (by omega)))
      have hw2 := hb12.size
      clear hW1 hb2 HS1 HB1 hz1 hw1 q0 q1 hy hr hb12 HB HS HYW
      have g2 := str2 HX2.out
      have hl2 := HX2.out.lt
      cases hW : PatchP.within ⟨rp, rd⟩ with
      | true =>
        have hWi := DiffP.within_of hW
        have h12 : 12 ≤ rp := hWi.2.1
        have h512 := hWi.2.2
        have hdl : 0 < n2 := by have := hWi.1; dsimp only at this; omega
        rw [hst] at h512
        have HQ2 : Hid (DiffP.apply p l = DiffP.apply (DiffP.put q ⟨rp, rd⟩) (l.drop (k + 1))) := Lib.hid (by rw [HQ.out, HDR.out, DiffP.apply_go hW])
        have HPL := Lib.hid (DiffP.put_len (r := ⟨rp, rd⟩) hq hWi)
        clear hW hWi hst
        obtain ⟨a, rfl⟩ : ∃ a : Nat, rp = (a : Int) := ⟨rp.toNat, by omega⟩
        have hPE : DiffP.put q ⟨(a : Int), rd⟩ = SlotP.over q a rd := rfl
        rw [hPE] at HQ2 HPL
        have hsl : ∀ W, (slSem 30 (.pointer (some ⟨w.heap.size, 0, none⟩)) (some (.int .i64 (a : Int))) none none).run Tryz.prog W = .ok (.slice (some ⟨w.heap.size, a, none⟩) (512 - a) (512 - a)) W := fun W => run_sl_from (P := Tryz.prog) arrPage w.heap.size a (by omega) W
        have HSL := Lib.hid hsl
        clear hsl hPE
        go_wp2_with fail
        refine Reg.wp_region_tail (R := ext) (W := W2) [Reg.eqv (.pointer (some ⟨wr.heap.size, 0, none⟩)), Reg.eqv (.int .i64 (a : Int)), Reg.eqv (.slice (some ⟨w.heap.size, a, none⟩) (512 - a) (512 - a)), Reg.eqv (.pointer (some ⟨wr.heap.size, 1, none⟩)), Reg.eqv (.slice A2 n2 c2)] 26 5 _ [[(7, none)], [(18, some 0)], [(2, none), (19, some 1)], [(7, none)], [(21, some 3)]] rfl (by kernel_rfl) (by kernel_rfl) (by rfl) (by rfl) rfl (by kernel_rfl) ?_ [some 18, some 19, some 20, some 21, some 22] (by kernel_rfl) ?_
        · refine ⟨?_, ?_, ?_, ?_, ?_, trivial⟩
          · intro ax wx hx hs
            obtain ⟨e7, -⟩ := hs
            have g7 := Reg.ev (v := .pointer (some ⟨wr.heap.size, 0, none⟩)) e7
            exact Reg.obl_free rfl (Reg.wp_eqv (Option.some_ne_none _) (by go_simp) rfl)
          · intro ax wx hx hs
            obtain ⟨e18, -⟩ := hs
            have g18 := Reg.ev (v := .pointer (some ⟨wr.heap.size, 0, none⟩)) e18
            have q0 := str2 (HX2.out.next hx)
            exact Reg.obl_free rfl (Reg.wp_eqv (Option.some_ne_none _) (by go_simp) rfl)
          · intro ax wx hx hs
            obtain ⟨e2, e19, -⟩ := hs
            have g2 := Reg.ev (v := .pointer (some ⟨w.heap.size, 0, none⟩)) e2
            have g19 := Reg.ev (v := .int .i64 (a : Int)) e19
            refine Reg.obl_free rfl ?_
            have hsl := HSL.out
            exact Reg.wp_eqv (Option.some_ne_none _) (by go_simp) rfl
          · intro ax wx hx hs
            obtain ⟨e7, -⟩ := hs
            have g7 := Reg.ev (v := .pointer (some ⟨wr.heap.size, 0, none⟩)) e7
            exact Reg.obl_free rfl (Reg.wp_eqv (Option.some_ne_none _) (by go_simp) rfl)
          · intro ax wx hx hs
            obtain ⟨e21, -⟩ := hs
            have g21 := Reg.ev (v := .pointer (some ⟨wr.heap.size, 1, none⟩)) e21
            have q0 := str2 (HX2.out.next hx)
            exact Reg.obl_free rfl (Reg.wp_eqv (Option.some_ne_none _) (by go_simp) rfl)
        · intro W3 hwf
          simp only [Reg.Fin]
          rintro _ rfl _ rfl _ rfl _ rfl _ rfl
          have hwf' : Below W2.heap.size W2 W3 := hwf
          obtain ⟨W4, hcp, hV0, hg4⟩ := copy_bytes (P := Tryz.prog) 23 23 3 5 Tryz.underlying23 Be.sizeU8 (dLen := 512 - a) (dCap := 512 - a) (off := a) (HP2.out.next hwf') (HY2.out.below (hwf'.mono (by omega))) (by rw [hq]; omega)
          rw [List.take_of_length_le (by omega)] at hV0
          rw [show Nat.min n2 (512 - a) = n2 from Nat.min_eq_left (by omega)] at hcp
          have HV0 := Lib.hid hV0
          have HR4 := Lib.hid ((HR2.out.next hwf').grown hg4 (by omega))
          have HB4 := Lib.hid (below_grown (bstep HB2.out hwf') hg4 (Nat.le_refl _))
          clear hwf hwf' hV0 hg4 g2 hl2 HP2 HR2 HB2 HY2
          refine Reg.Goal.mk ?_
          go_simp
          clear hcp
          go_wp2
          go_roundw
          case rel => exact ⟨k + 1, SlotP.over q a rd, by omega, by go_num, HPL.out, HQ2, HB4, Lib.hid ⟨HV0.out, HR4.out⟩⟩
          case measure => simp [intOf]; omega
      | false =>
        have HQ2 : Hid (DiffP.apply p l = (SlotP.zeros 512, 2)) := Lib.hid (by rw [HQ.out, HDR.out, DiffP.apply_no hW])
        clear hW
        have hbd := fun W => run_bd (P := Tryz.prog) arrPage W
        have hst := run_st (P := Tryz.prog) arrPage HR2.out (by rw [rowV_size]; exact HZ.out) HZ.out
        have HSF := Lib.hid (HR2.out.setRow (cs' := rowV (SlotP.zeros 512)))
        have HBF := Lib.hid (below_setRow HB2.out (by omega : w.heap.size ≤ w.heap.size + 1) (rowV (SlotP.zeros 512)))
        go_wp2_with fail
        exact bodyPost_ret (v := .tuple #[.agg (rowV (SlotP.zeros 512)), .int .i64 2]) (results_page Tryz.results26 _ HSF.out HZ.out rfl) rfl ⟨by rw [HQ2.out], HBF.out⟩
    · have hd : decide ((k : Int) < (n : Int)) = false := by simp; omega
      have hkn : k = n := by omega
      subst hkn
      have HQ2 : Hid (DiffP.apply p l = (q, 0)) := Lib.hid (by rw [HQ.out, List.drop_of_length_le (by omega), DiffP.apply_nil])
      have hld := run_ld (P := Tryz.prog) arrPage HS.out.1 hq
      have hst := run_st (P := Tryz.prog) arrPage HS.out.2 (by rw [rowV_size]; exact HZ.out) hq
      have HSF := Lib.hid (HS.out.2.setRow (cs' := rowV q))
      have HBF := Lib.hid (below_setRow HB.out (by omega : w.heap.size ≤ w.heap.size + 1) (rowV q))
      go_wp2_with fail
      exact bodyPost_ret (v := .tuple #[.agg (rowV q), .int .i64 0]) (results_page Tryz.results26 _ HSF.out hq rfl) rfl ⟨by rw [HQ2.out], HBF.out⟩
end PatchW
end Go.Proofs.YtpklclnehlgcpaaGreat
end
