/-
  Parts of the proof of RecRows.
-/
import Derived.Test.YtiokcemlfdonnaaRecR6
import Derived.Test.YtiokcemlfdonnaaRecR4
import Derived.Test.YtiokcemlfdonnaaRecR8
import Derived.Test.YtiokcemlfdonnaaRecR13
import Derived.Deep.RegionWith
import Derived.Test.YtiokcemlfdonnaaRecR2
import Derived.Lib.AppendZerosOnto
import Derived.Lib.AppendStr
section
namespace Go.Proofs.Ytiokcemlfdonnaa
open Go.RowKit
theorem Reg.KeepB.grownO {N : Nat} {b0 : List Nat} {a b c : World} {ob : Option Nat} (h : Reg.KeepB N b0 a b) (k : b.grownBy c ob) (hN : N ≤ b.heap.size) (hg : ∀ g, ob = some g → N ≤ g ∨ g ∈ b0) : Reg.KeepB N b0 a c :=
  ⟨k.os.trans h.os, k.tape.trans h.tape, k.output.trans h.output, Nat.le_trans h.size k.size, fun i hi hb => (k.block i (Nat.lt_of_lt_of_le hi hN) (fun e => by
    rcases hg i e.symm with h1 | h1
    · omega
    · exact hb h1)).trans (h.block i hi hb)⟩
namespace PatchW
set_option linter.unusedVariables false
set_option linter.unusedSimpArgs false
attribute [local go_sem ↓] app_fold
/-- a slice of bytes in a box, which owns them -/
def Out (w : World) (B : Nat) (g : Option Nat) (l : List UInt8) : Prop := ∃ A n c, Str w B #[.slice A n c] ∧ OwnS w g A n c l ∧ g ≠ some B
def Added (w : World) (B : Nat) (g : Option Nat) (l : List UInt8) (e : Ending) (w' : World) : Prop := e = .returned (.tuple #[]) ∧ ∃ g', Out w' B g' l ∧ Reg.KeepB w.heap.size (B :: g.toList) w w' ∧ (g' = g ∨ ∃ b, g' = some b ∧ w.heap.size ≤ b)
theorem Out.next {w w' : World} {B : Nat} {g : Option Nat} {l : List UInt8} (h : Out w B g l) (hb : Below w.heap.size w w') : Out w' B g l := by
  obtain ⟨A, n, c, h1, h2, h3⟩ := h
  exact ⟨A, n, c, h1.next hb, h2.next hb, h3⟩
theorem Out.lt {w : World} {B : Nat} {g : Option Nat} {l : List UInt8} (h : Out w B g l) : B < w.heap.size ∧ ∀ b, g = some b → b < w.heap.size := by
  obtain ⟨A, n, c, h1, h2, h3⟩ := h
  exact ⟨h1.lt, h2.lt⟩
/-- a slice is stored into the box -/
theorem out_set {w w2 : World} {B : Nat} {g g' : Option Nat} {A A' : Option Addr} {n c n' c' : Nat} {l' : List UInt8} (hB : B < w.heap.size) (hgB : g ≠ some B) (hk : Reg.KeepB w.heap.size (B :: g.toList) w w2) (hS : Str w2 B #[.slice A n c]) (hO : OwnS w2 g' A' n' c' l') (hg : g' = g ∨ ∃ b, g' = some b ∧ w.heap.size ≤ b) :
    Out (w2.setCell ⟨B, 0, none⟩ (.slice A' n' c')) B g' l' ∧ Reg.KeepB w.heap.size (B :: g.toList) w (w2.setCell ⟨B, 0, none⟩ (.slice A' n' c')) := by
  have hne : g' ≠ some B := by
    rcases hg with rfl | ⟨b, rfl, hb⟩
    · exact hgB
    · intro e; cases e; omega
  have hgs : w2.grownBy (w2.setCell ⟨B, 0, none⟩ (.slice A' n' c')) (some B) := grownBy_setCell' w2 B _
  refine ⟨⟨A', n', c', ?_, hO.grown hgs hne, hne⟩, hk.grown hgs hk.size (.inr (List.mem_cons_self ..))⟩
  have := hS.set 0 (.slice A' n' c')
  simpa using this
set_option maxHeartbeats 1000000 in
theorem add_any (B width : Nat) (g : Option Nat) (m : Int) (l : List UInt8) (w : World) (h : Out w B g l) (hw1 : 1 ≤ width) (hw8 : width ≤ 8) (hn : l.length + 8 ≤ 140737488355328) :
    Calls Try.prog 73 #[.int .i64 (width : Int), .int .i64 m, .pointer (some ⟨B, 0, none⟩)] w (Added w B g (l ++ BeP.parts width m)) := by
  obtain ⟨A, n, c, hS, hO, hne⟩ := h
  have hc := str1 hS
  have hlt := hS.lt
  have hln := hO.len
  have HS := Lib.hid hS
  have HOWN := Lib.hid hO
  have HNE := Lib.hid hne
  clear hS hO hne
  have hpl := BeP.parts_length width m
  have HPL := Lib.hid hpl
  clear hpl
  go_enter Try.func73, Try.ntmps73
  go_wp2
  go_region_with ((go_at_call 32; refine (Be.put_wide none 0 0 0 [] width m _ (Bytes.none_ _ _) (Nat.zero_le _) hw1 hw8 (by omega)).mono ?_; rintro e w1 ⟨A1, n1, c1, rfl, hby, hb⟩; have hn1 : n1 = width := hby.len.symm.trans (by simp [HPL.out]); have hbs := hb.size; obtain ⟨A', c', w2, gb', happ, hown2, hgrow2, hgb⟩ := ((HOWN.out.at_ (w' := w.drew) (fun _ _ => rfl)).next hb).app (P := Try.prog) 23 23 5 Try.underlying23 Be.infoU8 hby (by omega); have hb1 : Str w1 B #[.slice A n c] := Str.next (w := w.drew) HS.out hb; have hb2 : Str w2 B #[.slice A n c] := hb1.grownO hgrow2 HNE.out; have hc1 := str1 hb1; have hc2 := str1 hb2; have hf2 := hb2.frozen 0; have HBY := Lib.hid hby; have HB := Lib.hid hb; have HO2 := Lib.hid hown2; have HG2 := Lib.hid hgrow2; have HN1 := Lib.hid hn1; have HGB := Lib.hid hgb; have HB2 := Lib.hid hb2; clear hby hb hown2 hgrow2 hn1 hgb hb1 hb2))
  all_goals go_end0
  all_goals
    have hbw : Below w.heap.size w w1 := (Below.refl _ w).drew.trans HB.out
    have hkw : Reg.KeepB w.heap.size (B :: g.toList) w w2 := (Reg.KeepB.of hbw).grownO HG2.out hbw.size (fun k e => .inr (by rw [e]; simp))
    have hl1 := HN1.out
    have hgg : gb' = g ∨ ∃ b, gb' = some b ∧ w.heap.size ≤ b := HGB.out.imp id (fun e => ⟨_, e, hbw.size⟩)
    obtain ⟨q1, q2⟩ := out_set hlt HNE.out hkw HB2.out HO2.out hgg
    exact ⟨rfl, gb', by simpa using q1, q2, hgg⟩
/-- what the rounds of Put keep -/
structure PK (w wr : World) (B : Nat) (g : Option Nat) (cs : Array Value) (l : List UInt8) : Prop where
  out : Out wr B g l
  bel : Below w.heap.size w wr
  box : Str wr w.heap.size cs
  lo : w.heap.size < B
  glo : ∀ b, g = some b → w.heap.size < b
theorem PK.next {w wr wr' : World} {B : Nat} {g : Option Nat} {cs : Array Value} {l : List UInt8} (h : PK w wr B g cs l) (hb : Below wr.heap.size wr wr') : PK w wr' B g cs l :=
  ⟨h.out.next hb, bstep h.bel hb, h.box.next hb, h.lo, h.glo⟩
theorem PK.turn {w wr wr' : World} {B : Nat} {g g' : Option Nat} {cs : Array Value} {l l' : List UInt8} (h : PK w wr B g cs l) (ho : Out wr' B g' l') (hk : Reg.KeepB wr.heap.size (B :: g.toList) wr wr') (hg : g' = g ∨ ∃ b, g' = some b ∧ wr.heap.size ≤ b) : PK w wr' B g' cs l' := by
  have hlt := h.box.lt
  refine ⟨ho, h.bel.trans (hk.below h.bel.size (fun b hb => ?_)), h.box.keepB hk (fun hb => ?_), h.lo, fun b e => ?_⟩
  · simp only [List.mem_cons, Option.mem_toList] at hb
    rcases hb with rfl | hb
    · exact Nat.le_of_lt h.lo
    · exact Nat.le_of_lt (h.glo b hb)
  · simp only [List.mem_cons, Option.mem_toList] at hb
    rcases hb with hb | hb
    · have := h.lo; omega
    · have := h.glo _ hb; omega
  · rcases hg with rfl | ⟨b', rfl, hb⟩
    · exact h.glo b e
    · cases e; omega
theorem flag_true : PatchP.flag true = 1 := rfl
theorem flag_false : PatchP.flag false = 0 := rfl
set_option maxRecDepth 100000 in
set_option maxHeartbeats 4000000 in
theorem put_new (A : Option Addr) (n c B0 : Nat) (l : List UInt8) (x : PatchX) (A2 : Option Addr) (n2 c2 B2 : Nat) (w : World) (h : Bytes w B0 A n c l) (hB0 : B0 ≤ w.heap.size) (hE : Elems RunE w B2 A2 n2 c2 x.runs) (hB2 : B2 ≤ w.heap.size) (hi : In64 x.page) (hn : n ≤ 100000000000000) :
    Calls Try.prog 33 #[.slice A n c, .agg #[.int .i64 x.page, .bool x.fresh, .slice A2 n2 c2]] w (GivesNew w (l ++ PatchP.bytes x)) := by
  have HE := Lib.hid hE
  have hlen := hE.len
  have hcap := hE.cap
  have hcm := hcap.2
  unfold maxLen at hcm
  have hln := h.len
  have HI := Lib.hid hi
  clear hE
  have HBX : Hid (PatchP.bytes x = if PatchP.right x = true then PatchP.body x else []) := Lib.hid rfl
  have HRT : Hid (PatchP.right x = true → x.runs.length ≤ 500 ∧ (∀ (k : Nat) r, x.runs[k]? = some r → 12 ≤ r.at_ ∧ r.at_ ≤ 511 ∧ 1 ≤ r.data.length ∧ r.data.length ≤ 500) ∧ ∀ k, (PatchP.runsB (x.runs.take k)).length ≤ 252000) := Lib.hid (fun h => by
    have hR := (PatchP.right_iff x).1 h
    exact ⟨hR.2.2.1, fun k r hr => PatchP.in_runs hR hr, fun k => PatchP.runs_le hR k⟩)
  have HBO : Hid (PatchP.body x = BeP.parts 2 x.page ++ (BeP.parts 1 (PatchP.flag x.fresh) ++ BeP.parts 2 (x.runs.length : Nat)) ++ PatchP.runsB x.runs) := Lib.hid rfl
  have hchk := fun W (h1 : Elems RunE W B2 A2 n2 c2 x.runs) (h2 : B2 ≤ W.heap.size) => check_any x A2 n2 c2 B2 W h1 h2 hi
  have HC := Lib.hid hchk
  clear hchk hi
  obtain ⟨p, fr, rs⟩ := x
  dsimp only at *
  obtain ⟨W0, hW0⟩ : ∃ W, w.alloc (.cells #[.int .i64 p, .bool fr, .slice A2 n2 c2] 63) = W := ⟨_, rfl⟩
  obtain ⟨HS0, HB0, hw0, hz0⟩ := new1 hW0
  obtain ⟨A3, c3, W1, g3, happ, hO1, hg1, hgb1⟩ := (OwnS.none_ W0).app (P := Try.prog) 23 23 5 Try.underlying23 Be.infoU8 (h.below (HB0.out.mono hB0)) (by omega)
  rw [Nat.zero_add] at happ hO1
  rw [List.nil_append] at hO1
  have hb1 : Below W0.heap.size W0 W1 := (Below.refl _ W0).grown hg1 (Nat.le_refl _) (fun k e => by cases e)
  obtain ⟨W2, hW2⟩ : ∃ W, W1.alloc (.cells #[.slice A3 n c3] 23) = W := ⟨_, rfl⟩
  obtain ⟨HS2, HB2, hw2, hz2⟩ := new1 hW2
  have hs1 := hb1.size
  have HK : Hid (PK w W2 W1.heap.size g3 #[.int .i64 p, .bool fr, .slice A2 n2 c2] l) := Lib.hid ⟨⟨A3, n, c3, HS2.out, hO1.next HB2.out, fun e => by have := hO1.lt _ e; omega⟩, bstep (bstep HB0.out hb1) HB2.out, (HS0.out.next hb1).next HB2.out, by omega, fun b e => by
    rcases hgb1 with e1 | e1
    · rw [e1] at e; cases e
    · rw [e1] at e; cases e; omega⟩
  have hBo := HK.out.out.lt.1
  have hBlo := HK.out.lo
  have g0 := str3 HK.out.box
  have hl0 := HK.out.box.lt
  clear hO1 hg1 hgb1 hb1 HS2 HB2 hz2 HS0 HB0 hs1 hw2 hz0 h
  go_enter Try.func33, Try.ntmps33
  go_wp2_with fail
  refine (HC.out W2 (HE.out.below (HK.out.bel.mono hB2)) (by have := HK.out.bel.size; omega)).mono ?_
  rintro e W3 ⟨rfl, hb3⟩
  replace HK := Lib.hid (HK.out.next hb3)
  clear hb3 g0 hl0 hBo
  have g0 := str3 HK.out.box
  have hl0 := HK.out.box.lt
  cases hr : PatchP.right ⟨p, fr, rs⟩ with
  | false =>
    have hfin : l ++ PatchP.bytes ⟨p, fr, rs⟩ = l := by rw [HBX.out, hr, if_neg (by decide), List.append_nil]
    have HFIN := Lib.hid hfin
    obtain ⟨A4, n4, c4, hS4, hO4, hne4⟩ := HK.out.out
    have g4 := str1 hS4
    have hl4 := hS4.lt
    have HO4 := Lib.hid hO4
    have hcode : code false = 1 := rfl
    rw [hcode]
    clear hS4 hO4 hne4 hfin hr
    go_wp2
    go_ret
    exact ⟨A4, n4, c4, rfl, by rw [HFIN.out]; exact HO4.out.above (fun b e => Nat.le_of_lt (HK.out.glo b e)), HK.out.bel⟩
  | true =>
    have hcode : code true = 0 := rfl
    rw [hcode]
    have hl500 := (HRT.out hr).1
    have HIN := Lib.hid (HRT.out hr).2.1
    have HRS := Lib.hid (HRT.out hr).2.2
    have hfin : l ++ PatchP.bytes ⟨p, fr, rs⟩ = l ++ BeP.parts 2 p ++ BeP.parts 1 (PatchP.flag fr) ++ BeP.parts 2 (n2 : Int) ++ PatchP.runsB rs := by
      rw [HBX.out, hr, if_pos rfl, HBO.out, hlen]; simp
    have HFIN := Lib.hid hfin
    have HL := Lib.hid (And.intro hln hlen)
    clear hfin hr hln HRT HBX HBO
    go_wp2_with fail
    refine (add_any W1.heap.size 2 _ p l W3 HK.out.out (by omega) (by omega) (by rw [HL.out.1]; omega)).mono ?_
    rintro e W4 ⟨rfl, g4, ho4, hk4, hg4⟩
    replace HK := Lib.hid (HK.out.turn ho4 hk4 hg4)
    clear ho4 hk4 hg4 g0 hl0
    have g0 := str3 HK.out.box
    have hl0 := HK.out.box.lt
    have hflag : ∀ W, Calls Try.prog 73 #[.int .i64 1, .int .i64 (PatchP.flag fr), .pointer (some ⟨W1.heap.size, 0, none⟩)] W = Calls Try.prog 73 #[.int .i64 ((1 : Nat) : Int), .int .i64 (PatchP.flag fr), .pointer (some ⟨W1.heap.size, 0, none⟩)] W := fun _ => rfl
    have HADD := Lib.hid (add_any W1.heap.size 1 _ (PatchP.flag fr) (l ++ BeP.parts 2 p) W4 HK.out.out (by omega) (by omega) (by rw [List.length_append, BeP.parts_length, HL.out.1]; omega))
    clear hflag
    have key : ∀ W5 g5, Hid (PK w W5 W1.heap.size g5 #[.int .i64 p, .bool fr, .slice A2 n2 c2] (l ++ BeP.parts 2 p ++ BeP.parts 1 (PatchP.flag fr))) → True := fun _ _ _ => trivial
    clear key
    cases fr with
    | true =>
      rw [flag_true] at HADD HFIN
      go_wp2_with fail
      refine HADD.out.mono ?_
      rintro e W5 ⟨rfl, g5, ho5, hk5, hg5⟩
      replace HK := Lib.hid (HK.out.turn ho5 hk5 hg5)
      clear ho5 hk5 hg5 g0 hl0 HADD
      have g0 := str3 HK.out.box
      have hl0 := HK.out.box.lt
      go_wp2_with fail
      refine (add_any W1.heap.size 2 _ (n2 : Int) (l ++ BeP.parts 2 p ++ BeP.parts 1 1) W5 HK.out.out (by omega) (by omega) (by simp only [List.length_append, BeP.parts_length, HL.out.1]; omega)).mono ?_
      rintro e W6 ⟨rfl, g6, ho6, hk6, hg6⟩
      replace HK := Lib.hid (HK.out.turn ho6 hk6 hg6)
      clear ho6 hk6 hg6 g0 hl0
      have g0 := str3 HK.out.box
      have hl0 := HK.out.box.lt
      obtain ⟨L0, hL0⟩ : ∃ L, l ++ BeP.parts 2 p ++ BeP.parts 1 1 ++ BeP.parts 2 (n2 : Int) = L := ⟨_, rfl⟩
      have hL0l : L0.length = n + 5 := by rw [← hL0]; simp only [List.length_append, BeP.parts_length, HL.out.1]
      rw [hL0] at HK HFIN
      clear hL0
      go_wp2
      go_loopw [34] (fun iv wr => ∃ (k : Nat) (gk : Option Nat), k ≤ n2 ∧ iv = .int .i64 (k : Int) ∧ Hid (PK w wr W1.heap.size gk #[.int .i64 p, .bool true, .slice A2 n2 c2] (L0 ++ PatchP.runsB (rs.take k)))) (fun iv _ => n2 - (intOf iv).toNat)
      case atStart => exact ⟨0, g6, Nat.zero_le _, rfl, Lib.hid (by simpa [PatchP.runsB] using HK.out)⟩
      case round =>
        obtain ⟨k, gk, hk, rfl, HQ⟩ := hrel
        clear HK g0 hl0
        have g0 := str3 HQ.out.box
        have hl0 := HQ.out.box.lt
        have hwr := HQ.out.bel.size
        have hko := HQ.out.out.lt
        by_cases hlt : k < n2
        · have hd : decide ((k : Int) < (n2 : Int)) = true := by simp; omega
          obtain ⟨b, o, r, A4, n4, c4, rfl, hb, hr, hy, hir, q0, q1⟩ := run_at HE.out hlt
          have hrin := HIN.out k r hr
          have hyl := hy.len
          replace q0 := (HQ.out.bel.cell (p := ⟨b, o + k * 2, none⟩) (by show b < _; omega)).trans q0
          replace q1 := (HQ.out.bel.cell (p := ⟨b, o + k * 2 + 1, none⟩) (by show b < _; omega)).trans q1
          have hsn : L0 ++ PatchP.runsB (rs.take (k + 1)) = L0 ++ PatchP.runsB (rs.take k) ++ BeP.parts 2 r.at_ ++ BeP.parts 2 (n4 : Int) ++ r.data := by
            rw [PatchP.runsB_snoc _ _ _ hr]
            simp only [PatchP.runB, hyl, List.append_assoc]
          have HSN := Lib.hid hsn
          have hrk := HRS.out k
          obtain ⟨rp, rd⟩ := r
          dsimp only at *
          obtain ⟨Lk, hLk⟩ : ∃ L, L0 ++ PatchP.runsB (rs.take k) = L := ⟨_, rfl⟩
          have hLkl : Lk.length ≤ n + 5 + 252000 := by rw [← hLk, List.length_append, hL0l]; omega
          rw [hLk] at HQ HSN
          obtain ⟨W7, hW7⟩ : ∃ W, wr.alloc (.cells #[.int .i64 rp, .slice A4 n4 c4] 100) = W := ⟨_, rfl⟩
          obtain ⟨HS7, HB7, hw7, hz7⟩ := new1 hW7
          have HQ7 := Lib.hid (HQ.out.next HB7.out)
          have HY0 := Lib.hid hy
          have g7 := str2 HS7.out
          have hl7 := HS7.out.lt
          have hb0 : wr.heap.size ∉ W1.heap.size :: gk.toList := by
            simp only [List.mem_cons, Option.mem_toList, not_or]
            exact ⟨by omega, fun e => by have := hko.2 _ e; omega⟩
          have HB0 := Lib.hid hb0
          clear hsn hy hr HB7 hz7 HQ g0 hl0 hLk hrk hb0
          go_wp2_with fail
          clear q0 q1
          refine (add_any W1.heap.size 2 _ rp Lk W7 HQ7.out.out (by omega) (by omega) (by omega)).mono ?_
          rintro e W8 ⟨rfl, g8, ho8, hk8, hg8⟩
          have HQ8 := Lib.hid (HQ7.out.turn ho8 hk8 hg8)
          have HS8 := Lib.hid (HS7.out.keepB hk8 HB0.out)
          have hb8 : wr.heap.size ∉ W1.heap.size :: g8.toList := by
            have h0 := HB0.out
            simp only [List.mem_cons, Option.mem_toList, not_or] at h0 ⊢
            refine ⟨h0.1, fun e => ?_⟩
            rcases hg8 with rfl | ⟨b', rfl, hb'⟩
            · exact h0.2 e
            · cases e; omega
          have HB8 := Lib.hid hb8
          have HY8 := Lib.hid (hk8.size)
          clear ho8 hk8 hg8 hb8 g7 hl7 HS7
          have g8' := str2 HS8.out
          have hl8 := HS8.out.lt
          go_wp2_with fail
          refine (add_any W1.heap.size 2 _ (n4 : Int) (Lk ++ BeP.parts 2 rp) W8 HQ8.out.out (by omega) (by omega) (by simp only [List.length_append, BeP.parts_length]; omega)).mono ?_
          rintro e W9 ⟨rfl, g9, ho9, hk9, hg9⟩
          have HQ9 := Lib.hid (HQ8.out.turn ho9 hk9 hg9)
          have HS9 := Lib.hid (HS8.out.keepB hk9 HB8.out)
          clear ho9 hk9 hg9 g8' hl8 HS8
          have g9' := str2 HS9.out
          have hl9 := HS9.out.lt
          obtain ⟨A5, n5, c5, hS5, hO5, hne5⟩ := HQ9.out.out
          have hY5 : Bytes W9 B2 A4 n4 c4 rd := HY0.out.below (HQ9.out.bel.mono hB2)
          have hn5 : n5 = Lk.length + 4 := by rw [← hO5.len]; simp only [List.length_append, BeP.parts_length]
          subst hn5
          obtain ⟨A6, c6, W10, g10, happ10, hO10, hg10, hgb10⟩ := hO5.app (P := Try.prog) 23 23 5 Try.underlying23 Be.infoU8 hY5 (by omega)
          have hS10 := hS5.grownO hg10 hne5
          have hlt9 := hS5.lt
          have hkw : Reg.KeepB W9.heap.size (W1.heap.size :: g9.toList) W9 W10 := (Reg.KeepB.of (bsame W9)).grownO hg10 (Nat.le_refl _) (fun k e => .inr (by rw [e]; simp))
          have hgg : g10 = g9 ∨ ∃ b, g10 = some b ∧ W9.heap.size ≤ b := hgb10.imp id (fun e => ⟨_, e, Nat.le_refl _⟩)
          obtain ⟨ho11, hk11⟩ := out_set hlt9 hne5 hkw hS10 hO10 hgg
          have HQ11 := Lib.hid (HQ9.out.turn ho11 hk11 hgg)
          rw [← HSN.out] at HQ11
          have g5' := str1 hS5
          have g10' := str1 hS10
          have hf10 := hS10.frozen 0
          have hl10 := hS10.lt
          clear hS5 hO5 hne5 hY5 hO10 hg10 hgb10 hS10 hkw hgg ho11 hk11 HQ8 HQ9 HQ7
          go_wp2
          go_roundw
          case rel => exact ⟨k + 1, g10, by omega, by go_num, HQ11⟩
          case measure => simp [intOf]; omega
        · have hd : decide ((k : Int) < (n2 : Int)) = false := by simp; omega
          have hkn : k = n2 := by omega
          subst hkn
          have htk : rs.take k = rs := List.take_of_length_le (by rw [HL.out.2]; exact Nat.le_refl _)
          rw [htk, ← HFIN.out] at HQ
          obtain ⟨A4, n4, c4, hS4, hO4, hne4⟩ := HQ.out.out
          have g4' := str1 hS4
          have hl4 := hS4.lt
          have HO4 := Lib.hid hO4
          clear hS4 hO4 hne4 htk
          go_wp2
          go_ret
          exact ⟨A4, n4, c4, rfl, HO4.out.above (fun b e => Nat.le_of_lt (HQ.out.glo b e)), HQ.out.bel⟩
    | false =>
      rw [flag_false] at HADD HFIN
      go_wp2_with fail
      refine HADD.out.mono ?_
      rintro e W5 ⟨rfl, g5, ho5, hk5, hg5⟩
      replace HK := Lib.hid (HK.out.turn ho5 hk5 hg5)
      clear ho5 hk5 hg5 g0 hl0 HADD
      have g0 := str3 HK.out.box
      have hl0 := HK.out.box.lt
      go_wp2_with fail
      refine (add_any W1.heap.size 2 _ (n2 : Int) (l ++ BeP.parts 2 p ++ BeP.parts 1 0) W5 HK.out.out (by omega) (by omega) (by simp only [List.length_append, BeP.parts_length, HL.out.1]; omega)).mono ?_
      rintro e W6 ⟨rfl, g6, ho6, hk6, hg6⟩
      replace HK := Lib.hid (HK.out.turn ho6 hk6 hg6)
      clear ho6 hk6 hg6 g0 hl0
      have g0 := str3 HK.out.box
      have hl0 := HK.out.box.lt
      obtain ⟨L0, hL0⟩ : ∃ L, l ++ BeP.parts 2 p ++ BeP.parts 1 0 ++ BeP.parts 2 (n2 : Int) = L := ⟨_, rfl⟩
      have hL0l : L0.length = n + 5 := by rw [← hL0]; simp only [List.length_append, BeP.parts_length, HL.out.1]
      rw [hL0] at HK HFIN
      clear hL0
      go_wp2
      go_loopw [34] (fun iv wr => ∃ (k : Nat) (gk : Option Nat), k ≤ n2 ∧ iv = .int .i64 (k : Int) ∧ Hid (PK w wr W1.heap.size gk #[.int .i64 p, .bool false, .slice A2 n2 c2] (L0 ++ PatchP.runsB (rs.take k)))) (fun iv _ => n2 - (intOf iv).toNat)
      case atStart => exact ⟨0, g6, Nat.zero_le _, rfl, Lib.hid (by simpa [PatchP.runsB] using HK.out)⟩
      case round =>
        obtain ⟨k, gk, hk, rfl, HQ⟩ := hrel
        clear HK g0 hl0
        have g0 := str3 HQ.out.box
        have hl0 := HQ.out.box.lt
        have hwr := HQ.out.bel.size
        have hko := HQ.out.out.lt
        by_cases hlt : k < n2
        · have hd : decide ((k : Int) < (n2 : Int)) = true := by simp; omega
          obtain ⟨b, o, r, A4, n4, c4, rfl, hb, hr, hy, hir, q0, q1⟩ := run_at HE.out hlt
          have hrin := HIN.out k r hr
          have hyl := hy.len
          replace q0 := (HQ.out.bel.cell (p := ⟨b, o + k * 2, none⟩) (by show b < _; omega)).trans q0
          replace q1 := (HQ.out.bel.cell (p := ⟨b, o + k * 2 + 1, none⟩) (by show b < _; omega)).trans q1
          have hsn : L0 ++ PatchP.runsB (rs.take (k + 1)) = L0 ++ PatchP.runsB (rs.take k) ++ BeP.parts 2 r.at_ ++ BeP.parts 2 (n4 : Int) ++ r.data := by
            rw [PatchP.runsB_snoc _ _ _ hr]
            simp only [PatchP.runB, hyl, List.append_assoc]
          have HSN := Lib.hid hsn
          have hrk := HRS.out k
          obtain ⟨rp, rd⟩ := r
          dsimp only at *
          obtain ⟨Lk, hLk⟩ : ∃ L, L0 ++ PatchP.runsB (rs.take k) = L := ⟨_, rfl⟩
          have hLkl : Lk.length ≤ n + 5 + 252000 := by rw [← hLk, List.length_append, hL0l]; omega
          rw [hLk] at HQ HSN
          obtain ⟨W7, hW7⟩ : ∃ W, wr.alloc (.cells #[.int .i64 rp, .slice A4 n4 c4] 100) = W := ⟨_, rfl⟩
          obtain ⟨HS7, HB7, hw7, hz7⟩ := new1 hW7
          have HQ7 := Lib.hid (HQ.out.next HB7.out)
          have HY0 := Lib.hid hy
          have g7 := str2 HS7.out
          have hl7 := HS7.out.lt
          have hb0 : wr.heap.size ∉ W1.heap.size :: gk.toList := by
            simp only [List.mem_cons, Option.mem_toList, not_or]
            exact ⟨by omega, fun e => by have := hko.2 _ e; omega⟩
          have HB0 := Lib.hid hb0
          clear hsn hy hr HB7 hz7 HQ g0 hl0 hLk hrk hb0
          go_wp2_with fail
          clear q0 q1
          refine (add_any W1.heap.size 2 _ rp Lk W7 HQ7.out.out (by omega) (by omega) (by omega)).mono ?_
          rintro e W8 ⟨rfl, g8, ho8, hk8, hg8⟩
          have HQ8 := Lib.hid (HQ7.out.turn ho8 hk8 hg8)
          have HS8 := Lib.hid (HS7.out.keepB hk8 HB0.out)
          have hb8 : wr.heap.size ∉ W1.heap.size :: g8.toList := by
            have h0 := HB0.out
            simp only [List.mem_cons, Option.mem_toList, not_or] at h0 ⊢
            refine ⟨h0.1, fun e => ?_⟩
            rcases hg8 with rfl | ⟨b', rfl, hb'⟩
            · exact h0.2 e
            · cases e; omega
          have HB8 := Lib.hid hb8
          have HY8 := Lib.hid (hk8.size)
          clear ho8 hk8 hg8 hb8 g7 hl7 HS7
          have g8' := str2 HS8.out
          have hl8 := HS8.out.lt
          go_wp2_with fail
          refine (add_any W1.heap.size 2 _ (n4 : Int) (Lk ++ BeP.parts 2 rp) W8 HQ8.out.out (by omega) (by omega) (by simp only [List.length_append, BeP.parts_length]; omega)).mono ?_
          rintro e W9 ⟨rfl, g9, ho9, hk9, hg9⟩
          have HQ9 := Lib.hid (HQ8.out.turn ho9 hk9 hg9)
          have HS9 := Lib.hid (HS8.out.keepB hk9 HB8.out)
          clear ho9 hk9 hg9 g8' hl8 HS8
          have g9' := str2 HS9.out
          have hl9 := HS9.out.lt
          obtain ⟨A5, n5, c5, hS5, hO5, hne5⟩ := HQ9.out.out
          have hY5 : Bytes W9 B2 A4 n4 c4 rd := HY0.out.below (HQ9.out.bel.mono hB2)
          have hn5 : n5 = Lk.length + 4 := by rw [← hO5.len]; simp only [List.length_append, BeP.parts_length]
          subst hn5
          obtain ⟨A6, c6, W10, g10, happ10, hO10, hg10, hgb10⟩ := hO5.app (P := Try.prog) 23 23 5 Try.underlying23 Be.infoU8 hY5 (by omega)
          have hS10 := hS5.grownO hg10 hne5
          have hlt9 := hS5.lt
          have hkw : Reg.KeepB W9.heap.size (W1.heap.size :: g9.toList) W9 W10 := (Reg.KeepB.of (bsame W9)).grownO hg10 (Nat.le_refl _) (fun k e => .inr (by rw [e]; simp))
          have hgg : g10 = g9 ∨ ∃ b, g10 = some b ∧ W9.heap.size ≤ b := hgb10.imp id (fun e => ⟨_, e, Nat.le_refl _⟩)
          obtain ⟨ho11, hk11⟩ := out_set hlt9 hne5 hkw hS10 hO10 hgg
          have HQ11 := Lib.hid (HQ9.out.turn ho11 hk11 hgg)
          rw [← HSN.out] at HQ11
          have g5' := str1 hS5
          have g10' := str1 hS10
          have hf10 := hS10.frozen 0
          have hl10 := hS10.lt
          clear hS5 hO5 hne5 hY5 hO10 hg10 hgb10 hS10 hkw hgg ho11 hk11 HQ8 HQ9 HQ7
          go_wp2
          go_roundw
          case rel => exact ⟨k + 1, g10, by omega, by go_num, HQ11⟩
          case measure => simp [intOf]; omega
        · have hd : decide ((k : Int) < (n2 : Int)) = false := by simp; omega
          have hkn : k = n2 := by omega
          subst hkn
          have htk : rs.take k = rs := List.take_of_length_le (by rw [HL.out.2]; exact Nat.le_refl _)
          rw [htk, ← HFIN.out] at HQ
          obtain ⟨A4, n4, c4, hS4, hO4, hne4⟩ := HQ.out.out
          have g4' := str1 hS4
          have hl4 := hS4.lt
          have HO4 := Lib.hid hO4
          clear hS4 hO4 hne4 htk
          go_wp2
          go_ret
          exact ⟨A4, n4, c4, rfl, HO4.out.above (fun b e => Nat.le_of_lt (HQ.out.glo b e)), HQ.out.bel⟩
theorem put_any (A : Option Addr) (n c B0 : Nat) (l : List UInt8) (x : PatchX) (A2 : Option Addr) (n2 c2 B2 : Nat) (w : World) (h : Bytes w B0 A n c l) (hB0 : B0 ≤ w.heap.size) (hE : Elems RunE w B2 A2 n2 c2 x.runs) (hB2 : B2 ≤ w.heap.size) (hi : In64 x.page) (hn : n ≤ 100000000000000) :
    Calls Try.prog 33 #[.slice A n c, .agg #[.int .i64 x.page, .bool x.fresh, .slice A2 n2 c2]] w (GivesBytes w (l ++ PatchP.bytes x)) :=
  (put_new A n c B0 l x A2 n2 c2 B2 w h hB0 hE hB2 hi hn).mono fun e w' h => h.bytes
end PatchW
end Go.Proofs.Ytiokcemlfdonnaa
end
section
namespace Go.Proofs.Ytiokcemlfdonnaa
end Go.Proofs.Ytiokcemlfdonnaa
namespace Go.Proofs.Ytiokcemlfdonnaa.ConcatW
open Go.RowKit

abbrev Part := Option Addr × Nat × Nat × List UInt8
def partV (p : Part) : Value := .slice p.1 p.2.1 p.2.2.1
def total (ps : List Part) : Nat := (ps.map fun p => p.2.1).sum
def all (ps : List Part) : List UInt8 := ps.flatMap fun p => p.2.2.2
theorem total_succ (ps : List Part) (k : Nat) (h : k < ps.length) : total (ps.take (k + 1)) = total (ps.take k) + (ps[k]).2.1 := by
  unfold total
  rw [List.take_succ_eq_append_getElem h]
  simp only [List.map_append, List.map_cons, List.map_nil, List.sum_append, List.sum_cons, List.sum_nil, Nat.add_zero]
theorem all_succ (ps : List Part) (k : Nat) (h : k < ps.length) : all (ps.take (k + 1)) = all (ps.take k) ++ (ps[k]).2.2.2 := by
  unfold all
  rw [List.take_succ_eq_append_getElem h]
  simp only [List.flatMap_append, List.flatMap_cons, List.flatMap_nil, List.append_nil]
theorem total_le (ps : List Part) (k : Nat) : total (ps.take k) ≤ total ps := by
  conv => rhs; rw [← List.take_append_drop k ps]
  unfold total
  simp only [List.map_append, List.sum_append]
  omega
section
attribute [local go_sem ↓] app_fold
set_option maxRecDepth 100000 in
set_option maxHeartbeats 400000 in
theorem grow_any (k : Nat) (hk : k ≤ 1099511627776) (w : World) : Calls Try.prog 107 #[.slice none 0 0, .int .i64 (k : Int)] w fun e w' => ∃ A c, e = .returned (.slice A 0 c) ∧ Own w' w.heap.size A 0 c [] ∧ Below w.heap.size w w' := by
  by_cases h0 : k = 0
  · subst h0
    go_enter Try.func107, Try.ntmps107
    go_wp2
    go_ret
    exact ⟨none, 0, rfl, Own.none_ _ _, bsame w⟩
  · obtain ⟨i0, hi, hz0, hz1, hz2⟩ := info_parts Be.infoU8
    have happ : (appSem #[23, 3] 23 #[.slice none 0 0, .int .i64 (k : Int)]).run Try.prog w = .ok (.slice (some ⟨w.heap.size, 0, none⟩) k (grownCap w k 0 5)) (w.drew.alloc (.cells (Builtin.zeroCells (Value.int .u8 0).cells k ++ Builtin.zeroCells (Value.int .u8 0).cells (grownCap w k 0 5 - k)) 5)) := by
      unfold appSem
      have h := Lib.run_append_grow_zeros w 23 3 23 5 i0 _ .i64 .i64 Try.underlying23 Try.underlying3 hi hz0 none 0 0 [] (by exact run_firstCells_none w.drew i0.size 0 0 0) k (by omega) (by rw [hz1]; omega) (by omega) (by omega) (by rw [hz2]; omega) (by rw [Nat.zero_add]; exact growslice_fits (by omega) (by rw [hz2]; omega))
      simpa using h
    have hpos : (0 : Int) < (k : Int) := by omega
    go_enter Try.func107, Try.ntmps107
    go_wp2
    have hge := grownCap_ge w k 0 5
    have hle := grownCap_le_maxLen w k 0 5 (by unfold maxLen; omega)
    go_ret
    refine ⟨some ⟨w.heap.size, 0, none⟩, _, rfl, ⟨rfl, .inr ⟨_, _, _, rfl, Nat.le_refl _, heap_alloc_new w _, Nat.zero_le _, hle, ?_, by simp⟩⟩, bdrewN (balloc (bsame w) _) 1⟩
    rw [Array.size_append, size_zeroCells, size_zeroCells]
    simp
    omega

set_option maxRecDepth 100000 in
set_option maxHeartbeats 1000000 in
theorem concat_any (ps : List Part) (b : Nat) (w : World) (hS : Str w b (ps.map partV).toArray) (hY : ∀ p ∈ ps, Bytes w w.heap.size p.1 p.2.1 p.2.2.1 p.2.2.2) (hs : total ps ≤ 1099511627776) (hk : ps.length ≤ 100) :
    Calls Try.prog 75 #[.slice (some ⟨b, 0, none⟩) ps.length ps.length] w (GivesBytes w (all ps)) := by
  have HS := Lib.hid hS
  have HY := Lib.hid hY
  have hlt := hS.lt
  have hcell : ∀ k (h : k < ps.length), w.cell? ⟨b, k, none⟩ = some (.slice (ps[k]).1 (ps[k]).2.1 (ps[k]).2.2.1) := fun k h => by
    rw [hS.cell]
    simp [h, partV]
  have HC := Lib.hid hcell
  clear hS hY hcell
  obtain ⟨m, hm⟩ : ∃ m, ps.length = m := ⟨_, rfl⟩
  rw [hm] at hk ⊢
  have HM := Lib.hid hm
  clear hm
  go_enter Try.func75, Try.ntmps75
  go_wp2
  go_loopw [3, 11] (fun s i wr => ∃ k : Nat, k ≤ m ∧ i = .int .i64 (k : Int) ∧ s = .int .i64 (total (ps.take k) : Int) ∧ w = wr) (fun _ i _ => m - (intOf i).toNat)
  case atStart => exact ⟨0, Nat.zero_le _, rfl, rfl, rfl⟩
  case round =>
    obtain ⟨k, hkm, rfl, rfl, rfl⟩ := hrel
    by_cases hlt2 : k < m
    · have hx := HC.out k (by have := HM.out; omega)
      have HT := Lib.hid (total_succ ps k (by have := HM.out; omega))
      have hle := total_le ps (k + 1)
      rw [HT.out] at hle
      generalize hp : ps[k]'(by have := HM.out; omega) = p at *
      generalize total (ps.take k) = tk at *
      obtain ⟨A, n, c, l⟩ := p
      dsimp only at *
      go_wp2
      go_roundw
      case rel => exact ⟨k + 1, by omega, by go_num, by rw [HT.out]; simp, by simp⟩
      case measure => simp [intOf]; omega
    · have hkm' : m = k := by omega
      subst hkm'
      have ht : total (ps.take m) = total ps := by rw [List.take_of_length_le (by have := HM.out; omega)]
      rw [ht]
      go_wp2_with (go_at_call 107; refine (grow_any _ hs _).mono ?_; rintro e w1 ⟨A1, c1, rfl, hO1, hb1⟩)
      have HO1 := Lib.hid hO1
      have HB1 := Lib.hid hb1
      clear hO1 hb1 ht hkm hlt2
      go_loopw [6, 27] (fun s i wr => ∃ (k : Nat) (A : Option Addr) (n c : Nat), k ≤ m ∧ i = .int .i64 (k : Int) ∧ s = .slice A n c ∧ n = total (ps.take k) ∧ Own wr w.heap.size A n c (all (ps.take k)) ∧ Below w.heap.size w wr) (fun _ i _ => m - (intOf i).toNat)
      case atStart => exact ⟨0, A1, 0, c1, Nat.zero_le _, rfl, rfl, rfl, HO1.out, HB1.out⟩
      case round =>
        obtain ⟨k, A, n, c, hkm, rfl, rfl, hn, hO, hB⟩ := hrel
        by_cases hlt2 : k < m
        · have hkl : k < ps.length := by have := HM.out; omega
          have hy := (HY.out _ (List.getElem_mem hkl)).below (hB.mono (Nat.le_refl _))
          have hx : wr.cell? ⟨b, k, none⟩ = some (.slice (ps[k]).1 (ps[k]).2.1 (ps[k]).2.2.1) := (hB.cell (p := ⟨b, k, none⟩) hlt).trans (HC.out k hkl)
          have ht := total_succ ps k hkl
          have hle := total_le ps (k + 1)
          rw [ht, ← hn] at hle
          rw [← hn] at ht
          have HT := Lib.hid ht
          have HAL := Lib.hid (all_succ ps k hkl)
          generalize hp : ps[k] = p at *
          obtain ⟨A2, n2, c2, l2⟩ := p
          dsimp only at *
          obtain ⟨A3, c3, w3, happ3, hO3, hb3⟩ := hO.app hy (by omega) hB.size
          have HO3 := Lib.hid hO3
          have HB3 := Lib.hid (hB.trans hb3)
          have hws := hB.size
          have hltr : b < wr.heap.size := by omega
          clear hn ht hO hB hy hO3 hb3 hp hle
          go_wp2
          go_roundw
          case rel => exact ⟨k + 1, A3, n + n2, c3, by omega, by go_num, rfl, HT.out.symm, by rw [HAL.out]; exact HO3.out, HB3.out⟩
          case measure => simp [intOf]; omega
        · have hkm' : m = k := by omega
          subst hkm'
          rw [List.take_of_length_le (by have := HM.out; omega)] at hO
          have HO := Lib.hid hO
          have HB := Lib.hid hB
          clear hn hO hB
          go_wp2
          go_ret
          exact ⟨A, n, c, rfl, HO.out.bytes, HB.out⟩
end
end Go.Proofs.Ytiokcemlfdonnaa.ConcatW
end
section
namespace Go.Proofs.Ytiokcemlfdonnaa
open Go.RowKit

theorem Own.appStr {w : World} {base n c : Nat} {A : Option Addr} {l : List UInt8} (h : Own w base A n c l) (s : ByteArray) (hn : n + s.size ≤ 140737488355328) (hb : base ≤ w.heap.size) :
    ∃ A' c' w', (appSem #[23, 9] 23 #[.slice A n c, .string s]).run Try.prog w = .ok (.slice A' (n + s.size) c') w' ∧ Own w' base A' (n + s.size) c' (l ++ s.data.toList) ∧ Below base w w' := by
  obtain ⟨i0, hi, hz0, hz1, hz2⟩ := info_parts Be.infoU8
  obtain ⟨v', w', happ, hown, hgrow, _⟩ := Lib.run_append_own_string (P := Try.prog) w base 23 9 23 5 i0 Try.underlying23 Try.underlying9 hi hz0 hz1 hz2 (.slice A n c) n (l.map byteV) h s (by unfold maxLen; omega) hn hb
  obtain ⟨A', c', rfl⟩ := own_slice hown
  have hm : (l ++ s.data.toList).map byteV = l.map byteV ++ Lib.strCells s := by rw [List.map_append]; rfl
  refine ⟨A', c', w', happ, ?_, (Below.refl _ w).grown hgrow hb (own_block h)⟩
  unfold Own
  rw [hm]
  exact hown
end Go.Proofs.Ytiokcemlfdonnaa
end
