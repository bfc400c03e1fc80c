/-
  The walks of package be: with, parts, Put; of its reference: Same.
-/
import Derived.Test.YtldgdgfplgdipaaProg
import Derived.Test.YtldgdgfplgdipaaBytes
import Derived.Test.YtldgdgfplgdipaaPBe
import Derived.RangeFuncBox
import Derived.RangeFuncNested
import Derived.RangeFuncLeaves
import Derived.Shelf.Abstract
import Derived.OwnWalkIn
import Derived.TacticsInMore
import Derived.LoopNIn
import Derived.LoopIn
import Derived.Maps.AppendAt
import Derived.Laws.CopyOwn
namespace Go.Proofs.Ytldgdgfplgdipaa.Be
open Go.RowKit Go.Shelf

theorem infoU8 : (Try.prog.info? 5).map (fun i => (i.zero, i.size, i.bytes)) = some (some (.int .u8 0), 1, 1) := by kernel_rfl
theorem sizeU8 : (Try.prog.info? 5).map (·.size) = some 1 := by kernel_rfl

set_option maxHeartbeats 400000 in
theorem wide_any (m : Int) (w : World) :
    Calls Try.prog 66 #[.int .i64 m] w fun e w' => e = .returned (.bool (decide (1 ≤ m) && decide (m ≤ 8))) ∧ w = w' := by
  go_enter Try.func66, Try.ntmps66
  go_wp2
  all_goals go_ret
  all_goals simp_all
  all_goals omega

/-- make, length and capacity apart -/
theorem run_make_b (n c : Nat) (hnc : n ≤ c) (hb : c ≤ 281474976710656) (w : World) :
    (Instr.makeSlice 22 (.int .i64 (n : Int)) (.int .i64 (c : Int))).run Try.prog w = .ok (.slice (some ⟨w.heap.size, 0, none⟩) n c) (w.alloc (.cells (zerosV c).toArray 5)) := by
  obtain ⟨i0, hi, hz0, hz1, hz2⟩ := info_parts infoU8
  have hr := run_make (P := Try.prog) w 22 5 i0 (.int .u8 0) Try.underlying22 hi hz0 .i64 .i64 n c (by omega) (by omega) (by rw [hz2]; omega) (by omega)
  rw [hr, hz1]
  have e : madeCells (Value.cells (.int .u8 0)) ((c : Int).toNat * 1) = (zerosV c).toArray := by
    apply Array.ext
    · simp [size_madeCells, zerosV]
    · intro i h1 h2
      simp [madeCells, zerosV, Value.cells, Nat.mod_one]
  rw [e]
  simp

/-- the row that a call has made: bytes l, a slice of capacity cap at its head -/
def Row (w w' : World) (g : Nat) (l : List UInt8) (cap : Nat) : Prop :=
  w'.ownsRow w.heap.size 5 1 (.slice (some ⟨g, 0, none⟩) l.length cap) l.length (l.map byteV)

set_option maxHeartbeats 400000 in
/-- with: a new list with b's bytes, and room for more -/
theorem with_any (A : Option Addr) (n c more B : Nat) (l : List UInt8) (w : World) (h : Bytes w B A n c l) (hB : B ≤ w.heap.size) (hn : n + more ≤ 140737488355328) :
    Calls Try.prog 67 #[.slice A n c, .int .i64 (more : Int)] w fun e w' => e = .returned (.slice (some ⟨w.heap.size, 0, none⟩) n (n + more)) ∧ Row w w' w.heap.size l (n + more) ∧ Below w.heap.size w w' := by
  have H := Lib.hid h
  have hl := h.len
  clear h
  have hmk : ∀ W : World, (Instr.makeSlice 22 (.int .i64 (n : Int)) (.int .i64 ((n : Int) + (more : Int)))).run Try.prog W = .ok (.slice (some ⟨W.heap.size, 0, none⟩) n (n + more)) (W.alloc (.cells (zerosV (n + more)).toArray 5)) := fun W => by
    have := run_make_b n (n + more) (by omega) (by omega) W
    simpa using this
  have HL := Lib.hid hl
  clear hl
  obtain ⟨w1, hcp, hrow, hg⟩ := run_copy_to (P := Try.prog) (w := w.alloc (.cells (zerosV (n + more)).toArray 5)) 22 22 3 5 Try.underlying22 sizeU8 (some ⟨w.heap.size, 0, none⟩) n (n + more) w.heap.size 0 (zerosV (n + more)) 5 (heap_alloc_new w _) A n c (l.map byteV) (by simp [HL.out])
    (fun h0 => ⟨rfl, ((H.out.alloc hB _).src h0)⟩) (by simp [zerosV_length, HL.out]) (byteV_one l)
  have HR := Lib.hid hrow
  have HG := Lib.hid hg
  clear hrow hg
  go_enter Try.func67, Try.ntmps67
  go_wp2
  go_ret
  have hl := HL.out
  subst hl
  refine ⟨rfl, ⟨by simp, .inr ⟨w.heap.size, l.length + more, _, rfl, Nat.le_refl _, HR.out, by omega, by unfold maxLen; omega, ?_, ?_⟩⟩, (balloc (bsame w) _).grown HG.out (by simp) (fun k e => by cases e; exact Nat.le_refl _)⟩
  · simp [splice, zerosV_length]
  · simp [splice]

attribute [local go_sem] Oper.semAt_some

/-- what a round must keep: the box of the number -/
def KpAt (b : Nat) (W W' : World) : Prop := W'.heap[b]? = W.heap[b]?
theorem KpAt.cell {b : Nat} {W W' : World} (h : KpAt b W W') {v : Value} (hc : W.cell? ⟨b, 0, none⟩ = some v) : W'.cell? ⟨b, 0, none⟩ = some v := (World.cell?_of_block (a := ⟨b, 0, none⟩) h).trans hc

set_option maxRecDepth 100000 in
set_option maxHeartbeats 1000000 in
theorem parts1_in (F : Fence) (n : Nat) (hf : F.fn 82) (hro : F.round = none) (hn : 1 ≤ n) (l Bw Bn width : Nat) (hw1 : 1 ≤ width) (hw8 : width ≤ 8) (m : Int) (J Jx : List UInt8 → World → Prop)
    (hY : ∀ pre (x : UInt8) W, J pre W → pre.length < width → YieldAt F (n - 1) Try.prog l #[.int .u8 (x.toNat : Int)] W fun e W' =>
      (e = .returned (.bool true) ∧ J (pre ++ [x]) W' ∧ KpAt Bn W W') ∨ (e = .returned (.bool false) ∧ Jx (pre ++ [x]) W'))
    (W : World) (hBw : W.cell? ⟨Bw, 0, none⟩ = some (.int .i64 (width : Int))) (hBn : W.cell? ⟨Bn, 0, none⟩ = some (.int .i64 m)) (h0 : J [] W) :
    CallsIn F n Try.prog 82 #[.func (.yield l) #[] #[], .pointer (some ⟨Bw, 0, none⟩), .pointer (some ⟨Bn, 0, none⟩)] W fun e W' => (∃ v, e = .returned v) ∧
      ((∃ ys, ys = BeP.parts width m ∧ J ys W') ∨ (∃ pre, pre <+: BeP.parts width m ∧ Jx pre W')) := by
  have HY := Lib.hid hY
  clear hY
  refine callsIn_of_wp Try.func82 rfl hf ?_ hro
  simp only [Try.ntmps82, List.size_toArray, List.length_cons, List.length_nil, Nat.reduceAdd, Nat.reduceSub, Array.replicate_succ, Array.replicate_zero, List.push_toArray, List.append_toArray, List.nil_append, List.cons_append]
  gi_wp2
  gi_loopw [4] (fun p wr => ∃ k : Nat, k ≤ width ∧ p = .int .i64 (8 * ((width : Int) - 1) - 8 * k) ∧ wr.cell? ⟨Bn, 0, none⟩ = some (.int .i64 m) ∧ J ((BeP.parts width m).take k) wr)
    (fun p wr => (intOf p + 8).toNat)
  case atStart =>
    exact ⟨0, Nat.zero_le _, by simp, hBn, h0⟩
  case round =>
    obtain ⟨k, hk, rfl, hc, hJ⟩ := hrel
    have HJ := Lib.hid hJ
    clear hJ h0 hBn hBw
    by_cases hlt : k < width
    · have hval := BeP.part_walk width m k hlt
      have HT := Lib.hid (BeP.parts_take width m k hlt)
      obtain ⟨fn, tmps, assign, body, hy, hR⟩ := HY.out _ (BeP.part width m k) wr HJ.out (by rw [List.length_take, BeP.parts_length]; omega)
      have HR := Lib.hid hR
      clear hR
      gi_wp2
      refine HR.out.mono ?_
      rintro e W3 (⟨rfl, hJ3, hk3⟩ | ⟨rfl, hJx3⟩)
      · have hc3 := hk3.cell hc
        have HJ3 := Lib.hid hJ3
        have HK3 := Lib.hid hk3
        clear hJ3 hk3 hy
        gi_wp2
        go_roundw
        case rel => exact ⟨k + 1, by omega, by congr 1; omega, hc3, by rw [HT.out]; exact HJ3.out⟩
        case measure => simp [intOf]; omega
      · gi_wp2
        refine bodyPost_ret (results_none rfl _ _ _) rfl ?_
        refine ⟨⟨_, rfl⟩, .inr ⟨_, ?_, hJx3⟩⟩
        rw [← HT.out]
        exact List.take_prefix _ _
    · gi_wp2
      go_end0
      refine ⟨⟨_, rfl⟩, .inl ⟨_, rfl, ?_⟩⟩
      have := HJ.out
      rwa [BeP.parts_all width m k hlt] at this

set_option maxHeartbeats 400000 in
theorem parts_in (F : Fence) (n : Nat) (hf : F.fn 68) (hro : F.round = none) (width m : Int) (w : World) :
    CallsIn F n Try.prog 68 #[.int .i64 width, .int .i64 m] w fun e w' => e = .returned (.func (.func 82) #[] #[.pointer (some ⟨w.heap.size, 0, none⟩), .pointer (some ⟨w.heap.size + 1, 0, none⟩)]) ∧
      (w.alloc (.cells #[.int .i64 width] 3)).alloc (.cells #[.int .i64 m] 3) = w' := by
  refine callsIn_of_wp Try.func68 rfl hf ?_ hro
  simp only [Try.ntmps68, List.size_toArray, List.length_cons, List.length_nil, Nat.reduceAdd, Nat.reduceSub, Array.replicate_succ, Array.replicate_zero, List.push_toArray, List.append_toArray, List.nil_append, List.cons_append]
  gi_wp2
  go_ret
  exact ⟨rfl, rfl⟩

theorem parts_stops (F : Fence) (n : Nat) (hf : F.fn 82) (hro : F.round = none) (hn : 1 ≤ n) (Bw Bn width : Nat) (hw1 : 1 ≤ width) (hw8 : width ≤ 8) (m : Int) (w : World) (hBw : Bw < w.heap.size) (hBn : Bn < w.heap.size)
    (hcw : w.cell? ⟨Bw, 0, none⟩ = some (.int .i64 (width : Int))) (hcn : w.cell? ⟨Bn, 0, none⟩ = some (.int .i64 m)) :
    SeqStopsK F n Try.prog 82 #[.pointer (some ⟨Bw, 0, none⟩), .pointer (some ⟨Bn, 0, none⟩)] (fun x : UInt8 => #[Value.int .u8 (x.toNat : Int)]) (KpAt Bn) (fun ys => ys = BeP.parts width m) (fun pre => pre <+: BeP.parts width m) width w := fun l J Jx W hW _ _ hY h0 =>
  parts1_in F n hf hro hn l Bw Bn width hw1 hw8 m J Jx hY W ((hW.cell (p := ⟨Bw, 0, none⟩) hBw).trans hcw) ((hW.cell (p := ⟨Bn, 0, none⟩) hBn).trans hcn) h0

/-- what holds between two rounds of Put: the box of out holds the bytes so far, the box of the number its number -/
def PutI (w : World) (l : List UInt8) (B Bn : Nat) (m : Int) (pre : List UInt8) (W : World) : Prop :=
  ((∃ v, Boxed W B 22 v ∧ W.ownsRow w.heap.size 5 1 v (l ++ pre).length ((l ++ pre).map byteV) ∧ True) ∧ Boxed W Bn 3 (.int .i64 m)) ∧ Below w.heap.size w W

set_option maxRecDepth 100000 in
set_option maxHeartbeats 2000000 in
theorem put_wide (A : Option Addr) (n c B : Nat) (l : List UInt8) (width : Nat) (m : Int) (w : World) (h : Bytes w B A n c l) (hB : B ≤ w.heap.size) (hw1 : 1 ≤ width) (hw8 : width ≤ 8) (hn : n + width ≤ 140737488355328) :
    Calls Try.prog 58 #[.slice A n c, .int .i64 (width : Int), .int .i64 m] w (GivesBytes w (l ++ BeP.parts width m)) := by
  have hl := h.len
  have H := Lib.hid h
  clear h
  have HL := Lib.hid hl
  clear hl
  obtain ⟨i0, hi, hz0, hz1, hz2⟩ := info_parts infoU8
  have hwd : (decide ((1 : Int) ≤ (width : Int)) && decide ((width : Int) ≤ 8)) = true := by simp; omega
  refine (callsIn_wide (n := 5)).1 ?_
  refine callsIn_of_wp_marks Try.func58 rfl trivial ?_ rfl
  simp only [Try.ntmps58, List.size_toArray, List.length_cons, List.length_nil, Nat.reduceAdd, Nat.reduceSub, Array.replicate_succ, Array.replicate_zero, List.push_toArray, List.append_toArray, List.nil_append, List.cons_append]
  gi_wp2_with (first
    | (refine ⟨trivial, ?_⟩; gi_at_call 66; refine (callsIn_wide.2 (wide_any _ _)).mono ?_; rintro e w' ⟨rfl, rfl⟩)
    | (refine ⟨trivial, ?_⟩; gi_at_call 67; refine (callsIn_wide.2 (with_any A n c width B l w H.out hB hn)).mono ?_; rintro e w1 ⟨rfl, hrow, hb⟩)
    | (refine ⟨trivial, ?_⟩; gi_at_call 68; refine (parts_in Fence.wide _ trivial rfl _ _ _).mono ?_; rintro e w' ⟨rfl, rfl⟩))
  have HROW := Lib.hid hrow
  clear hrow hwd
  have bO := Boxed.new w1 22 (.slice (some ⟨w.heap.size, 0, none⟩) n (n + width))
  have bW := Boxed.new (w1.alloc (.cells #[.slice (some ⟨w.heap.size, 0, none⟩) n (n + width)] 22)) 3 (.int .i64 (width : Int))
  have bN := Boxed.new ((w1.alloc (.cells #[.slice (some ⟨w.heap.size, 0, none⟩) n (n + width)] 22)).alloc (.cells #[.int .i64 (width : Int)] 3)) 3 (.int .i64 m)
  simp only [World.size_alloc] at bW bN
  have hB0 : Below w.heap.size w (((w1.alloc (.cells #[.slice (some ⟨w.heap.size, 0, none⟩) n (n + width)] 22)).alloc (.cells #[.int .i64 (width : Int)] 3)).alloc (.cells #[.int .i64 m] 3)) := balloc (balloc (balloc hb _) _) _
  have hsz := hb.size
  refine wpIn_rangeFunc_ownG rfl (by omega) (gf := 82) (lb := #[.pointer (some ⟨w1.heap.size + 1, 0, none⟩), .pointer (some ⟨w1.heap.size + 1 + 1, 0, none⟩)]) rfl trivial (enters_of Try.func82 (by kernel_rfl) rfl)
    (parts_stops Fence.wide 4 trivial rfl (by omega) (w1.heap.size + 1) (w1.heap.size + 1 + 1) width hw1 hw8 m _ (by simp) (by simp) ((bW.alloc _).cell) bN.cell)
    (fun h k => (show _ = _ from k).trans h) (fun W l' o o' hle hl' _ _ => ?hKb) (Below.refl _ _) (fun _ => rfl)
    (PutI w l w1.heap.size (w1.heap.size + 1 + 1) m) (fun _ _ _ => False)
    (OwnFrom.and (OwnFrom.and (Own.from (holdsRow_own w.heap.size w1.heap.size 22 5 1 (fun pre => (l ++ pre).length) (fun pre => (l ++ pre).map byteV) (fun _ _ => True)) _) (Own.from (boxed_own _ _ _) _)) (ownFrom_below (Nat.le_refl _) (by simp; omega)))
    (fun _ _ _ _ _ hs _ _ => hs) ?h0
    (fun x => { tmps := #[.slice A n c, .int .i64 (width : Int), .int .i64 m, undef, undef, undef, .slice none 0 0, .pointer (some ⟨w1.heap.size, 0, none⟩), .int .u8 (x.toNat : Int), .int .i64 (width : Int), .bool true, .bool false, undef, undef, .slice A n c, .int .i64 (width : Int), .slice (some ⟨w.heap.size, 0, none⟩) n (n + width), .int .i64 (width : Int), .int .i64 m, .func (.func 82) #[] #[.pointer (some ⟨w1.heap.size + 1, 0, none⟩), .pointer (some ⟨w1.heap.size + 1 + 1, 0, none⟩)], .int .u8 (x.toNat : Int), undef, undef, undef, undef, undef], defers := [] }) ?assign ?body ?done ?stop
  case hKb =>
    show (W.putObj l' o').heap[w1.heap.size + 1 + 1]? = W.heap[w1.heap.size + 1 + 1]?
    have hlt := (Array.getElem?_eq_some_iff.1 hl').1
    simp at hle
    exact (grownBy_putObj' W l' o').block _ (by omega) (fun e => by cases e; omega)
  case h0 =>
    refine ⟨⟨⟨_, (bO.alloc _).alloc _, ?_, trivial⟩, bN⟩, hB0⟩
    have hL := HL.out
    subst hL
    have := HROW.out
    unfold Row at this
    simpa using ((this.alloc _).alloc _).alloc _
  case assign =>
    intro l' x W K hK
    gi_wp2
    exact hK
  case body =>
    rintro l' pre x W ⟨⟨⟨v, hv, hrow, -⟩, hbn⟩, hB⟩ hlt
    have hc := hv.cell
    have hBs := hB.size
    have hLn := HL.out
    have hlen : (l ++ pre).length + 1 ≤ 140737488355328 := by simp; omega
    clear hLn
    gi_wp2_with (gi_at_builtin; refine wpListIn_append_own _ rfl _ _ 22 rfl w.heap.size 5 i0 (.int .u8 0) 1 1 Try.underlying22 hi hz0 hz1 hz2 rfl (by decide) _ _ _ rfl (hrow.alloc _) ⟨W.heap.size, 0, none⟩ 1 1 [.int .u8 (x.toNat : Int)] rfl rfl (cell_one_new _ _ _) (by simp [Value.oneCell']) (by unfold maxLen; omega) (by omega) (by simp; omega) ?_; intro v' w1' hown' hgrow _; obtain ⟨g', cap', rfl⟩ := ownsRow_succ hown'; obtain ⟨hv1, hv2, hr2, hk2, hb2⟩ := hv.appended (by decide) hrow hBs hsz hown' hgrow; have hbn2 := ((hbn.alloc _).kept hgrow (hbn.not_row (by decide) hrow)).other (B' := w1.heap.size) (by omega) (.slice (some ⟨g', 0, none⟩) ((l ++ pre).length + 1) cap'); have hc1 := hv1.cell; have hf1 := hv1.frozen)
    simp only [List.length_append] at hv2 hr2 hk2 hb2 hbn2
    refine ⟨hk2.from _, (show _ = _ from hbn2).trans (show _ = _ from hbn).symm, ⟨⟨⟨_, hv2, ?_, trivial⟩, hbn2⟩, hB.trans hb2⟩⟩
    have : ((l ++ (pre ++ [x])).map byteV) = (l ++ pre).map byteV ++ [.int .u8 (x.toNat : Int)] := by simp [byteV]
    rw [this]
    have h3 : (l ++ (pre ++ [x])).length = l.length + pre.length + 1 := by simp; omega
    rw [h3]
    exact hr2
  case done =>
    rintro D ys W hD rfl ⟨⟨⟨v, hv, hrow, -⟩, hbn⟩, hB⟩ hK
    have hc := hv.cell
    gi_wp2
    refine ⟨by simp, .inl ⟨_, _, rfl, run_takeDeferred hK, ?_⟩⟩
    obtain ⟨A', n', c', rfl, hby⟩ := Bytes.of_own (ownsRow_putObj hrow (.deferred none) hK rfl)
    exact ⟨_, results_tmp rfl _ _ _, A', n', c', rfl, hby, hB.trans (belowK_b (w := w) (Nat.le_refl _) W D _ _ (by simp at hD; omega) hK rfl rfl)⟩
  case stop =>
    rintro D c' pre W _ _ h _
    exact h.elim
end Go.Proofs.Ytldgdgfplgdipaa.Be
