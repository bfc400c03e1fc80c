/-
  Parts of the proof of PlanPuts.
-/
import Derived.Test.YtpklclnehlgcpaaGreatPlanP3
import Derived.Test.YtpklclnehlgcpaaGreatPlanP0
import Derived.Test.YtpklclnehlgcpaaGreatPlanP2
import Derived.Stop.RegionWithIn
import Derived.Test.YtpklclnehlgcpaaGreatPlanP1
import Derived.Lib.BufferWrite
import Derived.Lib.AppendZerosOnto
section
namespace Go.Proofs.YtpklclnehlgcpaaGreat
open Go.RowKit
set_option linter.unusedVariables false
theorem Reg.KeepB.trans {N M : Nat} {b0 : List Nat} {a b c : World} (h : Reg.KeepB N b0 a b) (k : Reg.KeepB M b0 b c) (hN : N ≤ M) : Reg.KeepB N b0 a c :=
  ⟨k.os.trans h.os, k.tape.trans h.tape, k.output.trans h.output, Nat.le_trans h.size k.size, fun i hi hb => (k.block i (by omega) hb).trans (h.block i hi hb)⟩
theorem Reg.KeepB.more {N : Nat} {b0 b1 : List Nat} {a b : World} (h : Reg.KeepB N b0 a b) (hs : ∀ x ∈ b0, x ∈ b1) : Reg.KeepB N b1 a b :=
  ⟨h.os, h.tape, h.output, h.size, fun i hi hb => h.block i hi (fun hm => hb (hs i hm))⟩
theorem Reg.KeepB.less {N M : Nat} {b0 : List Nat} {a b : World} (h : Reg.KeepB N b0 a b) (hM : M ≤ N) : Reg.KeepB M b0 a b :=
  ⟨h.os, h.tape, h.output, h.size, fun i hi hb => h.block i (by omega) hb⟩
/-- blocks that are none of the call's -/
theorem Reg.KeepB.grown {N : Nat} {b0 : List Nat} {a b c : World} {g : Nat} (h : Reg.KeepB N b0 a b) (k : b.grownBy c (some g)) (hN : N ≤ b.heap.size) (hg : N ≤ g ∨ g ∈ b0) : Reg.KeepB N b0 a c :=
  ⟨k.os.trans h.os, k.tape.trans h.tape, k.output.trans h.output, Nat.le_trans h.size k.size, fun i hi hb => (k.block i (by omega) (by intro e; injection e with e; subst e; rcases hg with h1 | h1; omega; exact hb h1)).trans (h.block i hi hb)⟩
theorem Reg.KeepB.step {N : Nat} {b0 : List Nat} {a b c : World} (h : Reg.KeepB N b0 a b) (k : Below b.heap.size b c) (hN : N ≤ b.heap.size) : Reg.KeepB N b0 a c := h.trans (Reg.KeepB.of k) hN
theorem Str.keepB {w w' : World} {b : Nat} {b0 : List Nat} {cs : Array Value} (h : Str w b cs) (k : Reg.KeepB w.heap.size b0 w w') (hb : b ∉ b0) : Str w' b cs := k.str h h.lt hb
end Go.Proofs.YtpklclnehlgcpaaGreat
end
section
namespace Go.Proofs.YtpklclnehlgcpaaGreat
open Go.RowKit
set_option linter.unusedVariables false
set_option linter.unusedSimpArgs false
namespace DiffW
attribute [local go_sem] Oper.semAt_some
/-- what a round must keep: the pages' boxes -/
def KpP (Ba Bb : Nat) (W W' : World) : Prop := W'.heap[Ba]? = W.heap[Ba]? ∧ W'.heap[Bb]? = W.heap[Bb]?
theorem Str.kpa {Ba Bb : Nat} {W W' : World} {cs : Array Value} (h : Str W Ba cs) (k : KpP Ba Bb W W') : Str W' Ba cs := by
  obtain ⟨t, hg⟩ := h; exact ⟨t, k.1.trans hg⟩
theorem Str.kpb {Ba Bb : Nat} {W W' : World} {cs : Array Value} (h : Str W Bb cs) (k : KpP Ba Bb W W') : Str W' Bb cs := by
  obtain ⟨t, hg⟩ := h; exact ⟨t, k.2.trans hg⟩
set_option maxRecDepth 100000 in
set_option maxHeartbeats 2000000 in
theorem unlike1_in (n : Nat) (hn : 1 ≤ n) (l Ba Bb : Nat) (a b : List UInt8) (ha : a.length = 512) (hb : b.length = 512) (J Jx : List Nat → World → Prop)
    (hY : ∀ pre (x : Nat) W, J pre W → pre.length < 500 → YieldAt Fence.wide (n - 1) Tryz.prog l #[.int .i64 ((DiffP.place x : Nat) : Int)] W fun e W' =>
      (e = .returned (.bool true) ∧ J (pre ++ [x]) W' ∧ KpP Ba Bb W W') ∨ (e = .returned (.bool false) ∧ Jx (pre ++ [x]) W'))
    (hD : ∀ pre A B, J pre A → Below A.heap.size A B → J pre B) (W : World) (hBa : Str W Ba (rowV a)) (hBb : Str W Bb (rowV b)) (h0 : J [] W) :
    CallsIn Fence.wide n Tryz.prog 63 #[.func (.yield l) #[] #[], .pointer (some ⟨Ba, 0, none⟩), .pointer (some ⟨Bb, 0, none⟩)] W fun e W' => (∃ v, e = .returned v) ∧
      ((∃ ys, ys = DiffP.places a b 500 ∧ J ys W') ∨ (∃ pre, Jx pre W')) := by
  have HY : Hid (∀ pre (x : Nat) W, J pre W → pre.length < 500 → YieldAt Fence.wide (n - 1) Tryz.prog l #[.int .i64 ((DiffP.place x : Nat) : Int)] W fun e W' =>
      ∃ c, e = .returned (.bool c) ∧ ((c = true ∧ J (pre ++ [x]) W' ∧ KpP Ba Bb W W') ∨ (c = false ∧ Jx (pre ++ [x]) W'))) := Lib.hid fun pre x W hJ hl => by
    obtain ⟨fn, tmps, assign, body, hy, hR⟩ := hY pre x W hJ hl
    refine ⟨fn, tmps, assign, body, hy, hR.mono ?_⟩
    rintro e w' (⟨rfl, h1, h2⟩ | ⟨rfl, h1⟩)
    · exact ⟨true, rfl, .inl ⟨rfl, h1, h2⟩⟩
    · exact ⟨false, rfl, .inr ⟨rfl, h1⟩⟩
  clear hY
  refine callsIn_of_wp Tryz.func63 rfl trivial ?_ rfl
  simp only [Tryz.ntmps63, List.size_toArray, List.length_cons, List.length_nil, Nat.reduceAdd, Nat.reduceSub, Array.replicate_succ, Array.replicate_zero, List.push_toArray, List.append_toArray, List.nil_append, List.cons_append]
  gi_wp2
  gi_loopw [4] (fun p wr => ∃ k : Nat, k ≤ 500 ∧ p = .int .i64 (12 + (k : Int)) ∧ (Str wr Ba (rowV a) ∧ Str wr Bb (rowV b)) ∧ J (DiffP.places a b k) wr)
    (fun p wr => (512 - intOf p).toNat)
  case atStart =>
    exact ⟨0, Nat.zero_le _, by simp, ⟨hBa, hBb⟩, h0⟩
  case round =>
    obtain ⟨k, hk, rfl, ⟨hA, hB⟩, hJ⟩ := hrel
    have HJ := Lib.hid hJ
    have HJD := Lib.hid (hD _ _ wr.drew hJ (ext.drew wr))
    have HD := Lib.hid hD
    clear hJ h0 hBa hBb
    by_cases hlt : k < 500
    · obtain ⟨x, hx⟩ : ∃ x, a[12 + k]? = some x := ⟨_, List.getElem?_eq_getElem (by omega)⟩
      obtain ⟨y, hy⟩ : ∃ y, b[12 + k]? = some y := ⟨_, List.getElem?_eq_getElem (by omega)⟩
      have ca : wr.cell? ⟨Ba, 12 + k, none⟩ = some (.int .u8 (x.toNat : Int)) := by rw [hA.cell, rowV_get, hx]; rfl
      have cb : wr.cell? ⟨Bb, 12 + k, none⟩ = some (.int .u8 (y.toNat : Int)) := by rw [hB.cell, rowV_get, hy]; rfl
      have HA := Lib.hid hA
      have HB := Lib.hid hB
      clear hA hB
      by_cases hxy : x = y
      · subst hxy
        have hu : DiffP.unlike a b k = false := by unfold DiffP.unlike; rw [hx, hy]; simp
        have HU := Lib.hid (DiffP.places_eq hu)
        clear hx hy hu
        have htn : (12 + (k : Int)).toNat = 12 + k := by omega
        gi_wp2
        refine wpIn_wide.2 ?_
        refine Reg.wp_region_vals (R := ext) (W := wr) [Reg.eqv (.int .i64 (12 + (k : Int))), Reg.eqv (.pointer (some ⟨Ba, 12 + k, none⟩)), Reg.eqv (.int .u8 (x.toNat : Int)), Reg.eqv (.int .i64 (12 + (k : Int))), Reg.eqv (.pointer (some ⟨Bb, 12 + k, none⟩)), Reg.eqv (.int .u8 (x.toNat : Int)), Reg.eqv (.bool false), Reg.eqv (.bool false), Reg.eqv undef, Reg.eqv undef, Reg.eqv undef, Reg.eqv undef, Reg.eqv (.bool false)] 22 [[(4, none)], [(1, none), (9, some 0)], [(10, some 1)], [(4, none)], [(2, none), (12, some 3)], [(13, some 4)], [(11, some 2), (14, some 5)], [(15, some 6)], [(0, none), (16, some 7)], [(4, none), (16, some 7)], [(17, some 8), (18, some 9), (16, some 7)], [(19, some 10), (16, some 7)], [(16, some 7), (20, some 11)]] rfl (by kernel_rfl) (by kernel_rfl) (by kernel_rfl) ?_ [some 9, some 10, some 11, some 12, some 13, some 14, some 15, some 16, some 17, some 18, some 19, some 20, some 21] (by kernel_rfl) ?_
        · refine ⟨?_, ?_, ?_, ?_, ?_, ?_, ?_, ?_, ?_, ?_, ?_, ?_, ?_, trivial⟩
          · intro ax wx hx hs
            obtain ⟨e4, -⟩ := hs
            have g4 := Reg.ev (v := .int .i64 (12 + (k : Int))) e4
            exact Reg.obl_free rfl (Reg.wp_eqv (Option.some_ne_none _) (by go_simp) rfl)
          · intro ax wx hx hs
            obtain ⟨e1, e9, -⟩ := hs
            have g1 := Reg.ev (v := .pointer (some ⟨Ba, 0, none⟩)) e1
            have g9 := Reg.ev (v := .int .i64 (12 + (k : Int))) e9
            refine Reg.obl_free rfl ?_
            exact Reg.wp_eqv (Option.some_ne_none _) (by go_simp; first | done | (intro hq; omega)) rfl
          · intro ax wx hx hs
            obtain ⟨e10, -⟩ := hs
            have g10 := Reg.ev (v := .pointer (some ⟨Ba, 12 + k, none⟩)) e10
            have q0 : wx.cell? ⟨Ba, 12 + k, none⟩ = some (.int .u8 (x.toNat : Int)) := (hx.cell (p := ⟨Ba, 12 + k, none⟩) HA.out.lt).trans ca
            have q1 : wx.cell? ⟨Bb, 12 + k, none⟩ = some (.int .u8 (x.toNat : Int)) := (hx.cell (p := ⟨Bb, 12 + k, none⟩) HB.out.lt).trans cb
            exact Reg.obl_free rfl (Reg.wp_eqv (Option.some_ne_none _) (by go_simp) rfl)
          · intro ax wx hx hs
            obtain ⟨e4, -⟩ := hs
            have g4 := Reg.ev (v := .int .i64 (12 + (k : Int))) e4
            exact Reg.obl_free rfl (Reg.wp_eqv (Option.some_ne_none _) (by go_simp) rfl)
          · intro ax wx hx hs
            obtain ⟨e2, e12, -⟩ := hs
            have g2 := Reg.ev (v := .pointer (some ⟨Bb, 0, none⟩)) e2
            have g12 := Reg.ev (v := .int .i64 (12 + (k : Int))) e12
            refine Reg.obl_free rfl ?_
            exact Reg.wp_eqv (Option.some_ne_none _) (by go_simp; first | done | (intro hq; omega)) rfl
          · intro ax wx hx hs
            obtain ⟨e13, -⟩ := hs
            have g13 := Reg.ev (v := .pointer (some ⟨Bb, 12 + k, none⟩)) e13
            have q0 : wx.cell? ⟨Ba, 12 + k, none⟩ = some (.int .u8 (x.toNat : Int)) := (hx.cell (p := ⟨Ba, 12 + k, none⟩) HA.out.lt).trans ca
            have q1 : wx.cell? ⟨Bb, 12 + k, none⟩ = some (.int .u8 (x.toNat : Int)) := (hx.cell (p := ⟨Bb, 12 + k, none⟩) HB.out.lt).trans cb
            exact Reg.obl_free rfl (Reg.wp_eqv (Option.some_ne_none _) (by go_simp) rfl)
          · intro ax wx hx hs
            obtain ⟨e11, e14, -⟩ := hs
            have g11 := Reg.ev (v := .int .u8 (x.toNat : Int)) e11
            have g14 := Reg.ev (v := .int .u8 (x.toNat : Int)) e14
            refine Reg.obl_free rfl ?_
            exact Reg.wp_eqv (Option.some_ne_none _) (by go_simp; first | done | rfl) rfl
          · intro ax wx hx hs
            obtain ⟨e15, -⟩ := hs
            have g15 := Reg.ev (v := .bool false) e15
            exact Reg.obl_free rfl (Reg.wp_eqv (Option.some_ne_none _) (by go_simp) rfl)
          · intro ax wx hx hs
            obtain ⟨e0, e16, -⟩ := hs
            have g0 := Reg.ev (v := .func (.yield l) #[] #[]) e0
            have g16 := Reg.ev (v := .bool false) e16
            exact Reg.obl_skip rfl rfl e16 rfl rfl
          · intro ax wx hx hs
            obtain ⟨e4, e16, -⟩ := hs
            have g4 := Reg.ev (v := .int .i64 (12 + (k : Int))) e4
            have g16 := Reg.ev (v := .bool false) e16
            exact Reg.obl_skip rfl rfl e16 rfl rfl
          · intro ax wx hx hs
            obtain ⟨e17, e18, e16, -⟩ := hs
            have g17 := Reg.ev (v := undef) e17
            have g18 := Reg.ev (v := undef) e18
            have g16 := Reg.ev (v := .bool false) e16
            exact Reg.obl_skip rfl rfl e16 rfl rfl
          · intro ax wx hx hs
            obtain ⟨e19, e16, -⟩ := hs
            have g19 := Reg.ev (v := undef) e19
            have g16 := Reg.ev (v := .bool false) e16
            exact Reg.obl_skip rfl rfl e16 rfl rfl
          · intro ax wx hx hs
            obtain ⟨e16, e20, -⟩ := hs
            have g16 := Reg.ev (v := .bool false) e16
            have g20 := Reg.ev (v := undef) e20
            exact Reg.obl_free rfl (Reg.wp_eqv (Option.some_ne_none _) (by go_simp) rfl)
        · intro W2 hwf
          simp only [Reg.Fin]
          rintro _ rfl _ rfl _ rfl _ rfl _ rfl _ rfl _ rfl _ rfl _ rfl _ rfl _ rfl _ rfl _ rfl
          go_simp
          have hwf' : Below wr.heap.size wr W2 := hwf
          gi_wp2
          go_roundw
          case rel => exact ⟨k + 1, by omega, by congr 1 <;> omega, ⟨HA.out.next hwf', HB.out.next hwf'⟩, by rw [HU.out]; exact HD.out _ _ _ HJ.out hwf'⟩
          case measure => simp [intOf]; try omega
      · have hu : DiffP.unlike a b k = true := by unfold DiffP.unlike; rw [hx, hy]; simpa using hxy
        have HU := Lib.hid (DiffP.places_ne hu)
        have hne : ((x.toNat : Int) != (y.toNat : Int)) = true := by
          rw [bne_iff_ne]; intro h; exact hxy (UInt8.toNat.inj (by omega))
        obtain ⟨fn, tmps, assign, body, hy1, hR⟩ := HY.out _ k wr.drew (show J _ wr.drew from HJD.out) (by have := DiffP.places_len a b k; omega)
        rw [DiffP.place_of hlt, show ((12 + k : Nat) : Int) = 12 + (k : Int) by omega] at hy1
        have HR := Lib.hid hR
        clear hx hy hu hR
        have htn : (12 + (k : Int)).toNat = 12 + k := by omega
        gi_wp2
        gi_region_with (refine HR.out.mono ?_; rintro e W3 ⟨c, rfl, hc⟩; have HC := Lib.hid hc; clear hc)
        all_goals
          have hc := HC.out
          have HA3 := HA
          clear HC
          rcases hc with ⟨rfl, hJ3, hk3⟩ | ⟨rfl, hJ3⟩
          · have HJ3 := Lib.hid hJ3
            have hA3 : Hid (Str W3 Ba (rowV a)) := Lib.hid (Str.kpa (HA.out.next (ext.drew wr)) hk3)
            have hB3 : Hid (Str W3 Bb (rowV b)) := Lib.hid (Str.kpb (HB.out.next (ext.drew wr)) hk3)
            clear hJ3 hk3 hy1
            go_simp
            gi_wp2
            go_roundw
            case rel => exact ⟨k + 1, by omega, by congr 1 <;> omega, ⟨hA3.out, hB3.out⟩, by rw [HU.out]; exact HJ3.out⟩
            case measure => simp [intOf]; try omega
          · have HJ3 := Lib.hid hJ3
            clear hJ3 hy1
            go_simp
            gi_wp2
            refine bodyPost_ret (results_none rfl _ _ _) rfl ?_
            exact ⟨⟨_, rfl⟩, .inr ⟨_, HJ3.out⟩⟩
    · gi_wp2
      go_end0
      obtain rfl : k = 500 := by omega
      exact ⟨⟨_, rfl⟩, .inl ⟨_, rfl, HJ.out⟩⟩
end DiffW
end Go.Proofs.YtpklclnehlgcpaaGreat
end
section
namespace Go.Proofs.YtpklclnehlgcpaaGreat
open Go.RowKit
open SlotP (over)

def cpSem (ts : Array TypeId) (ty : TypeId) (args : Array Value) : Sem Value := Builtin.copy_ ts ty args
theorem cp_fold (ts : Array TypeId) (ty : TypeId) (args : Array Value) : Builtin.copy_ ts ty args = cpSem ts ty args := rfl

theorem splice_map (l : List UInt8) (off : Nat) (s : List UInt8) : splice (l.map byteV) off (s.map byteV) = (over l off s).map byteV := by
  simp [splice, over]
theorem Str.cs {w : World} {b : Nat} {l : List UInt8} {t : TypeId} (h : w.heap[b]? = some (.cells ((l.map byteV).toArray) t (0, 0))) : Str w b (rowV l) := ⟨t, h⟩

section
variable {P : Program} {w : World}
theorem copy_bytes (dT sT ty e : TypeId) (hu : P.underlying dT = some (.slice e)) (hsz : (P.info? e).map (·.size) = some 1) {g off dLen dCap : Nat} {l : List UInt8} (hg : Str w g (rowV l))
    {B m c : Nat} {A : Option Addr} {src : List UInt8} (hs : Bytes w B A m c src) (hfit : off + dLen ≤ l.length) :
    ∃ w1, (cpSem #[dT, sT] ty #[.slice (some ⟨g, off, none⟩) dLen dCap, .slice A m c]).run P w = .ok (.int .i64 (Nat.min m dLen : Nat)) w1 ∧ Str w1 g (rowV (over l off (src.take dLen))) ∧ w.grownBy w1 (some g) := by
  obtain ⟨t, hg⟩ := hg
  have hl := hs.len
  have hlen : ((src.take dLen).map byteV).length = Nat.min m dLen := by
    simp only [List.length_map, List.length_take, hl]
    exact Nat.min_comm _ _
  obtain ⟨w1, hr, hh, hgr⟩ := run_copy_to (P := P) (w := w) dT sT ty e hu hsz (some ⟨g, off, none⟩) dLen dCap g off (l.map byteV) t hg A m c ((src.take dLen).map byteV) hlen
    (fun hpos => ⟨rfl, by
      obtain ⟨ad, e1, e2⟩ := hs.src (by simp at hpos ⊢; omega)
      refine ⟨ad, e1, fun j v hv => e2 j v ?_⟩
      rw [List.map_take, List.getElem?_take] at hv
      split at hv
      · exact hv
      · cases hv⟩) (by simp; omega) (byteV_one _)
  refine ⟨w1, ?_, ?_, hgr⟩
  · rw [hlen] at hr
    exact hr
  · rw [splice_map] at hh
    exact ⟨t, hh⟩
theorem copy_string (dT sT ty e : TypeId) (hu : P.underlying dT = some (.slice e)) (hsz : (P.info? e).map (·.size) = some 1) {g off dLen dCap : Nat} {l : List UInt8} (hg : Str w g (rowV l))
    (s : ByteArray) (hm : s.size ≤ dLen) (hfit : off + dLen ≤ l.length) :
    ∃ w1, (cpSem #[dT, sT] ty #[.slice (some ⟨g, off, none⟩) dLen dCap, .string s]).run P w = .ok (.int .i64 (s.size : Nat)) w1 ∧ Str w1 g (rowV (over l off s.data.toList)) ∧ w.grownBy w1 (some g) := by
  obtain ⟨t, hg⟩ := hg
  have hr := Lib.run_copy_row_string (P := P) w dT sT ty e g off dLen dCap s (rowV l) t hu hsz hg hm (by rw [rowV_size]; omega)
  have hl : s.data.toList.length = s.size := Array.length_toList
  refine ⟨_, hr, ⟨t, ?_⟩, grown_setRow w g _⟩
  have he : ((rowV l).toList.take off ++ Lib.byteCells s.data.toList ++ (rowV l).toList.drop (off + s.size)).toArray = rowV (over l off s.data.toList) := by
    have hb : Lib.byteCells s.data.toList = s.data.toList.map byteV := rfl
    rw [hb]
    simp [rowV, over, hl]
  rw [he]
  exact setRow_heap w g _ _ t _ hg
end
end Go.Proofs.YtpklclnehlgcpaaGreat
end
section
namespace Go.Proofs.YtpklclnehlgcpaaGreat
open Go.RowKit
set_option linter.unusedVariables false

/-- cells put over others -/
def overV (l : List Value) (off : Nat) (s : List Value) : List Value := l.take off ++ (s ++ l.drop (off + s.length))
theorem overV_length (l : List Value) (off : Nat) (s : List Value) (h : off + s.length ≤ l.length) : (overV l off s).length = l.length := by
  simp [overV]; omega
theorem overV_append (p q s : List Value) (off : Nat) (h : off + s.length ≤ p.length) : overV (p ++ q) off s = overV p off s ++ q := by
  unfold overV
  rw [List.take_append_of_le_length (by omega), List.drop_append_of_le_length (by omega)]
  simp [List.append_assoc]
theorem overV_shift (p q s : List Value) (off : Nat) : overV (p ++ q) (p.length + off) s = p ++ overV q off s := by
  unfold overV
  rw [List.take_length_add_append, Nat.add_assoc, List.drop_length_add_append, List.append_assoc]
/-- a part of one element written: among all -/
theorem over_flat {size : Nat} : ∀ (vs : List (List Value)), (∀ v ∈ vs, v.length = size) → ∀ (j : Nat) (v : List Value) (i : Nat) (s : List Value), vs[j]? = some v → i + s.length ≤ size → overV vs.flatten (j * size + i) s = (vs.set j (overV v i s)).flatten
  | [], _, j, v, i, s, h, _ => by simp at h
  | v0 :: vs, hl, 0, v, i, s, h, hi => by
    simp at h; subst h
    rw [List.flatten_cons, Nat.zero_mul, Nat.zero_add, overV_append _ _ _ _ (by rw [hl v0 (by simp)]; exact hi)]
    rfl
  | v0 :: vs, hl, j + 1, v, i, s, h, hi => by
    have h0 := hl v0 (by simp)
    have := over_flat vs (fun x hx => hl x (by simp [hx])) j v i s (by simpa using h) hi
    rw [List.flatten_cons, show (j + 1) * size + i = v0.length + (j * size + i) by rw [h0, Nat.add_mul]; omega, overV_shift, this]
    rfl
theorem Rel2.all {α : Type} {E : El α} {w : World} {B : Nat} {vs : List (List Value)} {l : List α} (h : Rel2 (E.rel w B) vs l) : ∀ v ∈ vs, v.length = E.size := fun v hv => by
  obtain ⟨x, hx⟩ := h.mem hv
  exact E.len hx
theorem Rel2.one {α : Type} {E : El α} {w : World} {B : Nat} {vs : List (List Value)} {l : List α} (h : Rel2 (E.rel w B) vs l) : ∀ u ∈ vs.flatten, u.oneCell' = true := fun u hu => by
  obtain ⟨v, hv, huv⟩ := List.mem_flatten.1 hu
  obtain ⟨x, hx⟩ := h.mem hv
  exact E.one hx u huv
theorem sz_setRow (w : World) (g : Nat) (cs : Array Value) : (w.setRow g cs).heap.size = w.heap.size := by simp [World.setRow]
theorem hide_setRow (w : World) (g B : Nat) (cs : Array Value) : Sub B (hide w g) (hide (w.setRow g cs) g) := hide_sub_of fun k _ hk => setRow_other w g k cs hk
section
variable {α : Type} {E : El α} {T : TypeId} {w w' : World} {base n c : Nat} {A : Option Addr} {l : List α}
/-- what is known of a row of the call's own that is not nil -/
theorem OwnE.row (h : OwnE E T w base A n c l) (hn : 0 < c) : ∃ g cur vs, A = some ⟨g, 0, none⟩ ∧ base ≤ g ∧ w.heap[g]? = some (.cells cur T (0, 0)) ∧ n ≤ c ∧ c ≤ maxLen ∧ cur.size = c * E.size ∧ cur.toList.take (n * E.size) = vs.flatten ∧ Rel2 (E.rel (hide w g) w.heap.size) vs l ∧ vs.length = n := by
  have hl := h.len
  obtain ⟨vs, h1, h2⟩ := h
  rcases h1.2 with ⟨e, h0⟩ | ⟨g, cap, cur, e, hg, hh, hnc, hm, hc, hx⟩
  · cases e; omega
  · cases e
    exact ⟨g, cur, vs, rfl, hg, hh, hnc, hm, hc, hx, h2, h2.length.trans hl⟩
theorem OwnE.mk' {g : Nat} {cur : List Value} {vs : List (List Value)} (hg : base ≤ g) (hh : w.heap[g]? = some (.cells cur.toArray T (0, 0))) (hnc : n ≤ c) (hm : c ≤ maxLen) (hc : cur.length = c * E.size) (hx : cur.take (n * E.size) = vs.flatten) (hr : Rel2 (E.rel (hide w g) w.heap.size) vs l) (hl : l.length = n) : OwnE E T w base (some ⟨g, 0, none⟩) n c l :=
  ⟨vs, ⟨by rw [hr.flat (fun _ _ => E.len), hl], .inr ⟨g, c, cur.toArray, rfl, hg, hh, hnc, hm, by simpa using hc, by simpa using hx⟩⟩, hr⟩
/-- a part of an element is written -/
theorem OwnE.write {P : Program} (h : OwnE E T w base A n c l) {j i : Nat} {s : List Value} {x : α} (hj : j < n) (hi : i + s.length ≤ E.size) (h1 : ∀ v ∈ s, v.oneCell' = true) (hrel : ∀ g vs, A = some ⟨g, 0, none⟩ → (∀ y, l[j]? = some y → E.rel (hide w g) w.heap.size vs y) → E.rel (hide w g) w.heap.size (overV vs i s) x) :
    ∃ g w1, A = some ⟨g, 0, none⟩ ∧ base ≤ g ∧ g < w.heap.size ∧ (storeCells ⟨g, j * E.size + i, none⟩ s).run P w = .ok () w1 ∧ OwnE E T w1 base A n c (l.set j x) ∧ w.grownBy w1 (some g) ∧ w1.heap.size = w.heap.size := by
  have hlen := h.len
  have hcap := h.elemsIn.cap
  obtain ⟨g, cur, vs, rfl, hg, hh, hnc, hm, hc, hx, hr, hvl⟩ := h.row (by omega)
  have hgl := (Array.getElem?_eq_some_iff.1 hh).1
  have hjs : j * E.size + E.size ≤ n * E.size := by rw [← Nat.succ_mul]; exact Nat.mul_le_mul_right _ hj
  have hns : n * E.size ≤ c * E.size := Nat.mul_le_mul_right _ hnc
  have hrun := run_storeCells_at P g (j * E.size + i) T s 0 cur w hh (by rw [hc]; omega) h1
  simp only [Nat.add_zero] at hrun
  obtain ⟨v, hv, hvr⟩ := hr.get (List.getElem?_eq_getElem (show j < l.length by omega))
  have hov : (cur.toList.take (j * E.size + i) ++ s ++ cur.toList.drop (j * E.size + i + s.length)) = overV cur.toList (j * E.size + i) s := by simp [overV]
  rw [hov] at hrun
  have hsplit : cur.toList = vs.flatten ++ cur.toList.drop (n * E.size) := by rw [← hx, List.take_append_drop]
  have hfl : vs.flatten.length = n * E.size := by rw [hr.flat (fun _ _ => E.len), hlen]
  have hnew : overV cur.toList (j * E.size + i) s = (vs.set j (overV v i s)).flatten ++ cur.toList.drop (n * E.size) := by
    rw [← over_flat vs hr.all j v i s hv hi, ← overV_append _ _ _ _ (by rw [hfl]; omega), ← hsplit]
  have hnl : (overV cur.toList (j * E.size + i) s).length = c * E.size := by rw [overV_length _ _ _ (by simp [hc]; omega)]; simpa using hc
  refine ⟨g, _, rfl, hg, hgl, hrun, ?_, grown_setRow w g _, sz_setRow _ _ _⟩
  have hset := hr.set (hrel g v rfl (fun y hy => by
    rw [List.getElem?_eq_getElem (show j < l.length by omega)] at hy
    cases hy
    exact hvr)) j
  have hfl2 : (vs.set j (overV v i s)).flatten.length = n * E.size := by rw [hset.flat (fun _ _ => E.len), List.length_set, hlen]
  exact OwnE.mk' hg (setRow_heap w g _ _ T _ hh) hnc hm hnl (by rw [hnew, List.take_left' hfl2]) (hset.imp fun _ _ hq => by rw [sz_setRow]; exact E.sub (hide_setRow _ _ _ _) hq) (by simpa using hlen)
/-- made -/
theorem own_made {P : Program} (t : TypeId) (i : TypeInfo) (z : Value) (zs : List Value) (x : α) (ht : P.underlying t = some (.slice T)) (hi : P.info? T = some i) (hz : i.zero = some z) (hs : i.size = E.size) (hzs : z.cells = zs.toArray) (hrel : ∀ w B, E.rel w B zs x)
    (n : Nat) (hbytes : i.bytes * n ≤ 281474976710656) (h63 : n ≤ 100000) (w : World) : ∃ w1, (Instr.makeSlice t (.int .i64 (n : Int)) (.int .i64 (n : Int))).run P w = .ok (.slice (some ⟨w.heap.size, 0, none⟩) n n) w1 ∧ OwnE E T w1 w.heap.size (some ⟨w.heap.size, 0, none⟩) n n (List.replicate n x) ∧ Below w.heap.size w w1 ∧ w1.heap.size = w.heap.size + 1 := by
  have hb' : (i.bytes : Int) * (n : Int) ≤ 281474976710656 := by
    have h : ((i.bytes * n : Nat) : Int) ≤ 281474976710656 := by omega
    rwa [Int.natCast_mul] at h
  have hr := run_make (P := P) w t T i z ht hi hz .i64 .i64 n n (by omega) (Int.le_refl _) hb' (by omega)
  simp only [Int.toNat_natCast] at hr
  refine ⟨_, hr, ?_, balloc (bsame w) _, by simp⟩
  have hzl : zs.length = E.size := E.len (hrel w 0)
  have hcells : (madeCells z.cells (n * i.size)).toList = (List.replicate n zs).flatten := by
    rw [hs, hzs]
    refine List.ext_getElem? fun k => ?_
    have hsz : 0 < E.size := E.pos
    by_cases hk : k < n * E.size
    · have hq : k / E.size < n := Nat.div_lt_of_lt_mul (by have := Nat.mul_comm n E.size; omega)
      have hrm : k % E.size < zs.length := by rw [hzl]; exact Nat.mod_lt _ hsz
      have h1 := flat_at (size := E.size) (List.replicate n zs) (fun v hv => by rw [(List.mem_replicate.1 hv).2]; exact hzl) (k / E.size) zs (k % E.size) zs[k % E.size] (by simp [hq]) (List.getElem?_eq_getElem hrm)
      rw [show k / E.size * E.size + k % E.size = k from Nat.div_add_mod' k E.size] at h1
      rw [h1]
      simp only [madeCells, Array.toList_map, Array.toList_range, List.getElem?_map, List.getElem?_range hk, Option.map_some, Option.some.injEq]
      have : zs.toArray.size = E.size := by simpa using hzl
      rw [this, getElem!_pos zs.toArray (k % E.size) (by simpa using hrm)]
      simp
    · rw [List.getElem?_eq_none (by simp [madeCells]; omega), List.getElem?_eq_none]
      simp [hzl]; omega
  have hrl : Rel2 (E.rel (hide (w.alloc (.cells (madeCells z.cells (n * i.size)) T)) w.heap.size) (w.alloc (.cells (madeCells z.cells (n * i.size)) T)).heap.size) (List.replicate n zs) (List.replicate n x) := by
    clear hr hcells hb' hbytes h63
    generalize hide (w.alloc (.cells (madeCells z.cells (n * i.size)) T)) w.heap.size = u
    generalize (w.alloc (.cells (madeCells z.cells (n * i.size)) T)).heap.size = B
    induction n with
    | zero => trivial
    | succ n ih => exact ⟨hrel _ _, ih⟩
  exact OwnE.mk' (cur := (List.replicate n zs).flatten) (Nat.le_refl _) (by rw [← hcells]; simpa using heap_alloc_new w (.cells (madeCells z.cells (n * i.size)) T)) (Nat.le_refl _) (by unfold maxLen; omega) (by simp [hzl]) (by rw [List.take_of_length_le (by simp [hzl])]) hrl (by simp)
end
end Go.Proofs.YtpklclnehlgcpaaGreat
end
section
namespace Go.Proofs.YtpklclnehlgcpaaGreat
open Go.RowKit
set_option linter.unusedVariables false
/-- an append in a region, of slices of any kind -/
theorem wp_appT {P : Program} {o : Oper} {a : Act} {w w' : World} {K : Act → World → Prop} {Q : Exit → Act → World → Prop} {A A2 A' : Option Addr} {n c m c2 n' c' : Nat} {t : TypeId} (s x : Operand)
    (ho : o.op = .call { callee := .builtin .append, args := #[s, x], argTypes := #[t, t] }) (hty : o.type = t) (hs : a.eval s = .slice A n c) (hx : a.eval x = .slice A2 m c2)
    (hr : (appSem #[t, t] t #[.slice A n c, .slice A2 m c2]).run P w = .ok (.slice A' n' c') w') (k : K (a.put o.dst (.slice A' n' c')) w') : Oper.wp P o a w K Q := by
  unfold appSem at hr
  unfold Oper.wp execOp
  simp only [ho, hty, resolve, invoke, builtin, Sem.run_bind, Sem.run_pure, Result.andThen_ok, List.map_toArray, List.map_cons, List.map_nil, hs, hx, hr]
  exact k
namespace Reg
theorem eval_ne {t : Tmp} {a : Act} {d : Option Tmp} {v : Value} (h : d ≠ some t) : (a.put d v).eval (.tmp t) = a.eval (.tmp t) := eval_of (put_other a d v t h)
theorem obl_freeL {R : Way} {P : Program} {ops : Array Oper} {Q : Exit → Act → World → Prop} {T : List (SP R)} {j : Nat} {o : Oper} {a : Act} {w : World} (hg : o.guard = none) (h : o.wp P a w (DoneB T j o a w) Q) : (Region.wanted o (yielded ops a.tmps) = true → o.wp P a w (DoneB T j o a w) Q) ∧ (Region.wanted o (yielded ops a.tmps) = false → predAt T j undef w) :=
  ⟨fun _ => h, fun hw => by simp [Region.wanted, hg] at hw⟩
theorem extB_next {N : Nat} {b0 : List Nat} {W : World} (hN : N = W.heap.size) : ∀ w w', (extB N b0).rel W w → Below w.heap.size w w' → (extB N b0).rel w w' := fun w w' h k => KeepB.of (k.mono (by rw [hN]; exact KeepB.size h))
/-- what so many of the line have brought about, and whether the one beside them has come up -/
abbrev LS := Nat → Bool → Act → World → Prop
/-- the line: who they are; the one beside them; what they bring about -/
structure Line where
  C : List Nat
  q : Nat
  S : LS
def LineJ (l : Line) : Word := fun listed a w => ∃ k, k ≤ l.C.length ∧ (∀ i c, l.C[i]? = some c → listed.getD c false = decide (i < k)) ∧ l.S k (listed.getD l.q false) a w
theorem line_zero {l : Line} {listed : Array Bool} {a : Act} {w : World} (h0 : l.S 0 false a w) (h : ∀ i, listed.getD i false = false) : LineJ l listed a w :=
  ⟨0, Nat.zero_le _, fun i c _ => by rw [h]; simp, by rw [h]; exact h0⟩
theorem line_end {l : Line} {listed : Array Bool} {a : Act} {w : World} {n : Nat} (hall : ∀ i, i < n → listed.getD i false = true) (hC : ∀ c ∈ l.C, c < n) (hJ : LineJ l listed a w) : ∃ b, (l.q < n → b = true) ∧ l.S l.C.length b a w := by
  obtain ⟨k, hk, hl, hS⟩ := hJ
  have e : k = l.C.length := by
    by_cases h : k < l.C.length
    · have h1 := hl k l.C[k] (List.getElem?_eq_getElem h)
      rw [hall _ (hC _ (List.getElem_mem h))] at h1
      simp at h1
    · omega
  subst e
  exact ⟨_, fun h => hall _ h, hS⟩
section
variable {R : Way} {l : Line} {P : Program} {ops : Array Oper} {Q : Exit → Act → World → Prop} {T : List (SP R)} {a0 : Act} {W : World} {j : Nat} {o : Oper} {s : List (Tmp × Option Nat)}
/-- an operation that is none of these -/
theorem oblL_ord (hj : j ∉ l.C ∧ j ≠ l.q) (hR : ∀ w w', R.rel W w → Below w.heap.size w w' → R.rel w w') (hst : ∀ k b a w v w', l.S k b a w → Below w.heap.size w w' → l.S k b (a.put o.dst v) w')
    (h : ∀ a w, R.rel W w → sights T a0 a w s → (Region.wanted o (yielded ops a.tmps) = true → o.wp P a w (DoneB T j o a w) Q) ∧ (Region.wanted o (yielded ops a.tmps) = false → predAt T j undef w)) : OblJ P ops Q T (LineJ l) a0 W j o s := by
  intro listed a w hx hs _ _ hun hwt hJ
  obtain ⟨h1, h2⟩ := h a w hx hs
  have key : ∀ v w', Below w.heap.size w w' → LineJ l (listed.setIfInBounds j true) (a.put o.dst v) w' := fun v w' hb => by
    obtain ⟨k, hk, hl, hS⟩ := hJ
    refine ⟨k, hk, fun i c hc => ?_, ?_⟩
    · rw [getD_set_ne false (fun e => hj.1 (by rw [e]; exact List.mem_of_getElem? hc))]
      exact hl i c hc
    · rw [getD_set_ne false hj.2]
      exact hst k _ a w v w' hS hb
  refine ⟨fun hw => Oper.wp_mono (fun a' w' ⟨v, e, hz, hp, hb⟩ => ?_) (h1 hw), fun hw => ⟨h2 hw, key _ _ (bsame w)⟩⟩
  subst e
  exact ⟨⟨v, rfl, hz, hp, hR w w' hx hb⟩, key v w' hb⟩
/-- one of the line -/
theorem oblL_line {k : Nat} (hg : o.guard = none) (hc : l.C[k]? = some j) (hnd : l.C.Nodup) (hq : j ≠ l.q) (hjl : j < ops.size) (hw : k = 0 ∨ ∃ c, l.C[k - 1]? = some c ∧ waits ops j c = true)
    (h : ∀ b a w, R.rel W w → sights T a0 a w s → a.tmps.size = a0.tmps.size → (waits ops j l.q = true → b = true) → l.S k b a w → o.wp P a w (fun a' w' => Done T j o a w a' w' ∧ l.S (k + 1) b a' w') Q) : OblJ P ops Q T (LineJ l) a0 W j o s := by
  intro listed a w hx hs hls has hun hwt hJ
  obtain ⟨k', hk', hl, hS⟩ := hJ
  have h1 := hl k j hc
  rw [getD_ft hun] at h1
  have hle : k' ≤ k := by
    have : ¬ k < k' := by simpa using h1.symm
    omega
  have he : k' = k := by
    rcases hw with rfl | ⟨c, h2, h3⟩
    · omega
    · have h4 := hl _ c h2
      rw [hwt c h3] at h4
      have : k - 1 < k' := by simpa using h4.symm
      omega
  subst he
  have hlt := (List.getElem?_eq_some_iff.1 hc).1
  refine free hg (Oper.wp_mono (fun a' w' ⟨h5, h6⟩ => ⟨h5, k' + 1, hlt, fun i c hi => ?_, ?_⟩) (h _ a w hx hs has (fun hw => hwt _ hw) hS))
  · by_cases e : i = k'
    · subst e
      rw [hc] at hi
      cases hi
      rw [getD_set_self (by omega)]
      simp
    · have hne : j ≠ c := fun e2 => e (by
        subst e2
        have g1 := (List.getElem?_eq_some_iff.1 hi).1
        have g3 := (List.getElem?_eq_some_iff.1 hi).2.trans (List.getElem?_eq_some_iff.1 hc).2.symm
        have g4 := List.pairwise_iff_getElem.1 hnd
        rcases Nat.lt_or_gt_of_ne e with e4 | e4
        · exact absurd g3 (g4 i k' g1 hlt e4)
        · exact absurd g3.symm (g4 k' i hlt g1 e4))
      rw [getD_set_ne false hne, hl i c hi]
      by_cases h7 : i < k'
      · simp [h7]; omega
      · simp [h7]; omega
  · rw [getD_set_ne false hq]
    exact h6
/-- the one beside them -/
theorem oblL_side (hg : o.guard = none) (hj : j = l.q) (hn : j ∉ l.C) (hjl : j < ops.size)
    (h : ∀ k a w, R.rel W w → sights T a0 a w s → a.tmps.size = a0.tmps.size → l.S k false a w → o.wp P a w (fun a' w' => Done T j o a w a' w' ∧ l.S k true a' w') Q) : OblJ P ops Q T (LineJ l) a0 W j o s := by
  intro listed a w hx hs hls has hun hwt hJ
  obtain ⟨k, hk, hl, hS⟩ := hJ
  have hf : listed.getD l.q false = false := by rw [← hj]; exact getD_ft hun
  rw [hf] at hS
  refine free hg (Oper.wp_mono (fun a' w' ⟨h5, h6⟩ => ⟨h5, k, hk, fun i c hi => ?_, ?_⟩) (h k a w hx hs has hS))
  · rw [getD_set_ne false (fun e => hn (by rw [e]; exact List.mem_of_getElem? hi))]
    exact hl i c hi
  · rw [← hj, getD_set_self (by omega)]
    exact h6
end
end Reg
end Go.Proofs.YtpklclnehlgcpaaGreat
end
section
namespace Go.Proofs.YtpklclnehlgcpaaGreat
open Go.RowKit
set_option linter.unusedVariables false
theorem cutA_zero (b o c s : Nat) : cutA (some ⟨b, o, none⟩) 0 c s = some ⟨b, o, none⟩ := by
  unfold cutA
  split
  · rfl
  · simp [add_none]
theorem cutA_pos {b o k c s : Nat} (h : c ≠ k) : cutA (some ⟨b, o, none⟩) k c s = some ⟨b, o + k * s, none⟩ := by
  unfold cutA
  rw [if_neg h]
  simp [add_none]
theorem cutA_some (b o k c s : Nat) : ∃ o', cutA (some ⟨b, o, none⟩) k c s = some ⟨b, o', none⟩ := by
  by_cases h : c = k
  · exact ⟨o, by unfold cutA; rw [if_pos h]⟩
  · exact ⟨_, cutA_pos h⟩
def clSem (ts : Array TypeId) (ty : TypeId) (args : Array Value) : Sem Value := Builtin.clear_ ts ty args
theorem cl_fold (ts : Array TypeId) (ty : TypeId) (args : Array Value) : Builtin.clear_ ts ty args = clSem ts ty args := rfl
section
variable {α : Type} {E : El α} {T : TypeId} {w w' : World} {base n c : Nat} {A : Option Addr} {l : List α}
theorem OwnE.del {P : Program} (t ty : TypeId) (i : TypeInfo) (ht : P.underlying t = some (.slice T)) (hi : P.info? T = some i) (hs : i.size = E.size) (h : OwnE E T w base A n c l) (k : Nat) (hk : k < n) :
    ∃ g w1, A = some ⟨g, 0, none⟩ ∧ base ≤ g ∧ g < w.heap.size ∧ (appSem #[t, t] ty #[.slice (cutA A 0 c E.size) k c, .slice (cutA A (k + 1) c E.size) (n - (k + 1)) (c - (k + 1))]).run P w = .ok (.slice A (n - 1) c) w1 ∧ OwnE E T w1 base A (n - 1) c (l.eraseIdx k) ∧ w.grownBy w1 (some g) ∧ w1.heap.size = w.heap.size := by
  have hlen := h.len
  have hcap := h.elemsIn.cap
  obtain ⟨g, cur, vs, rfl, hg, hh, hnc, hm, hc, hx, hr, hvl⟩ := h.row (by omega)
  have hgl := (Array.getElem?_eq_some_iff.1 hh).1
  have hsz : 0 < E.size := E.pos
  have hall := hr.all
  have hnl : (vs.drop (k + 1)).flatten.length = (n - (k + 1)) * E.size := by rw [(hr.drop (k + 1)).flat (fun _ _ => E.len)]; simp [hlen]
  have hmul : k * E.size + (n - (k + 1)) * E.size = (n - 1) * E.size := by rw [← Nat.add_mul]; congr 1; omega
  have hle1 : (n - 1) * E.size ≤ c * E.size := Nat.mul_le_mul_right _ (by omega)
  have hkn : k * E.size ≤ n * E.size := Nat.mul_le_mul_right _ (by omega)
  obtain ⟨o', ho'⟩ := cutA_some g 0 (k + 1) c E.size
  have hsrc : ∀ j u, (vs.drop (k + 1)).flatten[j]? = some u → w.cell? ((⟨g, o', none⟩ : Addr).add j) = some u := by
    intro j u hu
    have hpos : 0 < (n - (k + 1)) * E.size := by rw [← hnl]; exact Nat.lt_of_le_of_lt (Nat.zero_le _) (List.getElem?_eq_some_iff.1 hu).1
    have hne : c ≠ k + 1 := by
      rintro rfl
      have : n - (k + 1) = 0 := by omega
      rw [this] at hpos; simp at hpos
    rw [cutA_pos hne] at ho'
    injection ho' with ho'
    injection ho' with _ ho' _
    rw [add_none, ← ho', Nat.zero_add]
    rw [flat_drop vs hall, List.getElem?_drop, ← hx, List.getElem?_take] at hu
    split at hu
    · simp only [World.cell?, hh]
      simpa using hu
    · cases hu
  have hrun := run_append_room (P := P) w t ty T i ht hi g k c cur hh ⟨g, o', none⟩ (n - (k + 1)) (c - (k + 1)) (vs.drop (k + 1)).flatten (by rw [hs]; exact hnl) hsrc (fun u hu => Rel2.one (hr.drop (k + 1)) u hu) (by omega) (by rw [hs, hnl, hmul, hc]; exact hle1)
  rw [hs, hnl, hmul, show k + (n - (k + 1)) = n - 1 by omega] at hrun
  refine ⟨g, _, rfl, hg, hgl, by rw [cutA_zero, ho']; exact hrun, ?_, grown_setRow w g _, sz_setRow _ _ _⟩
  have hrel : Rel2 (E.rel (hide w g) w.heap.size) (vs.eraseIdx k) (l.eraseIdx k) := by
    rw [List.eraseIdx_eq_take_drop_succ, List.eraseIdx_eq_take_drop_succ]
    exact Rel2.append (hr.drop (k + 1)) (hr.take k)
  have htk : (vs.take k).flatten = cur.toList.take (k * E.size) := by rw [flat_take vs hall, ← hx, List.take_take, Nat.min_eq_left hkn]
  have hcl : cur.toList.length = c * E.size := by simpa using hc
  refine OwnE.mk' (vs := vs.eraseIdx k) hg (setRow_heap w g _ _ T _ hh) (by omega) hm ?_ ?_ (hrel.imp fun _ _ hq => by rw [sz_setRow]; exact E.sub (hide_setRow _ _ _ _) hq) (by rw [List.length_eraseIdx_of_lt (by omega), hlen])
  · simp only [List.length_append, List.length_take, List.length_drop, hnl, hcl]
    omega
  · rw [List.eraseIdx_eq_take_drop_succ, List.flatten_append, htk, List.take_append_of_le_length (by simp only [List.length_append, List.length_take, hnl, hcl]; omega), List.take_of_length_le (by simp only [List.length_append, List.length_take, hnl, hcl]; omega)]
/-- cells behind the row's length are wiped -/
theorem OwnE.wipe {P : Program} (t ty : TypeId) (i : TypeInfo) (z : Value) (ht : P.underlying t = some (.slice T)) (hi : P.info? T = some i) (hz : i.zero = some z) (hzs : z.cells.size = E.size) (hz1 : ∀ v ∈ z.cells.toList, v.oneCell' = true) (h : OwnE E T w base A n c l) (hn : n < c) (q : Nat) (hq : q = 1) :
    ∃ g w1, A = some ⟨g, 0, none⟩ ∧ (clSem #[t] ty #[.slice (cutA A n c E.size) q (c - n)]).run P w = .ok (.tuple #[]) w1 ∧ OwnE E T w1 base A n c l ∧ w.grownBy w1 (some g) ∧ w1.heap.size = w.heap.size := by
  subst hq
  have hlen := h.len
  obtain ⟨g, cur, vs, rfl, hg, hh, hnc, hm, hc, hx, hr, hvl⟩ := h.row (by omega)
  have hsz : 0 < E.size := E.pos
  have hzc : (Builtin.zeroCells z.cells 1).toList.length = E.size := by simp [Builtin.zeroCells, hzs]
  have hzo : ∀ v ∈ (Builtin.zeroCells z.cells 1).toList, v.oneCell' = true := by
    intro v hv
    simp only [Builtin.zeroCells, Array.toList_map, List.mem_map, Array.mem_toList_iff] at hv
    obtain ⟨j, hj, rfl⟩ := hv
    have hj2 : j < 1 * z.cells.size := by simpa using hj
    rw [getElem!_pos z.cells (j % z.cells.size) (Nat.mod_lt _ (by omega))]
    exact hz1 _ (by rw [Array.mem_toList_iff]; exact Array.getElem_mem _)
  have hle : n * E.size + E.size ≤ c * E.size := by rw [← Nat.succ_mul]; exact Nat.mul_le_mul_right _ hn
  have hst := run_storeCells_at P g (n * E.size) T (Builtin.zeroCells z.cells 1).toList 0 cur w hh (by rw [hc, hzc]; omega) hzo
  simp only [Nat.add_zero] at hst
  refine ⟨g, _, rfl, ?_, ?_, grown_setRow w g (cur.toList.take (n * E.size) ++ (Builtin.zeroCells z.cells 1).toList ++ cur.toList.drop (n * E.size + (Builtin.zeroCells z.cells 1).toList.length)).toArray, sz_setRow _ _ _⟩
  · rw [cutA_pos (by omega), Nat.zero_add]
    simp [clSem, Builtin.clear_, run_underlying ht, zeroValue, typeInfo, hi, hz, hst]
  · have hcl : cur.toList.length = c * E.size := by simpa using hc
    refine OwnE.mk' (vs := vs) hg (setRow_heap w g _ _ T _ hh) hnc hm ?_ ?_ (hr.imp fun _ _ hq => by rw [sz_setRow]; exact E.sub (hide_setRow _ _ _ _) hq) hlen
    · simp only [List.length_append, List.length_take, List.length_drop, hzc, hcl]
      omega
    · rw [List.append_assoc, List.take_append_of_le_length (by simp only [List.length_take, hcl]; omega), List.take_take, Nat.min_self, hx]
end
end Go.Proofs.YtpklclnehlgcpaaGreat
end
section
namespace Go.Proofs.YtpklclnehlgcpaaGreat
open Go.RowKit
set_option linter.unusedVariables false
theorem run_copy_k {P : Program} {w : World} (dT sT ty elem : TypeId) (size : Nat) (hu : P.underlying dT = some (.slice elem)) (hsz : (P.info? elem).map (·.size) = some size)
    {g off dLen dCap : Nat} {cur : Array Value} {t : TypeId} (hg : w.heap[g]? = some (.cells cur t (0, 0))) {a : Addr} {sLen sCap : Nat} {cs : List Value} (hn : cs.length = Nat.min sLen dLen * size)
    (hsrc : ∀ j v, cs[j]? = some v → w.cell? (a.add j) = some v) (hfit : off + cs.length ≤ cur.size) (h1 : ∀ v ∈ cs, v.oneCell' = true) :
    (cpSem #[dT, sT] ty #[.slice (some ⟨g, off, none⟩) dLen dCap, .slice (some a) sLen sCap]).run P w = .ok (.int .i64 (Nat.min sLen dLen : Nat)) (w.setRow g (overV cur.toList off cs).toArray) := by
  have hl := run_loadCells_list (P := P) w a cs hsrc
  have hst := run_storeCells_at P g off t cs 0 cur w hg (by simpa using hfit) h1
  simp only [Nat.add_zero] at hst
  have hov : cur.toList.take off ++ cs ++ cur.toList.drop (off + cs.length) = overV cur.toList off cs := by simp [overV]
  rw [hov] at hst
  cases hq : P.info? elem with
  | none => simp [hq] at hsz
  | some i =>
    have hi : i.size = size := by simpa [hq] using hsz
    simp [cpSem, Builtin.copy_, run_underlying hu, Builtin.lenOf, Builtin.firstCells, sizeOf, typeInfo, hq, hi, ← hn, hl, hst, goInt]
theorem over_mid (p m q s : List Value) (h : m.length = s.length) : overV (p ++ (m ++ q)) p.length s = p ++ (s ++ q) := by
  have := overV_shift p (m ++ q) s 0
  rw [Nat.add_zero] at this
  rw [this]
  unfold overV
  rw [List.take_zero, List.nil_append, Nat.zero_add, ← h, List.drop_left]
section
variable {α : Type} {E : El α} {T : TypeId} {w : World} {base n c : Nat} {A : Option Addr} {l : List α}
theorem OwnE.ins {P : Program} (t tn ty ti : TypeId) (i : TypeInfo) (z : Value) (bytes : Nat) (ht : P.underlying t = some (.slice T)) (htn : P.underlying tn = some (.int .i64)) (hi : P.info? T = some i) (hz : i.zero = some z) (hs : i.size = E.size) (hby : i.bytes = bytes) (hzs : z.cells.size = E.size)
    (h : OwnE E T w base A n c l) (k : Nat) (hk : k < n) (hc : c = n) (hn : n ≤ 100000) (hb8 : bytes ≤ 1000) {b o cv : Nat} {x : α} (hv : ElemsIn E (hid A w) w w.heap.size (some ⟨b, o, none⟩) 1 cv [x]) :
    ∃ cap wA wB wC, n + 1 ≤ cap ∧ cap ≤ maxLen ∧ (appSem #[t, tn] ty #[.slice (cutA A 0 c E.size) k c, .int .i64 ((n + 1 - k : Nat) : Int)]).run P w = .ok (.slice (some ⟨w.heap.size, 0, none⟩) (n + 1) cap) wA ∧
      (cpSem #[t, t] ti #[.slice (cutA (some ⟨w.heap.size, 0, none⟩) k cap E.size) (n + 1 - k) (cap - k), .slice (some ⟨b, o, none⟩) 1 cv]).run P wA = .ok (.int .i64 1) wB ∧
      (cpSem #[t, t] ti #[.slice (cutA (some ⟨w.heap.size, 0, none⟩) (k + 1) cap E.size) (n - k) (cap - (k + 1)), .slice (cutA A k c E.size) (n - k) (c - k)]).run P wB.drew = .ok (.int .i64 ((n - k : Nat) : Int)) wC ∧
      OwnE E T wC w.heap.size (some ⟨w.heap.size, 0, none⟩) (n + 1) cap (l.take k ++ x :: l.drop k) ∧ Below w.heap.size w wC ∧ wC.heap.size = w.heap.size + 1 := by
  subst hc
  have hlen := h.len
  obtain ⟨g, cur, vs, rfl, hg, hh, hnc, hm, hcs, hx, hr, hvl⟩ := h.row (by omega)
  have hgl := (Array.getElem?_eq_some_iff.1 hh).1
  have hall := hr.all
  have hsz : 0 < E.size := E.pos
  obtain ⟨vv, hrv, hlv, -, -, hxv⟩ := hv
  obtain ⟨b', o', e, hbl, hcv⟩ := hxv (by omega)
  cases e
  have hvv : vv.flatten.length = E.size := by rw [hrv.flat (fun _ _ => E.len)]; simp
  have hcell : ∀ m j u, (vs.drop m).flatten[j]? = some u → w.cell? ⟨g, m * E.size + j, none⟩ = some u := by
    intro m j u hu
    rw [flat_drop vs hall, List.getElem?_drop, ← hx, List.getElem?_take] at hu
    split at hu
    · simp only [World.cell?, hh]
      simpa using hu
    · cases hu
  have hol : (vs.take k).flatten.length = k * E.size := by rw [(hr.take k).flat (fun _ _ => E.len), List.length_take, hlen, Nat.min_eq_left (by omega)]
  have hdl : (vs.drop k).flatten.length = (c - k) * E.size := by rw [(hr.drop k).flat (fun _ _ => E.len)]; simp [hlen]
  have hold := run_firstCells_some (P := P) w.drew i.size k ⟨g, 0, none⟩ k c (vs.take k).flatten (by rw [hs]; exact hol) (by
    intro j u hu
    rw [add_none, Nat.zero_add]
    show w.cell? _ = _
    have := hcell 0 j u (by
      rw [List.drop_zero]
      rw [flat_take vs hall, List.getElem?_take] at hu
      split at hu
      · exact hu
      · cases hu)
    rwa [Nat.zero_mul, Nat.zero_add] at this)
  have happ := Lib.run_append_grow_zeros (P := P) w t tn ty T i z .i64 .i64 ht htn hi hz (some ⟨g, 0, none⟩) k c (vs.take k).flatten hold (c + 1 - k) (by omega) (by omega) (by omega) (by omega) (by rw [hby]; exact Nat.le_trans (Nat.mul_le_mul (show c + 1 - k ≤ 100001 by omega) hb8) (by decide)) (growslice_fits (by omega) (by rw [hby]; exact Nat.le_trans (Nat.mul_le_mul (show k + (c + 1 - k) ≤ 100001 by omega) hb8) (by decide)))
  rw [show k + (c + 1 - k) = c + 1 by omega] at happ
  have hge := grownCap_ge w (c + 1) c T
  have hle := grownCap_le_maxLen w (c + 1) c T (by unfold maxLen; omega)
  generalize grownCap w (c + 1) c T = cap at happ hge hle
  generalize hZ : Builtin.zeroCells z.cells (c + 1 - k) ++ Builtin.zeroCells z.cells (cap - (c + 1)) = Z at happ
  rw [Array.append_assoc, hZ] at happ
  have hZl : Z.toList.length = (cap - k) * E.size := by
    rw [← hZ]
    simp only [Array.toList_append, List.length_append, Array.length_toList, size_zeroCells, hzs]
    rw [← Nat.add_mul]; congr 1; omega
  obtain ⟨zl, hzl⟩ : ∃ zl, Z.toList = zl := ⟨_, rfl⟩
  rw [hzl] at hZl
  have hrow : (vs.take k).flatten.toArray ++ Z = ((vs.take k).flatten ++ zl).toArray := by rw [← hzl]; simp
  rw [hrow] at happ
  clear hrow hZ hzl
  -- the second part of the new row
  have hm1 : (cap - k) * E.size = E.size + ((c - k) * E.size + (cap - (c + 1)) * E.size) := by
    rw [show cap - k = 1 + ((c - k) + (cap - (c + 1))) by omega, Nat.add_mul, Nat.add_mul, Nat.one_mul]
  obtain ⟨z1, z2, z3, rfl, hz1, hz2, hz3⟩ : ∃ z1 z2 z3 : List Value, zl = z1 ++ (z2 ++ z3) ∧ z1.length = E.size ∧ z2.length = (c - k) * E.size ∧ z3.length = (cap - (c + 1)) * E.size :=
    ⟨zl.take E.size, (zl.drop E.size).take ((c - k) * E.size), (zl.drop E.size).drop ((c - k) * E.size), by rw [List.take_append_drop, List.take_append_drop], by simp; omega, by simp; omega, by simp; omega⟩
  have hkc : k * E.size + (cap - k) * E.size = cap * E.size := by rw [← Nat.add_mul]; congr 1; omega
  have hA : (w.drew.alloc (.cells ((vs.take k).flatten ++ (z1 ++ (z2 ++ z3))).toArray T)).heap[w.heap.size]? = some (.cells ((vs.take k).flatten ++ (z1 ++ (z2 ++ z3))).toArray T (0, 0)) := heap_alloc_new w.drew _
  generalize hwA : w.drew.alloc (.cells ((vs.take k).flatten ++ (z1 ++ (z2 ++ z3))).toArray T) = wA at happ hA
  have hbA : Below w.heap.size w wA := by rw [← hwA]; exact ((bsame w).drew).alloc (by simp) _
  have hzA : wA.heap.size = w.heap.size + 1 := by rw [← hwA]; simp
  have hcpB := run_copy_k (P := P) (w := wA) t t ti T E.size ht (by rw [hi]; simp [hs]) (g := w.heap.size) (off := k * E.size) (dLen := c + 1 - k) (dCap := cap - k) hA (a := ⟨b, o, none⟩) (sLen := 1) (sCap := cv) (cs := vv.flatten) (by rw [hvv, show Nat.min 1 (c + 1 - k) = 1 from Nat.min_eq_left (by omega), Nat.one_mul])
    (by intro j u hu; rw [add_none]; exact (hbA.cell (p := ⟨b, o + j, none⟩) hbl).trans (hcv j u hu)) (by simp only [List.size_toArray, List.length_append, hol, hz1, hvv]; omega) (Rel2.one hrv)
  rw [show Nat.min 1 (c + 1 - k) = 1 from Nat.min_eq_left (by omega)] at hcpB
  have eB : overV ((vs.take k).flatten ++ (z1 ++ (z2 ++ z3))) (k * E.size) vv.flatten = ((vs.take k).flatten ++ vv.flatten) ++ (z2 ++ z3) := by
    have := over_mid (vs.take k).flatten z1 (z2 ++ z3) vv.flatten (by rw [hz1, hvv])
    rw [hol] at this
    rw [this, List.append_assoc]
  rw [show (((vs.take k).flatten ++ (z1 ++ (z2 ++ z3))).toArray).toList = (vs.take k).flatten ++ (z1 ++ (z2 ++ z3)) from by simp, eB] at hcpB
  have hB := setRow_heap wA w.heap.size _ (((vs.take k).flatten ++ vv.flatten) ++ (z2 ++ z3)).toArray T _ hA
  have hbB : Below w.heap.size w (wA.setRow w.heap.size (((vs.take k).flatten ++ vv.flatten) ++ (z2 ++ z3)).toArray) := below_setRow hbA (Nat.le_refl _) _
  have hzB : (wA.setRow w.heap.size (((vs.take k).flatten ++ vv.flatten) ++ (z2 ++ z3)).toArray).heap.size = w.heap.size + 1 := (sz_setRow _ _ _).trans hzA
  generalize wA.setRow w.heap.size (((vs.take k).flatten ++ vv.flatten) ++ (z2 ++ z3)).toArray = wB at hcpB hB hbB hzB
  have hlp : ((vs.take k).flatten ++ vv.flatten).length = (k + 1) * E.size := by rw [List.length_append, hol, hvv, Nat.add_mul, Nat.one_mul]
  have hcpC := run_copy_k (P := P) (w := wB.drew) t t ti T E.size ht (by rw [hi]; simp [hs]) (g := w.heap.size) (off := (k + 1) * E.size) (dLen := c - k) (dCap := cap - (k + 1)) (cur := (((vs.take k).flatten ++ vv.flatten) ++ (z2 ++ z3)).toArray) hB (a := ⟨g, k * E.size, none⟩) (sLen := c - k) (sCap := c - k) (cs := (vs.drop k).flatten) (by rw [hdl, show Nat.min (c - k) (c - k) = c - k from Nat.min_self _])
    (by intro j u hu; rw [add_none]; exact (hbB.cell (p := ⟨g, k * E.size + j, none⟩) hgl).trans (hcell k j u hu)) (by
      have : (k + 1) * E.size + (c - k) * E.size ≤ (k + 1) * E.size + ((c - k) * E.size + z3.length) := by omega
      simp only [List.size_toArray, List.length_append, hz2, hdl] at *
      omega) (Rel2.one (hr.drop k))
  rw [show Nat.min (c - k) (c - k) = c - k from Nat.min_self _] at hcpC
  have eC : overV (((vs.take k).flatten ++ vv.flatten) ++ (z2 ++ z3)) ((k + 1) * E.size) (vs.drop k).flatten = ((vs.take k).flatten ++ vv.flatten) ++ ((vs.drop k).flatten ++ z3) := by
    have := over_mid ((vs.take k).flatten ++ vv.flatten) z2 z3 (vs.drop k).flatten (by rw [hz2, hdl])
    rw [hlp] at this
    exact this
  rw [show ((((vs.take k).flatten ++ vv.flatten) ++ (z2 ++ z3)).toArray).toList = ((vs.take k).flatten ++ vv.flatten) ++ (z2 ++ z3) from by simp, eC] at hcpC
  refine ⟨cap, wA, wB, _, hge, hle, by rw [cutA_zero]; exact happ, by rw [cutA_pos (by omega), Nat.zero_add]; exact hcpB, by rw [cutA_pos (by omega), cutA_pos (by omega), Nat.zero_add, Nat.zero_add]; exact hcpC, ?_, below_setRow (hbB.drew) (Nat.le_refl _) _, by rw [sz_setRow]; exact hzB⟩
  have hsubC : Sub w.heap.size (hide w g) (hide (wB.drew.setRow w.heap.size (((vs.take k).flatten ++ vv.flatten) ++ ((vs.drop k).flatten ++ z3)).toArray) w.heap.size) :=
    (sub_hide _ w g).trans ((sub_below (below_setRow (hbB.drew) (Nat.le_refl _) _)).trans (sub_hide_lt _ (Nat.le_refl _)))
  have hup : w.heap.size ≤ (wB.drew.setRow w.heap.size (((vs.take k).flatten ++ vv.flatten) ++ ((vs.drop k).flatten ++ z3)).toArray).heap.size := by rw [sz_setRow]; show _ ≤ wB.heap.size; omega
  have hrl : Rel2 (E.rel (hide w g) w.heap.size) (vs.take k ++ (vv ++ vs.drop k)) (l.take k ++ x :: l.drop k) := Rel2.append (Rel2.append (hr.drop k) hrv) (hr.take k)
  have hcl : (c + 1) * E.size = (k + 1) * E.size + (c - k) * E.size := by rw [← Nat.add_mul]; congr 1; omega
  have hcap2 : cap * E.size = (c + 1) * E.size + (cap - (c + 1)) * E.size := by rw [← Nat.add_mul]; congr 1; omega
  refine OwnE.mk' (vs := vs.take k ++ (vv ++ vs.drop k)) (Nat.le_refl _) (setRow_heap wB.drew w.heap.size _ _ T _ hB) hge hle ?_ ?_ (hrl.imp fun _ _ hq => E.more hup (E.sub hsubC hq)) (by simp [hlen]; omega)
  · rw [List.length_append, hlp, List.length_append, hdl, hz3, hcap2, hcl]; omega
  · rw [← List.append_assoc, List.take_append_of_le_length (by rw [List.length_append, hlp, hdl, hcl]; exact Nat.le_refl _), List.take_of_length_le (by rw [List.length_append, hlp, hdl, hcl]; exact Nat.le_refl _)]
    simp [List.append_assoc]
end
end Go.Proofs.YtpklclnehlgcpaaGreat
end
