/-
  Parts of the proof of WalNils.
-/
import Derived.Test.YtiokcemlfdonnaaWalP20
import Derived.Test.YtiokcemlfdonnaaWalP0
import Derived.Test.YtiokcemlfdonnaaWalP5
import Derived.Test.YtiokcemlfdonnaaWalP19
import Derived.Test.YtiokcemlfdonnaaWalP11
import Derived.Test.YtiokcemlfdonnaaWalP10
import Derived.Test.YtiokcemlfdonnaaWalP13
section
namespace Go.Proofs.Ytiokcemlfdonnaa.CrcW
open Go.RowKit
attribute [local go_sem ↓] alT_fold ldT_fold stT_fold app_fold cut_fold

def st (u : Nat) (l : List UInt8) (k : Nat) : Nat := (l.take k).foldl CrcP.round (4294967295 - u)
theorem st_lt (u : Nat) (l : List UInt8) (k : Nat) : st u l k < 4294967296 := CrcP.fold_lt _ _ (by omega)
theorem st_succ (u : Nat) (l : List UInt8) (k : Nat) (h : k < l.length) : st u l (k + 1) = CrcP.round (st u l k) l[k] := by
  unfold st
  rw [List.take_succ_eq_append_getElem h, List.foldl_append]
  rfl
theorem st_all (u : Nat) (l : List UInt8) (k : Nat) (h : l.length ≤ k) : CrcP.more u l = 4294967295 - st u l k := by
  unfold st CrcP.more
  rw [List.take_of_length_le h]
theorem xor_ones (v : Nat) (h : v < 4294967296) : 4294967295 ^^^ v = 4294967295 - v := by
  have e := congrArg BitVec.toNat (BitVec.allOnes_xor (x := BitVec.ofNat 32 v))
  rw [BitVec.toNat_xor, BitVec.toNat_allOnes, BitVec.toNat_not, BitVec.toNat_ofNat, Nat.mod_eq_of_lt (by omega)] at e
  have h2 : (2 : Nat) ^ 32 = 4294967296 := by decide
  rw [h2] at e
  exact e
theorem not32 (v : Nat) (h : v < 4294967296) : bits .xor .u32 IntKind.u32.max (v : Int) = ((4294967295 - v : Nat) : Int) := by
  have e : IntKind.u32.max = ((4294967295 : Nat) : Int) := by decide
  rw [e, u32_xor_nat 4294967295 v (by omega) h, xor_ones v h]
theorem idx_lt (v : Nat) (c : UInt8) : v % 256 ^^^ c.toNat < 256 := by
  have hc := c.toNat_lt
  have : v % 256 ^^^ c.toNat < 2 ^ 8 := Nat.xor_lt_two_pow (by omega) (by omega)
  omega

set_option maxRecDepth 100000 in
set_option maxHeartbeats 1000000 in
theorem more_any (u : Nat) (hu : u < 4294967296) (A : Option Addr) (n c B : Nat) (l : List UInt8) (w : World) (h : Bytes w B A n c l) (hB : B ≤ w.heap.size) :
    Calls Try.prog 109 #[.int .u32 (u : Int), .slice A n c] w fun e w' => e = .returned (.int .u32 ((CrcP.more u l : Nat) : Int)) ∧ Below w.heap.size w w' := by
  have hn := Nat.le_trans h.2.1 h.2.2.1
  unfold maxLen at hn
  have hln := h.len
  have H := Lib.hid h
  have HLN := Lib.hid hln
  have hal := fun W => run_alT W
  clear h hln
  go_enter Try.func109, Try.ntmps109
  go_wp2_with fail
  refine (table_any _).mono ?_
  rintro e W1 ⟨rfl, hb1⟩
  have hst := run_stT (f := CrcP.step8) (Str.new W1 (rowU fun _ => 0) 159)
  obtain ⟨W2, hW2⟩ : ∃ W2, (W1.alloc (.cells (rowU fun _ => 0) 159)).setRow W1.heap.size (rowU CrcP.step8) = W2 := ⟨_, rfl⟩
  have hS : Str W2 W1.heap.size (rowU CrcP.step8) := by rw [← hW2]; exact (Str.new W1 _ _).setRow
  have hB2 : Below w.heap.size w W2 := by rw [← hW2]; exact below_setRow (balloc hb1 _) hb1.size _
  rw [hW2] at hst
  have HS := Lib.hid hS
  have HB := Lib.hid hB2
  have HY := Lib.hid (H.out.below (hB2.mono hB))
  have hnot : bits .xor .u32 IntKind.u32.max (u : Int) = ((st u l 0 : Nat) : Int) := not32 u hu
  clear hS hB2 hW2 hb1
  go_wp2_with fail
  clear hnot hst hal
  go_loop [6, 14] (fun s i => ∃ k : Nat, k ≤ n ∧ i = .int .i64 (k : Int) ∧ s = .int .u32 ((st u l k : Nat) : Int)) (fun _ i => n - (intOf i).toNat)
  case atStart => exact ⟨0, Nat.zero_le _, rfl, rfl⟩
  case round =>
    obtain ⟨k, hk, rfl, rfl⟩ := hrel
    by_cases hlt : k < n
    · have hkl : k < l.length := by rw [HLN.out]; exact hlt
      obtain ⟨b, o, rfl, hbB, hcell⟩ := HY.out.at_ hlt
      unfold byteV at hcell
      have HN := Lib.hid (st_succ u l k hkl)
      have hv := st_lt u l k
      generalize hc : l[k] = cb at *
      generalize hsv : st u l k = v at *
      have HSV := Lib.hid hsv
      clear hsv hc hkl
      have hcl := cb.toNat_lt
      have hj := idx_lt v cb
      have hx8 : bits .xor .u8 ((v : Int) % 256) (cb.toNat : Int) = ((v % 256 ^^^ cb.toNat : Nat) : Int) := by
        have := u8_xor_nat (v % 256) cb.toNat (by omega) (by omega)
        rwa [show ((v % 256 : Nat) : Int) = (v : Int) % 256 by omega] at this
      have hx32 : bits .xor .u32 ((v : Int) / 256) ((CrcP.step8 (v % 256 ^^^ cb.toNat) : Nat) : Int) = ((st u l (k + 1) : Nat) : Int) := by
        rw [HN.out, CrcP.round_table]
        have := u32_xor_nat (v / 256) (CrcP.step8 (v % 256 ^^^ cb.toNat)) (by omega) (CrcP.step8_lt _ (by omega))
        rwa [show ((v / 256 : Nat) : Int) = (v : Int) / 256 by omega] at this
      generalize hjj : v % 256 ^^^ cb.toNat = jx at *
      clear hjj
      have hct : W2.cell? ⟨W1.heap.size, jx, none⟩ = some (.int .u32 ((CrcP.step8 jx : Nat) : Int)) := by rw [HS.out.cell, rowU_get _ _ hj]
      have hj' : (jx : Int) < 256 := by omega
      go_wp2
      go_round
      case rel => exact ⟨k + 1, by omega, by go_num, rfl⟩
      case measure => simp [intOf]; omega
    · have HF := Lib.hid (st_all u l k (by rw [HLN.out]; omega))
      have hnot : bits .xor .u32 IntKind.u32.max ((st u l k : Nat) : Int) = ((CrcP.more u l : Nat) : Int) := by rw [not32 _ (st_lt u l k), HF.out]
      go_wp2
      go_ret
      exact ⟨rfl, HB.out⟩

set_option maxHeartbeats 400000 in
theorem sum_any (A : Option Addr) (n c B : Nat) (l : List UInt8) (w : World) (h : Bytes w B A n c l) (hB : B ≤ w.heap.size) :
    Calls Try.prog 77 #[.slice A n c] w fun e w' => e = .returned (.int .u32 ((CrcP.sum l : Nat) : Int)) ∧ Below w.heap.size w w' := by
  have H := Lib.hid h
  clear h
  go_enter Try.func77, Try.ntmps77
  go_wp2_with fail
  refine (more_any 0 (by omega) A n c B l _ H.out hB).mono ?_
  rintro e w1 ⟨rfl, hb⟩
  go_wp2_with fail
  go_ret
  exact ⟨rfl, hb⟩

end Go.Proofs.Ytiokcemlfdonnaa.CrcW
end
section
namespace Go.Proofs.Ytiokcemlfdonnaa.CrcW
open Go.RowKit
set_option linter.unusedVariables false
set_option linter.unusedSimpArgs false
attribute [local go_sem ↓] app_fold cut_fold
set_option maxRecDepth 100000 in
set_option maxHeartbeats 1000000 in
theorem seal_any (A : Option Addr) (n c B : Nat) (l : List UInt8) (w : World) (h : Bytes w B A n c l) (hB : B ≤ w.heap.size) (hn : n ≤ 1000000000) :
    Calls Try.prog 35 #[.slice A n c] w (GivesBytes w (BeP.parts 4 ((CrcP.sum l : Nat) : Int) ++ l)) := by
  have hs := CrcP.sum_lt l
  have H := Lib.hid h
  obtain ⟨W0, hW0⟩ : ∃ W, w.alloc (.cells (zerosV (n + 4)).toArray 5) = W := ⟨_, rfl⟩
  have e : ((n + 4 : Nat) : Int) = 4 + (n : Int) := by omega
  have hmk : (Instr.makeSlice 23 (.int .i64 0) (.int .i64 (4 + (n : Int)))).run Try.prog w = .ok (.slice (some ⟨w.heap.size, 0, none⟩) 0 (n + 4)) W0 := by
    have := Be.run_make_b 0 (n + 4) (by omega) (by omega) w
    rw [e, hW0] at this
    exact this
  have hO0 : Own W0 w.heap.size (some ⟨w.heap.size, 0, none⟩) 0 (n + 4) [] := by
    rw [← hW0]
    exact ⟨rfl, .inr ⟨_, _, _, rfl, Nat.le_refl _, heap_alloc_new w _, by omega, by unfold maxLen; omega, by simp [zerosV_length], by simp⟩⟩
  have hb0 : Below w.heap.size w W0 := by rw [← hW0]; exact balloc (bsame w) _
  have HO0 := Lib.hid hO0
  have HB0 := Lib.hid hb0
  have hw0 := hb0.size
  clear hW0 hO0 hb0 e h
  go_enter Try.func35, Try.ntmps35
  go_wp2_with fail
  refine (sum_any A n c B l W0 (H.out.below (HB0.out.mono hB)) (by omega)).mono ?_
  rintro e W1 ⟨rfl, hb1⟩
  have HO1 := Lib.hid (HO0.out.next hb1)
  have HB1 := Lib.hid (bstep HB0.out hb1)
  clear hb1 HO0 HB0 hmk
  have hwi : IntKind.i64.wrap ((CrcP.sum l : Nat) : Int) = ((CrcP.sum l : Nat) : Int) := IntWalk.i64_in _ (by omega)
  go_wp2_with fail
  refine (Be.put_wide none 0 0 0 [] 4 ((CrcP.sum l : Nat) : Int) W1 (Bytes.none_ _ _) (Nat.zero_le _) (by omega) (by omega) (by omega)).mono ?_
  rintro e W2 ⟨A2, n2, c2, rfl, hy2, hb2⟩
  rw [List.nil_append] at hy2
  have hn2 : n2 = 4 := by rw [← hy2.len, BeP.parts_length]
  subst hn2
  obtain ⟨A3, c3, W3, happ3, hO3, hb3⟩ := (HO1.out.next hb2).app hy2 (by omega) (by have := HB1.out.size; have := hb2.size; omega)
  rw [Nat.zero_add, List.nil_append] at *
  have HO3 := Lib.hid hO3
  have HB3 := Lib.hid ((bstep HB1.out hb2).trans hb3)
  obtain ⟨A4, c4, W4, happ4, hO4, hb4⟩ := HO3.out.app (H.out.below (HB3.out.mono hB)) (by omega) HB3.out.size
  have HO4 := Lib.hid hO4
  have HB4 := Lib.hid (HB3.out.trans hb4)
  clear hO3 hb3 hO4 hb4 hy2 hb2 HO1 HB1
  go_wp2
  go_ret
  exact ⟨A4, _, c4, rfl, HO4.out.bytes, HB4.out⟩
set_option maxRecDepth 100000 in
set_option maxHeartbeats 1000000 in
theorem good_any (A : Option Addr) (n c B : Nat) (l : List UInt8) (w : World) (h : Bytes w B A n c l) (hB : B ≤ w.heap.size) (hn : 4 ≤ n) :
    Calls Try.prog 48 #[.slice A n c] w fun e w' => e = .returned (.bool (NumP.val l 0 4 == ((CrcP.sum (l.drop 4) : Nat) : Int))) ∧ Below w.heap.size w w' := by
  have hs := CrcP.sum_lt (l.drop 4)
  have H := Lib.hid h
  have hlen := h.len
  have hcm := h.2.2.1
  have hnc := h.2.1
  unfold maxLen at hcm
  have ht := NumW.there_yes l 0 4 (by omega)
  have hcut := h.cut 4 n c hn (Nat.le_refl _) (by omega) (Nat.le_refl _)
  rw [List.take_of_length_le (by rw [List.length_drop]; omega)] at hcut
  have HC := Lib.hid hcut
  have h4c : (4 : Int) ≤ (c : Int) := by omega
  have h4n : (4 : Int) ≤ (n : Int) := by omega
  have hnc' : (n : Int) ≤ (c : Int) := by omega
  clear h hcut
  go_enter Try.func48, Try.ntmps48
  go_wp2_with fail
  refine (NumW.num_any A n c B 0 4 l w H.out (by omega) (by omega) (by omega)).mono ?_
  rintro e w' ⟨rfl, rfl⟩
  rw [ht]
  go_wp2_with fail
  refine (sum_any _ _ _ B (l.drop 4) w HC.out hB).mono ?_
  rintro e W1 ⟨rfl, hb1⟩
  have hwi : IntKind.i64.wrap ((CrcP.sum (l.drop 4) : Nat) : Int) = ((CrcP.sum (l.drop 4) : Nat) : Int) := IntWalk.i64_in _ (by omega)
  have HB1 := Lib.hid hb1
  clear hb1
  go_wp2
  go_ret
  exact ⟨rfl, HB1.out⟩
end Go.Proofs.Ytiokcemlfdonnaa.CrcW
end
section
namespace Go.Proofs.Ytiokcemlfdonnaa
open Go.RowKit
set_option linter.unusedVariables false
/-- an append in a region, of slices of any kind -/
theorem wp_appT {P : Program} {o : Oper} {a : Act} {w w' : World} {K : Act → World → Prop} {Q : Exit → Act → World → Prop} {A A2 A' : Option Addr} {n c m c2 n' c' : Nat} {t : TypeId} (s x : Operand)
    (ho : o.op = .call { callee := .builtin .append, args := #[s, x], argTypes := #[t, t] }) (hty : o.type = t) (hs : a.eval s = .slice A n c) (hx : a.eval x = .slice A2 m c2)
    (hr : (appSem #[t, t] t #[.slice A n c, .slice A2 m c2]).run P w = .ok (.slice A' n' c') w') (k : K (a.put o.dst (.slice A' n' c')) w') : Oper.wp P o a w K Q := by
  unfold appSem at hr
  unfold Oper.wp execOp
  simp only [ho, hty, resolve, invoke, builtin, Sem.run_bind, Sem.run_pure, Result.andThen_ok, List.map_toArray, List.map_cons, List.map_nil, hs, hx, hr]
  exact k
namespace Reg
theorem eval_ne {t : Tmp} {a : Act} {d : Option Tmp} {v : Value} (h : d ≠ some t) : (a.put d v).eval (.tmp t) = a.eval (.tmp t) := eval_of (put_other a d v t h)
theorem obl_freeL {R : Way} {P : Program} {ops : Array Oper} {Q : Exit → Act → World → Prop} {T : List (SP R)} {j : Nat} {o : Oper} {a : Act} {w : World} (hg : o.guard = none) (h : o.wp P a w (DoneB T j o a w) Q) : (Region.wanted o (yielded ops a.tmps) = true → o.wp P a w (DoneB T j o a w) Q) ∧ (Region.wanted o (yielded ops a.tmps) = false → predAt T j undef w) :=
  ⟨fun _ => h, fun hw => by simp [Region.wanted, hg] at hw⟩
theorem extB_next {N : Nat} {b0 : List Nat} {W : World} (hN : N = W.heap.size) : ∀ w w', (extB N b0).rel W w → Below w.heap.size w w' → (extB N b0).rel w w' := fun w w' h k => KeepB.of (k.mono (by rw [hN]; exact KeepB.size h))
/-- what so many of the line have brought about, and whether the one beside them has come up -/
abbrev LS := Nat → Bool → Act → World → Prop
/-- the line: who they are; the one beside them; what they bring about -/
structure Line where
  C : List Nat
  q : Nat
  S : LS
def LineJ (l : Line) : Word := fun listed a w => ∃ k, k ≤ l.C.length ∧ (∀ i c, l.C[i]? = some c → listed.getD c false = decide (i < k)) ∧ l.S k (listed.getD l.q false) a w
theorem line_zero {l : Line} {listed : Array Bool} {a : Act} {w : World} (h0 : l.S 0 false a w) (h : ∀ i, listed.getD i false = false) : LineJ l listed a w :=
  ⟨0, Nat.zero_le _, fun i c _ => by rw [h]; simp, by rw [h]; exact h0⟩
theorem line_end {l : Line} {listed : Array Bool} {a : Act} {w : World} {n : Nat} (hall : ∀ i, i < n → listed.getD i false = true) (hC : ∀ c ∈ l.C, c < n) (hJ : LineJ l listed a w) : ∃ b, (l.q < n → b = true) ∧ l.S l.C.length b a w := by
  obtain ⟨k, hk, hl, hS⟩ := hJ
  have e : k = l.C.length := by
    by_cases h : k < l.C.length
    · have h1 := hl k l.C[k] (List.getElem?_eq_getElem h)
      rw [hall _ (hC _ (List.getElem_mem h))] at h1
      simp at h1
    · omega
  subst e
  exact ⟨_, fun h => hall _ h, hS⟩
section
variable {R : Way} {l : Line} {P : Program} {ops : Array Oper} {Q : Exit → Act → World → Prop} {T : List (SP R)} {a0 : Act} {W : World} {j : Nat} {o : Oper} {s : List (Tmp × Option Nat)}
/-- an operation that is none of these -/
theorem oblL_ord (hj : j ∉ l.C ∧ j ≠ l.q) (hR : ∀ w w', R.rel W w → Below w.heap.size w w' → R.rel w w') (hst : ∀ k b a w v w', l.S k b a w → Below w.heap.size w w' → l.S k b (a.put o.dst v) w')
    (h : ∀ a w, R.rel W w → sights T a0 a w s → (Region.wanted o (yielded ops a.tmps) = true → o.wp P a w (DoneB T j o a w) Q) ∧ (Region.wanted o (yielded ops a.tmps) = false → predAt T j undef w)) : OblJ P ops Q T (LineJ l) a0 W j o s := by
  intro listed a w hx hs _ _ hun hwt hJ
  obtain ⟨h1, h2⟩ := h a w hx hs
  have key : ∀ v w', Below w.heap.size w w' → LineJ l (listed.setIfInBounds j true) (a.put o.dst v) w' := fun v w' hb => by
    obtain ⟨k, hk, hl, hS⟩ := hJ
    refine ⟨k, hk, fun i c hc => ?_, ?_⟩
    · rw [getD_set_ne false (fun e => hj.1 (by rw [e]; exact List.mem_of_getElem? hc))]
      exact hl i c hc
    · rw [getD_set_ne false hj.2]
      exact hst k _ a w v w' hS hb
  refine ⟨fun hw => Oper.wp_mono (fun a' w' ⟨v, e, hz, hp, hb⟩ => ?_) (h1 hw), fun hw => ⟨h2 hw, key _ _ (bsame w)⟩⟩
  subst e
  exact ⟨⟨v, rfl, hz, hp, hR w w' hx hb⟩, key v w' hb⟩
/-- one of the line -/
theorem oblL_line {k : Nat} (hg : o.guard = none) (hc : l.C[k]? = some j) (hnd : l.C.Nodup) (hq : j ≠ l.q) (hjl : j < ops.size) (hw : k = 0 ∨ ∃ c, l.C[k - 1]? = some c ∧ waits ops j c = true)
    (h : ∀ b a w, R.rel W w → sights T a0 a w s → a.tmps.size = a0.tmps.size → (waits ops j l.q = true → b = true) → l.S k b a w → o.wp P a w (fun a' w' => Done T j o a w a' w' ∧ l.S (k + 1) b a' w') Q) : OblJ P ops Q T (LineJ l) a0 W j o s := by
  intro listed a w hx hs hls has hun hwt hJ
  obtain ⟨k', hk', hl, hS⟩ := hJ
  have h1 := hl k j hc
  rw [getD_ft hun] at h1
  have hle : k' ≤ k := by
    have : ¬ k < k' := by simpa using h1.symm
    omega
  have he : k' = k := by
    rcases hw with rfl | ⟨c, h2, h3⟩
    · omega
    · have h4 := hl _ c h2
      rw [hwt c h3] at h4
      have : k - 1 < k' := by simpa using h4.symm
      omega
  subst he
  have hlt := (List.getElem?_eq_some_iff.1 hc).1
  refine free hg (Oper.wp_mono (fun a' w' ⟨h5, h6⟩ => ⟨h5, k' + 1, hlt, fun i c hi => ?_, ?_⟩) (h _ a w hx hs has (fun hw => hwt _ hw) hS))
  · by_cases e : i = k'
    · subst e
      rw [hc] at hi
      cases hi
      rw [getD_set_self (by omega)]
      simp
    · have hne : j ≠ c := fun e2 => e (by
        subst e2
        have g1 := (List.getElem?_eq_some_iff.1 hi).1
        have g3 := (List.getElem?_eq_some_iff.1 hi).2.trans (List.getElem?_eq_some_iff.1 hc).2.symm
        have g4 := List.pairwise_iff_getElem.1 hnd
        rcases Nat.lt_or_gt_of_ne e with e4 | e4
        · exact absurd g3 (g4 i k' g1 hlt e4)
        · exact absurd g3.symm (g4 k' i hlt g1 e4))
      rw [getD_set_ne false hne, hl i c hi]
      by_cases h7 : i < k'
      · simp [h7]; omega
      · simp [h7]; omega
  · rw [getD_set_ne false hq]
    exact h6
/-- the one beside them -/
theorem oblL_side (hg : o.guard = none) (hj : j = l.q) (hn : j ∉ l.C) (hjl : j < ops.size)
    (h : ∀ k a w, R.rel W w → sights T a0 a w s → a.tmps.size = a0.tmps.size → l.S k false a w → o.wp P a w (fun a' w' => Done T j o a w a' w' ∧ l.S k true a' w') Q) : OblJ P ops Q T (LineJ l) a0 W j o s := by
  intro listed a w hx hs hls has hun hwt hJ
  obtain ⟨k, hk, hl, hS⟩ := hJ
  have hf : listed.getD l.q false = false := by rw [← hj]; exact getD_ft hun
  rw [hf] at hS
  refine free hg (Oper.wp_mono (fun a' w' ⟨h5, h6⟩ => ⟨h5, k, hk, fun i c hi => ?_, ?_⟩) (h k a w hx hs has hS))
  · rw [getD_set_ne false (fun e => hn (by rw [e]; exact List.mem_of_getElem? hi))]
    exact hl i c hi
  · rw [← hj, getD_set_self (by omega)]
    exact h6
end
end Reg
end Go.Proofs.Ytiokcemlfdonnaa
end
section
namespace Go.Proofs.Ytiokcemlfdonnaa
open Go.RowKit
set_option linter.unusedVariables false
set_option linter.unusedSectionVars false
/-- a row of one element, just made -/
theorem ElemsIn.one {α : Type} {E : El α} {T : TypeId} {w : World} {A : Option Addr} {vs : List Value} {x : α} (hr : E.rel (hid A w) w.heap.size vs x) :
    ElemsIn E (hid A (w.alloc (.cells vs.toArray T))) (w.alloc (.cells vs.toArray T)) (w.alloc (.cells vs.toArray T)).heap.size (some ⟨w.heap.size, 0, none⟩) 1 1 [x] := by
  have hb : Below w.heap.size w (w.alloc (.cells vs.toArray T)) := balloc (bsame w) _
  have hs := Str.new w vs.toArray T
  refine ⟨[vs], ⟨E.more hb.size (E.sub (hid_below A hb) hr), trivial⟩, rfl, Nat.le_refl _, by unfold maxLen; omega, fun _ => ⟨_, 0, rfl, hs.lt, fun j v hv => ?_⟩⟩
  rw [show [vs].flatten = vs by simp] at hv
  rw [Nat.zero_add, hs.cell j]
  simpa using hv
namespace Reg
/-- the parts: the box and its field, the slice in it, what comes behind; the slots of the slice, the row of one, the new slice -/
structure Push {α : Type} (E : El α) where
  N : Nat
  base : Nat
  d : Nat
  f : Nat
  box : Array Value
  A : Option Addr
  n : Nat
  c : Nat
  l : List α
  x : α
  T : TypeId
  t0 : Tmp
  t1 : Tmp
  t2 : Tmp
section
variable {α : Type} {E : El α} {I : Push E} {a : Act} {w w' : World} {b : Bool} {dst : Option Tmp} {v : Value} {P : Program}
def Push.Side (I : Push E) (b : Bool) (a : Act) (w : World) : Prop := b = true → ∃ g, a.eval (.tmp I.t1) = .slice (some ⟨g, 0, none⟩) 1 1 ∧ ElemsIn E (hid I.A w) w w.heap.size (some ⟨g, 0, none⟩) 1 1 [I.x]
def Push.Row (I : Push E) (w : World) (A' : Option Addr) (c' : Nat) : Prop := OwnE E I.T w I.base A' (I.n + 1) c' (I.l ++ [I.x])
def Push.S (I : Push E) : LS := fun k b a w => match k with
  | 0 => Str w I.d I.box ∧ OwnE E I.T w I.base I.A I.n I.c I.l ∧ I.Side b a w
  | 1 => a.eval (.tmp I.t0) = .slice I.A I.n I.c ∧ Str w I.d I.box ∧ OwnE E I.T w I.base I.A I.n I.c I.l ∧ I.Side b a w
  | 2 => b = true ∧ ∃ A' c', a.eval (.tmp I.t2) = .slice A' (I.n + 1) c' ∧ Str w I.d I.box ∧ I.Row w A' c'
  | _ => b = true ∧ ∃ A' c', Str w I.d (I.box.setIfInBounds I.f (.slice A' (I.n + 1) c')) ∧ I.Row w A' c'
theorem Push.Side.put (hd : dst ≠ some I.t1) (h : I.Side b a w) (hb : Below w.heap.size w w') : I.Side b (a.put dst v) w' := fun e => by
  obtain ⟨g, h1, h2⟩ := h e
  exact ⟨g, by rw [eval_ne hd]; exact h1, (h2.keep (hid_below I.A hb) (sub_below hb)).more hb.size⟩
theorem Push.S_put (hd : dst ≠ some I.t0 ∧ dst ≠ some I.t1 ∧ dst ≠ some I.t2) (k : Nat) (h : I.S k b a w) (hb : Below w.heap.size w w') : I.S k b (a.put dst v) w' := by
  match k, h with
  | 0, h => exact ⟨h.1.next hb, h.2.1.next hb, h.2.2.put hd.2.1 hb⟩
  | 1, h => exact ⟨by rw [eval_ne hd.1]; exact h.1, h.2.1.next hb, h.2.2.1.next hb, h.2.2.2.put hd.2.1 hb⟩
  | 2, h =>
    obtain ⟨e, A', c', h1, h2, h3⟩ := h
    exact ⟨e, A', c', by rw [eval_ne hd.2.2]; exact h1, h2.next hb, OwnE.next h3 hb⟩
  | _ + 3, h =>
    obtain ⟨e, A', c', h2, h3⟩ := h
    exact ⟨e, A', c', h2.next hb, OwnE.next h3 hb⟩
/-- the slice is read -/
theorem Push.S_zero (h : I.S 0 b a w) (ha : I.t0 < a.tmps.size) (hd : I.t0 ≠ I.t1) : I.S 1 b (a.put (some I.t0) (.slice I.A I.n I.c)) w :=
  ⟨eval_put_same ha, h.1, h.2.1, h.2.2.put (fun e => hd (Option.some.inj e)) (bsame w)⟩
/-- the row of one is made -/
theorem Push.S_side (k : Nat) (h : I.S k false a w) (ha : I.t1 < a.tmps.size) (hd : I.t1 ≠ I.t0) (vs : List Value) (TE : TypeId) (hr : E.rel (hid I.A w) w.heap.size vs I.x) :
    I.S k true (a.put (some I.t1) (.slice (some ⟨w.heap.size, 0, none⟩) 1 1)) (w.alloc (.cells vs.toArray TE)) := by
  have hb : Below w.heap.size w (w.alloc (.cells vs.toArray TE)) := balloc (bsame w) _
  have hside : I.Side true (a.put (some I.t1) (.slice (some ⟨w.heap.size, 0, none⟩) 1 1)) (w.alloc (.cells vs.toArray TE)) := fun _ => ⟨_, eval_put_same ha, ElemsIn.one hr⟩
  match k, h with
  | 0, h => exact ⟨h.1.next hb, h.2.1.next hb, hside⟩
  | 1, h => exact ⟨by rw [eval_ne (fun e => hd (Option.some.inj e))]; exact h.1, h.2.1.next hb, h.2.2.1.next hb, hside⟩
  | 2, h => exact absurd h.1 (by decide)
  | _ + 3, h => exact absurd h.1 (by decide)
/-- the append -/
theorem Push.S_one (t ty : TypeId) (i : TypeInfo) (z : Value) (bytes : Nat) (ht : P.underlying t = some (.slice I.T)) (hi : P.info? I.T = some i) (hz : i.zero = some z) (hs : i.size = E.size) (hby : i.bytes = bytes) (hzs : z.cells.size = E.size)
    (h : I.S 1 true a w) (ha : I.t2 < a.tmps.size) (hN : I.N ≤ w.heap.size) (hbN : I.base ≤ I.N) (hdb : I.d < I.base) (hn : I.n + 1 ≤ maxLen) (hbytes : (I.n + 1) * bytes ≤ 140737488355328) :
    ∃ A2 A' c' w', a.eval (.tmp I.t0) = .slice I.A I.n I.c ∧ a.eval (.tmp I.t1) = .slice A2 1 1 ∧ (appSem #[t, t] ty #[.slice I.A I.n I.c, .slice A2 1 1]).run P w = .ok (.slice A' (I.n + 1) c') w' ∧ I.S 2 true (a.put (some I.t2) (.slice A' (I.n + 1) c')) w' ∧ KeepB I.N (I.d :: (I.A.map (·.block)).toList) w w' := by
  obtain ⟨h1, h2, h3, h4⟩ := h
  obtain ⟨g, hg1, hg2⟩ := h4 rfl
  obtain ⟨A', c', w', k1, k2, k3, k4, k5⟩ := h3.app (P := P) t ty i z bytes ht hi hz hs hby hzs hg2 hn hbytes (Nat.le_trans hbN hN)
  have hge := h3.ge
  refine ⟨_, A', c', w', h1, hg1, k1, ⟨rfl, A', c', eval_put_same ha, h2.grownO k4 (fun e => ?_), k2⟩, ⟨k4.os, k4.tape, k4.output, k4.size, fun j hj hn => k4.block j (by omega) (fun e => hn ?_)⟩⟩
  · cases hA : I.A with
    | none => rw [hA] at e; cases e
    | some ad =>
      rw [hA] at e
      have h5 := hge ad hA
      have h6 : ad.block = I.d := by simpa [Value.ownBlock] using e
      omega
  · cases hA : I.A with
    | none => rw [hA] at e; cases e
    | some ad =>
      rw [hA] at e
      have h6 : ad.block = j := by simpa [Value.ownBlock] using e.symm
      simp [h6]
/-- the store -/
theorem Push.S_two (hE : E.Byt) (h : I.S 2 true a w) (hdb : I.d < I.base) (hu : notU8 I.box = true) :
    ∃ A' c', a.eval (.tmp I.t2) = .slice A' (I.n + 1) c' ∧ Str w I.d I.box ∧ I.S 3 true a (w.setCell ⟨I.d, I.f, none⟩ (.slice A' (I.n + 1) c')) := by
  obtain ⟨-, A', c', h1, h2, h3⟩ := h
  refine ⟨A', c', h1, h2, rfl, A', c', h2.set I.f _, OwnE.grownU hE h3 h2 hu (grown_set (grown_refl w _) I.f _) (fun ad e => ?_)⟩
  have := OwnE.ge h3 ad e
  omega
end
end Reg
end Go.Proofs.Ytiokcemlfdonnaa
end
