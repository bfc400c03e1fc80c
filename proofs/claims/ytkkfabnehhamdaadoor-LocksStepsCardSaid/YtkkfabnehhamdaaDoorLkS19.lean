/-
  Parts of the proof of LocksSteps.
-/
import Derived.Test.YtkkfabnehhamdaaDoorLkS18
import Derived.Laws.IdiomRangeMap
import Derived.Test.YtkkfabnehhamdaaDoorLkS0
import Derived.Deep.RegionHeld3
import Derived.Deep.RegionWith
import Derived.Test.YtkkfabnehhamdaaDoorLkS3
import Derived.Test.YtkkfabnehhamdaaDoorLkS1
import Derived.Test.YtkkfabnehhamdaaDoorLkS17
section
namespace Go.Proofs.YtkkfabnehhamdaaDoor
open Go.RowKit Go.Maps LockP ModesP
set_option linter.unusedVariables false
set_option linter.unusedSimpArgs false
/-- does somebody hold it by this mode? -/
def heldP (X : St) (k : ByteArray) (m : Int) : Bool := (X.own k).any fun p => isM m && hasM p.2 m
theorem heldP_sim {X : St} {x : RT} (h : Ok X) (hs : Sim X x) (k : ByteArray) (m : Int) : heldP X k m = heldR x k m := by
  unfold heldP
  cases hm : isM m with
  | true =>
    obtain ⟨h0, h1⟩ := isM_iff.1 hm
    simp only [Bool.true_and]
    exact held_sim h hs k m h0 h1
  | false =>
    simp only [Bool.false_and]
    have e1 : ((X.own k).any fun _ => false) = false := by simp
    rw [e1]
    symm
    unfold heldR
    rw [List.any_eq_false]
    intro e he hc
    simp only [Bool.and_eq_true, decide_eq_true_eq] at hc
    have h2 := hs.hm e he
    rw [hc.2] at h2
    have := isM_iff.2 h2
    rw [hm] at this
    cases this
namespace LockW
set_option maxHeartbeats 400000 in
theorem hasB_any (s m : Int) (w : World) (h0 : 0 ≤ s) (h1 : s < 16) : Calls Tryd.prog 12 #[.int .i64 s, .int .i64 m] w fun e w' => e = .returned (.bool (isM m && hasM s m)) ∧ w = w' := by
  cases hm : isM m with
  | true =>
    obtain ⟨h2, h3⟩ := isM_iff.1 hm
    exact Modes.has_any s m w h0 h1 h2 h3
  | false =>
    have HM := Lib.hid hm
    go_enter Tryd.func12, Tryd.ntmps12
    go_wp2_with (go_at_call 36; refine (Modes.is_any _ _).mono ?_; rintro e w' ⟨rfl, rfl⟩)
    go_ret
    exact ⟨rfl, rfl⟩
set_option maxRecDepth 100000 in
set_option maxHeartbeats 2000000 in
theorem held_any (t N : Nat) (bs : List Nat) (X : St) (k : ByteArray) (m : Int) (w : World) (h : Lk w t bs N X) (hok : Ok0 X) (hV : ∀ p ∈ X.own k, 0 < p.2 ∧ p.2 < 16) (hk : k.size ≤ 100) :
    Calls Tryd.prog 24 #[.pointer (some ⟨t, 0, none⟩), .string k, .int .i64 m] w fun e w' => e = .returned (.bool (heldP X k m)) ∧ Below w.heap.size w w' := by
  obtain ⟨lab, b1, b2, b3, b4, es1, es2, es3, h⟩ := h
  have f1 := str4 h.box
  have hl := h.box.lt
  have e1 := h.look1 hk
  have HI := Lib.hid h
  have HV := Lib.hid hV
  have HND := Lib.hid (hok.nd k)
  clear h hV hok
  cases hg : MapP.get es1 k with
  | none =>
    have hn1 := HI.out.n1 k hg
    rw [hg] at e1
    change (Instr.lookup _ _ _ _).run _ _ = .ok (.map none) _ at e1
    have r1 := run_range_nilMap (P := Tryd.prog) w 74 _ _ Tryd.underlying74
    have r2 := fun ty => run_next_nilMap (P := Tryd.prog) w ty 0 0 #[]
    have HR : Hid (heldP X k m = false) := Lib.hid (by unfold heldP; rw [hn1]; rfl)
    clear hg hn1
    go_enter Tryd.func24, Tryd.ntmps24
    go_wp2_with fail
    go_loopw [8] (fun _ wr => wr = w.alloc (.mapIter none 0 #[] 0)) (fun _ _ => 0)
    case atStart => rfl
    case round =>
      subst hrel
      go_wp2_with fail
      go_ret
      exact ⟨by rw [HR.out]; rfl, balloc (bsame w) _⟩
  | some o =>
    obtain ⟨b, eo, -, -, hM⟩ := HI.out.e1 k o hg
    subst eo
    rw [hg, Option.getD_some] at e1
    have HM := Lib.hid hM
    clear hM hg
    go_enter Tryd.func24, Tryd.ntmps24
    go_wp2_with (first
      | (at_range; refine wpList_range_own _ rfl _ 74 rfl TI TI lawI Tryd.underlying74 (MapP.rdE numM) b N (MapP.dat intK (X.own k)) rfl HM.out.own ?_; intro w0 hrg0 hg0 hs0)
      | go_in)
    go_frame
    have HRG := Lib.hid hrg0
    have HB0 : Hid (Below w.heap.size w w0) := Lib.hid ⟨hg0.os, hg0.tape, hg0.output, hg0.size, fun k hk => hg0.block k hk (by simp)⟩
    clear hrg0 hg0 hs0 f1
    go_loopw [8] (fun _ wr => ∃ (left : Lit → Bool) (cnt : Nat), Hid (wr.ranges Tryd.prog TI (MapP.rdE numM) b w.heap.size N (MapP.dat intK (X.own k)) left cnt ∧ (∀ p ∈ X.own k, left (intK.lit p.1) = false → (isM m && hasM p.2 m) = false) ∧ Below w.heap.size w wr)) (fun _ wr => wr.rangeLeft b w.heap.size)
    case atStart =>
      refine ⟨_, _, Lib.hid ⟨HRG.out, fun p hp h => ?_, HB0.out⟩⟩
      rw [MapP.has_dat, MapP.has_false] at h
      exact absurd rfl (h p hp)
    case round =>
      obtain ⟨left, cnt, HK⟩ := hrel
      have hwr := HK.out.2.2.size
      go_wp2_with (first
        | (at_next; refine wpList_next_ranges _ rfl _ rfl TI lawI (MapP.rdE numM) (fun x : Int => Value.int .i64 x) (fun x : Int => Value.int .i64 x) (fun key kl hk => keyI_inv hk) (fun v y hv => numM_inv hv) b w.heap.size N _ _ _ rfl HK.out.1 ?_ ?_)
        | go_in)
      · intro _ hl0
        have HR : Hid (heldP X k m = false) := Lib.hid (by
          unfold heldP
          rw [List.any_eq_false]
          intro p hp
          rw [HK.out.2.1 p hp (hl0 _)]
          decide)
        clear hl0
        go_wp2
        go_ret
        exact ⟨by rw [HR.out]; rfl, HK.out.2.2⟩
      · intro x c kl yd yp w1 cnt1 hkey hlk hv hat hrg1 hcl hg1 hs1 hen
        obtain ⟨x', ex, rfl, -⟩ := Maps.keyOf_int_inv Tryd.underlying3 hkey
        cases ex
        have hgx := met hv hat
        have hmem := MapP.get_mem hgx
        have hval := HV.out (x, c) hmem
        have HRG1 := Lib.hid hrg1
        have hb1 := below_grown HK.out.2.2 hg1 (Nat.le_refl _)
        have HB1 := Lib.hid hb1
        have HCL := Lib.hid hcl
        have HX := Lib.hid hmem
        have HLS : Hid ((isM m && hasM c m) = false → ∀ p ∈ X.own k, (left (intK.lit p.1) && !(intK.lit p.1).sameKey (intK.lit x)) = false → (isM m && hasM p.2 m) = false) := Lib.hid (fun h p hp hl => by
          rcases left_step hl with hl | e
          · exact HK.out.2.1 p hp hl
          · have : p = (x, c) := by
              have h1 := MapP.get_of HND.out (k := p.1) (v := p.2) hp
              rw [e, hgx] at h1
              cases p
              simp at e h1
              rw [e, h1]
            rw [this]
            exact h)
        clear hkey hlk hv hat hrg1 hcl hg1 hs1 hmem hgx hb1
        go_wp2_with fail
        refine (hasB_any c m w1 (Int.le_of_lt hval.1) hval.2).mono ?_
        rintro e wy ⟨rfl, rfl⟩
        cases hf : (isM m && hasM c m) with
        | false =>
          have HS := Lib.hid (HLS.out hf)
          clear HLS hf
          go_wp2_with fail
          go_roundw
          case rel => exact ⟨_, cnt1, Lib.hid ⟨HRG1.out, HS.out, HB1.out⟩⟩
          case measure => rw [HRG1.out.left_eq, HK.out.1.left_eq]; exact HCL.out
        | true =>
          have HR : Hid (heldP X k m = true) := Lib.hid (by
            unfold heldP
            rw [List.any_eq_true]
            exact ⟨(x, c), HX.out, hf⟩)
          clear HLS hf
          go_wp2
          go_ret
          exact ⟨by rw [HR.out]; rfl, HB1.out⟩
end LockW
namespace Law13
open LockW
theorem held_ls {w0 w : World} {t M : Nat} {X : St} (h : LS w0 t M X w) (k : ByteArray) (m : Int) (hk : k.size ≤ 100) : Calls Tryd.prog 24 #[.pointer (some ⟨t, 0, none⟩), .string k, .int .i64 m] w fun e w' => e = .returned (.bool (heldP X k m)) ∧ Below w.heap.size w w' := by
  obtain ⟨N, bs, h1, h2, h3⟩ := h.lk
  exact held_any t N bs X k m w h1 h.good.1.toOk0 (h.good.1.toOk0.vals k) hk
end Law13
end Go.Proofs.YtkkfabnehhamdaaDoor
end
section
namespace Go.Proofs.YtkkfabnehhamdaaDoor.RefModes
open Go.RowKit

set_option maxHeartbeats 400000 in
theorem compat_any (a b : Int) (w : World) :
    Calls Tryd.prog 56 #[.int .i64 a, .int .i64 b] w fun e w' => e = .returned (.bool (ModesP.compat a b)) ∧ w = w' := by
  go_enter Tryd.func56, Tryd.ntmps56
  go_wp2
  all_goals go_ret
  all_goals refine ⟨congrArg (fun b => Ending.returned (.bool b)) ?_, rfl⟩
  all_goals simp_all [ModesP.compat]

end Go.Proofs.YtkkfabnehhamdaaDoor.RefModes
end
section
namespace Go.Proofs.YtkkfabnehhamdaaDoor.RefL
open Go.RowKit ModesP
set_option linter.unusedVariables false
set_option linter.unusedSimpArgs false
theorem bit_has {s m : Nat} (hs : s < 16) (hm : m < 4) : decide (s / 2 ^ m % 2 = 1) = hasM (s : Int) (m : Int) := by
  have h : ∀ a : Fin 16, ∀ b : Fin 4, decide (a.val / 2 ^ b.val % 2 = 1) = hasM (a.val : Int) (b.val : Int) := by decide +kernel
  exact h ⟨s, hs⟩ ⟨m, hm⟩
theorem with_bit {s m : Nat} (hs : s < 16) (hm : m < 4) : withM (s : Int) (m : Int) = if hasM (s : Int) (m : Int) = true then (s : Int) else (s : Int) + [1, 2, 4, 8].getD m 0 := by
  have h : ∀ a : Fin 16, ∀ b : Fin 4, withM (a.val : Int) (b.val : Int) = if hasM (a.val : Int) (b.val : Int) = true then (a.val : Int) else (a.val : Int) + [1, 2, 4, 8].getD b.val 0 := by decide +kernel
  exact h ⟨s, hs⟩ ⟨m, hm⟩
theorem wrap_nat {s : Nat} (hs : s < 16) : IntKind.u64.wrap (s : Int) = (s : Int) := by
  have h : IntKind.u64.wrap (s : Int) = (s : Int) % 18446744073709551616 := by rfl
  rw [h, Int.emod_eq_of_lt (by omega) (by omega)]
theorem odd_eq (u : Nat) : ((u : Int) % 2 == 1) = decide (u % 2 = 1) := by
  rw [Bool.eq_iff_iff]
  simp
  omega
set_option maxRecDepth 100000 in
set_option maxHeartbeats 1000000 in
theorem bit_any (s m : Nat) (w : World) (hs : s < 16) (hm : m < 4) : Calls Tryd.prog 55 #[.int .i64 (s : Int), .int .i64 (m : Int)] w fun e w' => e = .returned (.bool (hasM (s : Int) (m : Int))) ∧ w = w' := by
  have hw := wrap_nat hs
  go_enter Tryd.func55, Tryd.ntmps55
  go_wp2
  go_loopw [5, 6] (fun uv iv wr => ∃ i : Nat, i ≤ m ∧ uv = .int .u64 ((s / 2 ^ i : Nat) : Int) ∧ iv = .int .i64 (i : Int) ∧ wr = w) (fun _ iv _ => m - (intOf iv).toNat)
  case atStart => exact ⟨0, Nat.zero_le _, by simp [hw], rfl, rfl⟩
  case round =>
    obtain ⟨i, hi, rfl, rfl, hwr⟩ := hrel
    subst hwr
    have hdv : s / 2 ^ (i + 1) = s / 2 ^ i / 2 := by rw [Nat.pow_succ, Nat.div_div_eq_div_mul]
    have hle : s / 2 ^ i ≤ s := Nat.div_le_self _ _
    by_cases hlt : i < m
    · have hd : decide ((i : Int) < (m : Int)) = true := by simpa using hlt
      generalize hu : s / 2 ^ i = u at *
      go_wp2
      go_roundw
      case rel => exact ⟨i + 1, by omega, by rw [hdv, show ((u : Int) / 2) = ((u / 2 : Nat) : Int) by omega], by go_num, by first | rfl | trivial⟩
      case measure => simp [intOf]; omega
    · have hd : decide ((i : Int) < (m : Int)) = false := by simp; omega
      obtain rfl : i = m := by omega
      have hb := bit_has hs hm
      generalize hu : s / 2 ^ i = u at *
      go_wp2
      go_ret
      refine ⟨?_, rfl⟩
      show Ending.returned (Value.bool ((u : Int) % 2 == 1)) = _
      rw [← hb, odd_eq]
set_option maxRecDepth 100000 in
set_option maxHeartbeats 1000000 in
theorem has_any (s m : Nat) (w : World) (hs : s < 16) (hm : m < 4) : Calls Tryd.prog 40 #[.int .i64 (s : Int), .int .i64 (m : Int)] w fun e w' => e = .returned (.bool (hasM (s : Int) (m : Int))) ∧ w = w' := by
  have hd1 : decide ((0 : Int) ≤ (m : Int)) = true := by simp
  have hd2 : decide ((m : Int) ≤ 3) = true := by simp; omega
  have hb := bit_any s m w hs hm
  go_enter Tryd.func40, Tryd.ntmps40
  go_wp2_with fail
  refine hb.mono ?_
  rintro e w' ⟨rfl, rfl⟩
  go_wp2_with fail
  go_ret
  exact ⟨rfl, rfl⟩
set_option maxRecDepth 100000 in
set_option maxHeartbeats 1000000 in
theorem with_any (s m : Nat) (w : World) (hs : s < 16) (hm : m < 4) : Calls Tryd.prog 43 #[.int .i64 (s : Int), .int .i64 (m : Int)] w fun e w' => e = .returned (.int .i64 (withM (s : Int) (m : Int))) ∧ Below w.heap.size w w' := by
  have hd1 : decide ((m : Int) < 0) = false := by simp
  have hd2 : decide ((3 : Int) < (m : Int)) = false := by simp; omega
  have hb := bit_any s m w hs hm
  have hwb := with_bit hs hm
  go_enter Tryd.func43, Tryd.ntmps43
  go_wp2_with fail
  refine hb.mono ?_
  rintro e w' ⟨rfl, rfl⟩
  cases hh : hasM (s : Int) (m : Int) with
  | true =>
    rw [hh, if_pos rfl] at hwb
    clear hh hb
    go_wp2_with fail
    go_ret
    exact ⟨by rw [hwb]; rfl, bsame w⟩
  | false =>
    rw [hh, if_neg (by decide)] at hwb
    clear hh hb
    have hb4 : Below w.heap.size w (w.alloc (.cells #[.int .i64 1, .int .i64 2, .int .i64 4, .int .i64 8] 3)) := balloc (bsame w) _
    have hm4 : m = 0 ∨ m = 1 ∨ m = 2 ∨ m = 3 := by omega
    rcases hm4 with rfl | rfl | rfl | rfl
    all_goals
      go_wp2_with fail
      go_ret
      refine ⟨?_, hb4⟩
      rw [hwb]
      first | rfl | (congr 2; first | go_num | (simp [wrap64]; omega))
end Go.Proofs.YtkkfabnehhamdaaDoor.RefL
end
section
namespace Go.Proofs.YtkkfabnehhamdaaDoor
open Go.RowKit ModesP LockP
set_option linter.unusedVariables false
set_option linter.unusedSimpArgs false
/-- one that holds, or waits -/
def h3V (x : H3) : List Value := [.int .i64 x.txn, .string x.key, .int .i64 x.mode]
def H3E : El H3 where
  size := 3
  pos := by decide
  rel w B vs x := vs = h3V x
  len := by rintro w B vs p rfl; rfl
  one := by rintro w B vs p rfl v hv; simp only [h3V, List.mem_cons, List.not_mem_nil, or_false] at hv; rcases hv with rfl | rfl | rfl <;> rfl
  sub := by rintro w w' B vs p hs h; exact h
  more := by rintro w B B' vs p hB h; exact h
theorem h3E_pure : H3E.Pure := fun _ _ _ _ _ _ h => h
theorem h3_at {wr w : World} {B n c k : Nat} {A : Option Addr} {l : List H3} (h : ElemsIn H3E wr w B A n c l) (hk : k < n) : ∃ b o x, A = some ⟨b, o, none⟩ ∧ b < B ∧ l[k]? = some x ∧ w.cell? ⟨b, o + k * 3, none⟩ = some (.int .i64 x.txn) ∧ w.cell? ⟨b, o + k * 3 + 1, none⟩ = some (.string x.key) ∧ w.cell? ⟨b, o + k * 3 + 2, none⟩ = some (.int .i64 x.mode) := by
  have hl : k < l.length := by rw [h.len]; exact hk
  obtain ⟨b, o, vs, e, hb, rfl, hc⟩ := h.at_ hk
  exact ⟨b, o, _, e, hb, List.getElem?_eq_getElem hl, hc 0 _ rfl, hc 1 _ rfl, hc 2 _ rfl⟩
namespace RefL
theorem take_next {α : Type} {l : List α} {k : Nat} {x : α} (h : l[k]? = some x) : l.take (k + 1) = l.take k ++ [x] := by rw [List.take_add_one, h, Option.toList_some]
theorem setR_next {h : List H3} {i : Nat} {e : H3} (hi : h[i]? = some e) (u : Int) (k : ByteArray) : setR (h.take (i + 1)) u k = if at3 u k e then withM (setR (h.take i) u k) e.mode else setR (h.take i) u k := by
  rw [take_next hi, setR_snoc]
theorem modes_take {h : List H3} (hm : Modes3 h) (i : Nat) : Modes3 (h.take i) := fun e he => hm e (List.mem_of_mem_take he)
theorem str_ne {a b : ByteArray} (h : a ≠ b) : (a.toList == b.toList) = false := by
  rw [beq_eq_false_iff_ne]
  intro e
  rw [ByteArray.toList_eq, ByteArray.toList_eq] at e
  apply h
  obtain ⟨x⟩ := a
  obtain ⟨y⟩ := b
  congr 1
  exact Array.toList_inj.1 e
def placeI (w : List H3) (u : Int) : Int := match placeR w u with
  | some i => (i : Int)
  | none => -1
/-- With, at a set and a mode -/
theorem withI_any (s m : Int) (w : World) (h0 : 0 ≤ s) (h1 : s < 16) (h2 : 0 ≤ m) (h3 : m < 4) : Calls Tryd.prog 43 #[.int .i64 s, .int .i64 m] w fun e w' => e = .returned (.int .i64 (withM s m)) ∧ Below w.heap.size w w' := by
  have h := with_any s.toNat m.toNat w (by omega) (by omega)
  rw [Int.toNat_of_nonneg h0, Int.toNat_of_nonneg h2] at h
  exact h
variable {A A2 : Option Addr} {n c n2 c2 : Nat} {x : RT}
set_option maxRecDepth 100000 in
set_option maxHeartbeats 2000000 in
theorem set_any (u : Int) (k : ByteArray) (w : World) (hH : Elems H3E w w.heap.size A n c x.h) (hm : Modes3 x.h) (hn : n ≤ 1000000) : Calls Tryd.prog 23 #[.agg #[.slice A n c, .slice A2 n2 c2], .int .i64 u, .string k] w fun e w' => e = .returned (.int .i64 (setR x.h u k)) ∧ Below w.heap.size w w' := by
  obtain ⟨W1, hW1⟩ : ∃ W, w.alloc (.cells #[.slice A n c, .slice A2 n2 c2] 43) = W := ⟨_, rfl⟩
  have hb1 : Below w.heap.size w W1 := by rw [← hW1]; exact balloc (bsame _) _
  have hs1 : Str W1 w.heap.size #[.slice A n c, .slice A2 n2 c2] := by rw [← hW1]; exact Str.new _ _ _
  have HB1 := Lib.hid hb1
  have HS1 := Lib.hid hs1
  have HH := Lib.hid hH
  have hln := hH.len
  have HM := Lib.hid hm
  have g1 := str2 hs1
  have gl1 := hs1.lt
  clear hH hb1 hs1 hm
  go_enter Tryd.func23, Tryd.ntmps23
  go_wp2_with fail
  clear hW1 g1 gl1
  go_loopw [7, 8] (fun sv iv wr => ∃ i : Nat, i ≤ n ∧ sv = .int .i64 (setR (x.h.take i) u k) ∧ iv = .int .i64 (i : Int) ∧ Hid (Below W1.heap.size W1 wr)) (fun _ iv _ => n - (intOf iv).toNat)
  case atStart => exact ⟨0, Nat.zero_le _, rfl, rfl, Lib.hid (bsame W1)⟩
  case round =>
    obtain ⟨i, hi, rfl, rfl, HB⟩ := hrel
    have g1 := str2 (HS1.out.next HB.out)
    have gl1 := (HS1.out.next HB.out).lt
    by_cases hlt : i < n
    · have hd : decide ((i : Int) < (n : Int)) = true := by simpa using hlt
      have k1 : ¬ (i : Int) < 0 := by omega
      obtain ⟨b, o, e, rfl, hb, hx, q0, q1, q2⟩ := h3_at HH.out hlt
      have hbb := bstep HB1.out HB.out
      replace q0 := (hbb.cell (p := ⟨b, o + i * 3, none⟩) hb).trans q0
      replace q1 := (hbb.cell (p := ⟨b, o + i * 3 + 1, none⟩) hb).trans q1
      replace q2 := (hbb.cell (p := ⟨b, o + i * 3 + 2, none⟩) hb).trans q2
      have hnx := setR_next hx u k
      obtain ⟨m0, m1⟩ := HM.out e (List.mem_of_getElem? hx)
      obtain ⟨s0, s1⟩ := setR_bd (modes_take HM.out i) u k
      generalize hsv : setR (x.h.take i) u k = sv at *
      clear hx hbb
      by_cases hu : e.txn = u
      · have hd1 : (e.txn == u) = true := by simpa using hu
        by_cases hk : e.key = k
        · rw [if_pos (at3_iff.2 ⟨hu, hk⟩)] at hnx
          subst hk
          go_wp2_with fail
          refine (withI_any sv e.mode wr s0 s1 m0 m1).mono ?_
          rintro e9 w9 ⟨rfl, hb9⟩
          have HB9 := Lib.hid (bstep HB.out hb9)
          clear hb9
          go_wp2_with fail
          go_roundw
          case rel => exact ⟨i + 1, by omega, by rw [hnx], by go_num, HB9⟩
          case measure => simp [intOf]; omega
        · rw [if_neg (fun h => hk (at3_iff.1 h).2)] at hnx
          have hd2 := str_ne hk
          go_wp2_with fail
          go_roundw
          case rel => exact ⟨i + 1, by omega, by rw [hnx], by go_num, HB⟩
          case measure => simp [intOf]; omega
      · have hd1 : (e.txn == u) = false := by simpa using hu
        rw [if_neg (fun h => hu (at3_iff.1 h).1)] at hnx
        go_wp2_with fail
        go_roundw
        case rel => exact ⟨i + 1, by omega, by rw [hnx], by go_num, HB⟩
        case measure => simp [intOf]; omega
    · have hd : decide ((i : Int) < (n : Int)) = false := by simp; omega
      obtain rfl : i = n := by omega
      rw [List.take_of_length_le (by omega)]
      go_wp2_with fail
      go_ret
      exact ⟨rfl, bstep HB1.out HB.out⟩
set_option maxRecDepth 100000 in
set_option maxHeartbeats 2000000 in
theorem place_any (u : Int) (w : World) (hW : Elems H3E w w.heap.size A2 n2 c2 x.w) (hn : n2 ≤ 1000000) : Calls Tryd.prog 27 #[.agg #[.slice A n c, .slice A2 n2 c2], .int .i64 u] w fun e w' => e = .returned (.int .i64 (placeI x.w u)) ∧ Below w.heap.size w w' := by
  obtain ⟨W1, hW1⟩ : ∃ W, w.alloc (.cells #[.slice A n c, .slice A2 n2 c2] 43) = W := ⟨_, rfl⟩
  have hb1 : Below w.heap.size w W1 := by rw [← hW1]; exact balloc (bsame _) _
  have hs1 : Str W1 w.heap.size #[.slice A n c, .slice A2 n2 c2] := by rw [← hW1]; exact Str.new _ _ _
  have HB1 := Lib.hid hb1
  have HS1 := Lib.hid hs1
  have HH := Lib.hid hW
  have hln := hW.len
  have g1 := str2 hs1
  have gl1 := hs1.lt
  clear hW hb1 hs1
  go_enter Tryd.func27, Tryd.ntmps27
  go_wp2_with fail
  clear hW1
  go_loopw [5] (fun iv wr => ∃ i : Nat, i ≤ n2 ∧ iv = .int .i64 (i : Int) ∧ wr = W1 ∧ Hid (∀ j e, j < i → x.w[j]? = some e → e.txn ≠ u)) (fun iv _ => n2 - (intOf iv).toNat)
  case atStart => exact ⟨0, Nat.zero_le _, rfl, rfl, Lib.hid (fun j e h => absurd h (by omega))⟩
  case round =>
    obtain ⟨i, hi, rfl, hwr, HN⟩ := hrel
    subst hwr
    by_cases hlt : i < n2
    · have hd : decide ((i : Int) < (n2 : Int)) = true := by simpa using hlt
      have k1 : ¬ (i : Int) < 0 := by omega
      obtain ⟨b, o, e, rfl, hb, hx, q0, q1, q2⟩ := h3_at HH.out hlt
      replace q0 := (HB1.out.cell (p := ⟨b, o + i * 3, none⟩) hb).trans q0
      have HX := Lib.hid hx
      clear hx q1 q2
      by_cases hu : e.txn = u
      · have hd1 : (e.txn == u) = true := by simpa using hu
        have HP : Hid (placeR x.w u = some i) := Lib.hid (by
          unfold placeR
          rw [List.findIdx?_eq_some_iff_getElem]
          have hil := (List.getElem?_eq_some_iff.1 HX.out).1
          have hge := (List.getElem?_eq_some_iff.1 HX.out).2
          exact ⟨hil, by rw [hge]; simpa using hu, fun j hj => by simpa using HN.out j _ hj (List.getElem?_eq_getElem (by omega))⟩)
        clear hu
        go_wp2_with fail
        go_ret
        exact ⟨by unfold placeI; rw [HP.out]; rfl, HB1.out⟩
      · have hd1 : (e.txn == u) = false := by simpa using hu
        have HN2 : Hid (∀ j e, j < i + 1 → x.w[j]? = some e → e.txn ≠ u) := Lib.hid (fun j y hj hy => by
          by_cases ej : j = i
          · subst ej; rw [HX.out] at hy; cases hy; exact hu
          · exact HN.out j y (by omega) hy)
        clear hu
        go_wp2_with fail
        go_roundw
        case rel => exact ⟨i + 1, by omega, by go_num, (by first | rfl | trivial), HN2⟩
        case measure => simp [intOf]; omega
    · have hd : decide ((i : Int) < (n2 : Int)) = false := by simp; omega
      have HP : Hid (placeR x.w u = none) := Lib.hid (place_none.2 fun e he => by
        obtain ⟨j, hj, rfl⟩ := List.getElem_of_mem he
        exact HN.out j _ (by omega) (List.getElem?_eq_getElem hj))
      go_wp2_with fail
      go_ret
      exact ⟨by unfold placeI; rw [HP.out]; rfl, HB1.out⟩
set_option maxRecDepth 100000 in
set_option maxHeartbeats 2000000 in
theorem held_any (k : ByteArray) (m : Int) (w : World) (hH : Elems H3E w w.heap.size A n c x.h) (hn : n ≤ 1000000) : Calls Tryd.prog 25 #[.agg #[.slice A n c, .slice A2 n2 c2], .string k, .int .i64 m] w fun e w' => e = .returned (.bool (heldR x k m)) ∧ Below w.heap.size w w' := by
  obtain ⟨W1, hW1⟩ : ∃ W, w.alloc (.cells #[.slice A n c, .slice A2 n2 c2] 43) = W := ⟨_, rfl⟩
  have hb1 : Below w.heap.size w W1 := by rw [← hW1]; exact balloc (bsame _) _
  have hs1 : Str W1 w.heap.size #[.slice A n c, .slice A2 n2 c2] := by rw [← hW1]; exact Str.new _ _ _
  have HB1 := Lib.hid hb1
  have HS1 := Lib.hid hs1
  have HH := Lib.hid hH
  have hln := hH.len
  have g1 := str2 hs1
  have gl1 := hs1.lt
  clear hH hb1 hs1
  go_enter Tryd.func25, Tryd.ntmps25
  go_wp2_with fail
  clear hW1
  go_loopw [7] (fun iv wr => ∃ i : Nat, i ≤ n ∧ iv = .int .i64 (i : Int) ∧ wr = W1 ∧ Hid (∀ j e, j < i → x.h[j]? = some e → ¬ (e.key = k ∧ e.mode = m))) (fun iv _ => n - (intOf iv).toNat)
  case atStart => exact ⟨0, Nat.zero_le _, rfl, rfl, Lib.hid (fun j e h => absurd h (by omega))⟩
  case round =>
    obtain ⟨i, hi, rfl, hwr, HN⟩ := hrel
    subst hwr
    by_cases hlt : i < n
    · have hd : decide ((i : Int) < (n : Int)) = true := by simpa using hlt
      have k1 : ¬ (i : Int) < 0 := by omega
      obtain ⟨b, o, e, rfl, hb, hx, q0, q1, q2⟩ := h3_at HH.out hlt
      replace q1 := (HB1.out.cell (p := ⟨b, o + i * 3 + 1, none⟩) hb).trans q1
      replace q2 := (HB1.out.cell (p := ⟨b, o + i * 3 + 2, none⟩) hb).trans q2
      have HX := Lib.hid hx
      have HN2 : ¬ (e.key = k ∧ e.mode = m) → Hid (∀ j e, j < i + 1 → x.h[j]? = some e → ¬ (e.key = k ∧ e.mode = m)) := fun hu => Lib.hid (fun j y hj hy => by
        by_cases ej : j = i
        · subst ej; rw [HX.out] at hy; cases hy; exact hu
        · exact HN.out j y (by omega) hy)
      clear hx q0
      by_cases hk : e.key = k
      · subst hk
        by_cases hm : e.mode = m
        · have hd1 : (e.mode == m) = true := by simpa using hm
          have HP : Hid (heldR x e.key m = true) := Lib.hid (by
            unfold heldR
            exact List.any_eq_true.2 ⟨e, List.mem_of_getElem? HX.out, by simp [on3, hm]⟩)
          clear HN2 hm
          go_wp2_with fail
          go_ret
          rw [HP.out]
          exact ⟨rfl, HB1.out⟩
        · have hd1 : (e.mode == m) = false := by simpa using hm
          have HN3 := HN2 (fun h => hm h.2)
          clear HN2 hm
          go_wp2_with fail
          go_roundw
          case rel => exact ⟨i + 1, by omega, by go_num, (by first | rfl | trivial), HN3⟩
          case measure => simp [intOf]; omega
      · have hd2 := str_ne hk
        have HN3 := HN2 (fun h => hk h.1)
        clear HN2
        go_wp2_with fail
        go_roundw
        case rel => exact ⟨i + 1, by omega, by go_num, (by first | rfl | trivial), HN3⟩
        case measure => simp [intOf]; omega
    · have hd : decide ((i : Int) < (n : Int)) = false := by simp; omega
      have HP : Hid (heldR x k m = false) := Lib.hid (by
        unfold heldR
        rw [List.any_eq_false]
        intro e he
        obtain ⟨j, hj, rfl⟩ := List.getElem_of_mem he
        have := HN.out j _ (by omega) (List.getElem?_eq_getElem hj)
        simp only [on3, Bool.and_eq_true, decide_eq_true_eq]
        exact this)
      go_wp2_with fail
      go_ret
      rw [HP.out]
      exact ⟨rfl, HB1.out⟩
end RefL
end Go.Proofs.YtkkfabnehhamdaaDoor
end
section
namespace Go.Proofs.YtkkfabnehhamdaaDoor.RefL
open Go.RowKit ModesP LockP
set_option linter.unusedVariables false
set_option linter.unusedSimpArgs false
attribute [local go_sem ↓] app_fold cut_fold
theorem sort_len (l : List Int) : (SortI.sort l).length ≤ l.length := by
  unfold SortI.sort
  have := Lib.compact_length_le (l.mergeSort fun x y => decide (x ≤ y))
  rwa [List.length_mergeSort] at this
theorem ownE_empty {α : Type} (E : El α) (w : World) (T : TypeId) (base : Nat) (hb : base ≤ w.heap.size) : OwnE E T (w.alloc (.cells #[] T)) base (some ⟨w.heap.size, 0, none⟩) 0 0 [] :=
  OwnE.mk' (cur := []) (vs := []) hb (heap_alloc_new w _) (Nat.le_refl _) (by unfold maxLen; omega) (by simp) (by simp) trivial rfl
theorem int_at {wr w : World} {B n c k : Nat} {A : Option Addr} {l : List Int} (h : ElemsIn IntE wr w B A n c l) (hk : k < n) : ∃ b o x, A = some ⟨b, o, none⟩ ∧ b < B ∧ l[k]? = some x ∧ w.cell? ⟨b, o + k, none⟩ = some (.int .i64 x) := by
  have hl : k < l.length := by rw [h.len]; exact hk
  obtain ⟨b, o, vs, e, hb, rfl, hc⟩ := h.at_ hk
  refine ⟨b, o, _, e, hb, List.getElem?_eq_getElem hl, ?_⟩
  have := hc 0 _ rfl
  rwa [show o + k * IntE.size + 0 = o + k from by show o + k * 1 + 0 = _; omega] at this
/-- the three appends of add -/
theorem add_three (A : Option Addr) (n c j : Nat) (l : List Int) (v : Int) (w : World) (h : Elems IntE w w.heap.size A n c l) (hj : j ≤ n) (hn : n ≤ 1000000) :
    ∃ A3 c3 w3 A4 c4 w4 A5 c5 w5, (appSem #[32, 32] 32 #[.slice (some ⟨w.heap.size, 0, none⟩) 0 0, .slice (cutA A 0 c 1) j c]).run Tryd.prog (w.alloc (.cells #[] 3)) = .ok (.slice A3 j c3) w3
      ∧ (appSem #[32, 32] 32 #[.slice A3 j c3, .slice (some ⟨w3.heap.size, 0, none⟩) 1 1]).run Tryd.prog (w3.alloc (.cells #[.int .i64 v] 3)) = .ok (.slice A4 (j + 1) c4) w4
      ∧ (appSem #[32, 32] 32 #[.slice A4 (j + 1) c4, .slice (cutA A j c 1) (n - j) (c - j)]).run Tryd.prog w4 = .ok (.slice A5 (n + 1) c5) w5
      ∧ Elems IntE w5 w5.heap.size A5 (n + 1) c5 (l.take j ++ v :: l.drop j) ∧ Below w.heap.size w w5 := by
  obtain ⟨i0, hi0, z0, z1, z2⟩ := info_parts infoI
  have hnc := h.cap.1
  have hcm := h.cap.2
  have hlen := h.len
  have hb0 : Below w.heap.size w (w.alloc (.cells #[] 3)) := balloc (bsame w) _
  have s0 := hb0.size
  obtain ⟨A3, c3, w3, happ3, hO3, hb3, -, -⟩ := (ownE_empty IntE w 3 w.heap.size (Nat.le_refl _)).app (P := Tryd.prog) 32 32 i0 _ 8 Tryd.underlying32 hi0 z0 z1 z2 rfl (IntE.src ((Elems.cut h 0 j c (by omega) (by omega) (by omega) (Nat.le_refl _)).next hb0)) (by unfold maxLen; omega) (by omega) (by omega)
  simp only [Nat.sub_zero, Nat.zero_add, List.nil_append, List.drop_zero] at happ3 hO3
  have hB3 : Below w.heap.size w w3 := hb0.trans hb3
  have s3 := hB3.size
  have hb4 : Below w3.heap.size w3 (w3.alloc (.cells #[.int .i64 v] 3)) := balloc (bsame w3) _
  have s4 := hb4.size
  obtain ⟨A4, c4, w4, happ4, hO4, hb5, -, -⟩ := (hO3.next hb4).app (P := Tryd.prog) 32 32 i0 _ 8 Tryd.underlying32 hi0 z0 z1 z2 rfl (IntE.src (IntE.lit (wr := w3.alloc (.cells #[.int .i64 v] 3)) (x := v) (Str.new w3 _ _))) (by unfold maxLen; omega) (by omega) (by omega)
  have hB5 : Below w.heap.size w w4 := (hB3.trans (hb4.mono s3)).trans hb5
  have s5 := hB5.size
  obtain ⟨A5, c5, w5, happ5, hO5, hb6, -, -⟩ := hO4.app (P := Tryd.prog) 32 32 i0 _ 8 Tryd.underlying32 hi0 z0 z1 z2 rfl (IntE.src (((Elems.cut h j n c hj (Nat.le_refl _) hnc (Nat.le_refl _)).below hB5).more s5)) (by unfold maxLen; omega) (by omega) (by omega)
  have e1 : j + 1 + (n - j) = n + 1 := by omega
  rw [e1] at happ5 hO5
  have e2 : (List.take j l ++ [v]) ++ List.take (n - j) (List.drop j l) = l.take j ++ v :: l.drop j := by
    rw [List.take_of_length_le (l := List.drop j l) (by rw [List.length_drop, hlen]; omega)]
    simp
  rw [e2] at hO5
  exact ⟨A3, c3, w3, A4, c4, w4, A5, c5, w5, happ3, happ4, happ5, hO5.elems, hB5.trans hb6⟩
theorem add_same {l0 : List Int} {v : Int} (h : v ∈ SortI.sort l0) : SortI.sort (l0 ++ [v]) = SortI.sort l0 := SortI.sort_congr fun y => by
  rw [List.mem_append, List.mem_singleton]
  constructor
  · rintro (h1 | rfl)
    · exact h1
    · exact (SortI.sort_spec l0).2 _ |>.1 h
  · exact .inl
theorem add_new {l0 : List Int} {v : Int} {j : Nat} (h1 : ∀ i y, i < j → (SortI.sort l0)[i]? = some y → y < v) (h2 : ∀ y, (SortI.sort l0)[j]? = some y → v < y) : SortI.sort (l0 ++ [v]) = (SortI.sort l0).take j ++ v :: (SortI.sort l0).drop j := by
  obtain ⟨hp, hm⟩ := SortI.sort_spec l0
  generalize SortI.sort l0 = l at *
  refine SortI.ext (SortI.sort_spec _).1 ?_ fun y => ?_
  · rw [List.pairwise_append]
    have ht : ∀ y ∈ l.take j, y < v := fun y hy => by
      obtain ⟨i, hi, rfl⟩ := List.getElem_of_mem hy
      rw [List.length_take] at hi
      rw [List.getElem_take]
      exact h1 i _ (by omega) (List.getElem?_eq_getElem (by omega))
    have hd : ∀ y ∈ l.drop j, v < y := fun y hy => by
      cases hdr : l.drop j with
      | nil => rw [hdr] at hy; cases hy
      | cons z r =>
        have hz : l[j]? = some z := by
          have := List.getElem?_drop (xs := l) (i := j) (j := 0)
          rw [hdr] at this
          simpa using this.symm
        have hvz := h2 z hz
        have hpd : (z :: r).Pairwise (· < ·) := by rw [← hdr]; exact hp.sublist (List.drop_sublist _ _)
        rw [hdr] at hy
        rcases List.mem_cons.1 hy with rfl | hy
        · exact hvz
        · have := (List.pairwise_cons.1 hpd).1 y hy
          exact Int.lt_trans hvz this
    refine ⟨hp.sublist (List.take_sublist _ _), List.pairwise_cons.2 ⟨hd, hp.sublist (List.drop_sublist _ _)⟩, fun a ha b hb => ?_⟩
    rcases List.mem_cons.1 hb with rfl | hb
    · exact ht a ha
    · exact Int.lt_trans (ht a ha) (hd b hb)
  · rw [(SortI.sort_spec _).2]
    simp only [List.mem_append, List.mem_cons, List.not_mem_nil, or_false]
    rw [← hm]
    have := List.take_append_drop j l
    constructor
    · rintro (h | h)
      · rw [← this, List.mem_append] at h
        rcases h with h | h
        · exact .inl h
        · exact .inr (.inr h)
      · exact .inr (.inl h)
    · rintro (h | h | h)
      · exact .inl (List.mem_of_mem_take h)
      · exact .inr h
      · exact .inl (List.mem_of_mem_drop h)
/-- the call hands back numbers -/
def GivesN (w : World) (l : List Int) (e : Ending) (w' : World) : Prop := ∃ A n c, e = .returned (.slice A n c) ∧ Elems IntE w' w'.heap.size A n c l ∧ Below w.heap.size w w'
set_option maxRecDepth 100000 in
set_option maxHeartbeats 4000000 in
theorem add_any (A : Option Addr) (n c : Nat) (l0 : List Int) (v : Int) (w : World) (h : Elems IntE w w.heap.size A n c (SortI.sort l0)) (hn : n ≤ 1000000) : Calls Tryd.prog 42 #[.slice A n c, .int .i64 v] w (GivesN w (SortI.sort (l0 ++ [v]))) := by
  have HH := Lib.hid h
  have hln := h.len
  have hnc := h.cap.1
  have hcm := h.cap.2
  unfold maxLen at hcm
  clear h
  go_enter Tryd.func42, Tryd.ntmps42
  go_wp2_with fail
  go_loopw [5] (fun iv wr => ∃ i : Nat, i ≤ n ∧ iv = .int .i64 (i : Int) ∧ wr = w ∧ Hid (∀ j y, j < i → (SortI.sort l0)[j]? = some y → y < v)) (fun iv _ => n - (intOf iv).toNat)
  case atStart => exact ⟨0, Nat.zero_le _, rfl, rfl, Lib.hid (fun j e h => absurd h (by omega))⟩
  case round =>
    obtain ⟨i, hi, rfl, hwr, HN⟩ := hrel
    subst hwr
    by_cases hlt : i < n
    · have hd : decide ((i : Int) < (n : Int)) = true := by simpa using hlt
      have k1 : ¬ (i : Int) < 0 := by omega
      obtain ⟨b, o, y, rfl, hb, hx, q0⟩ := int_at HH.out hlt
      have HX := Lib.hid hx
      clear hx
      by_cases hyv : y < v
      · have hd1 : decide (y < v) = true := by simpa using hyv
        have HN2 : Hid (∀ j z, j < i + 1 → (SortI.sort l0)[j]? = some z → z < v) := Lib.hid (fun j z hj hz => by
          by_cases ej : j = i
          · subst ej; rw [HX.out] at hz; cases hz; exact hyv
          · exact HN.out j z (by omega) hz)
        clear hyv
        go_wp2_with fail
        go_roundw
        case rel => exact ⟨i + 1, by omega, by go_num, (by first | rfl | trivial), HN2⟩
        case measure => simp [intOf]; omega
      · have hd1 : decide (y < v) = false := by simpa using hyv
        by_cases hye : y = v
        · have hd2 : (y == v) = true := by simpa using hye
          have HS := Lib.hid (add_same (l0 := l0) (v := v) (by rw [← hye]; exact List.mem_of_getElem? HX.out))
          clear hye hyv
          go_wp2_with fail
          go_ret
          rw [HS.out]
          exact ⟨_, n, c, rfl, HH.out, bsame _⟩
        · have hd2 : (y == v) = false := by simpa using hye
          have HS := Lib.hid (add_new (l0 := l0) (v := v) (j := i) HN.out (fun z hz => by rw [HX.out] at hz; cases hz; omega))
          obtain ⟨A3, c3, w3, A4, c4, w4, A5, c5, w5, happ3, happ4, happ5, hE5, hb5⟩ := add_three _ n c i _ v wr HH.out hi hn
          have HE5 := Lib.hid hE5
          have HB5 := Lib.hid hb5
          clear hye hyv hE5 hb5
          have k2 : (i : Int) ≤ (n : Int) := by omega
          have k3 : (i : Int) ≤ (c : Int) := by omega
          go_wp2_with fail
          go_ret
          rw [HS.out]
          exact ⟨A5, n + 1, c5, rfl, HE5.out, HB5.out⟩
    · have hd : decide ((i : Int) < (n : Int)) = false := by simp; omega
      obtain rfl : i = n := by omega
      have HS := Lib.hid (add_new (l0 := l0) (v := v) (j := i) HN.out (fun z hz => by
        have := (List.getElem?_eq_some_iff.1 hz).1; omega))
      obtain ⟨A3, c3, w3, A4, c4, w4, A5, c5, w5, happ3, happ4, happ5, hE5, hb5⟩ := add_three A i c i _ v wr HH.out (Nat.le_refl _) hn
      have HE5 := Lib.hid hE5
      have HB5 := Lib.hid hb5
      clear hE5 hb5
      have k3 : (i : Int) ≤ (c : Int) := by omega
      have k4 : ¬ (i : Int) < 0 := by omega
      rw [Nat.sub_self] at happ5
      go_wp2_with fail
      go_ret
      rw [HS.out]
      exact ⟨A5, i + 1, c5, rfl, HE5.out, HB5.out⟩
set_option maxRecDepth 100000 in
set_option maxHeartbeats 4000000 in
theorem waiting_any (A A2 : Option Addr) (n c n2 c2 : Nat) (x : RT) (w : World) (hW : Elems H3E w w.heap.size A2 n2 c2 x.w) (hn : n2 ≤ 1000000) : Calls Tryd.prog 22 #[.agg #[.slice A n c, .slice A2 n2 c2]] w (GivesN w (waitingR x)) := by
  obtain ⟨W1, hW1⟩ : ∃ W, w.alloc (.cells #[.slice A n c, .slice A2 n2 c2] 43) = W := ⟨_, rfl⟩
  have hb1 : Below w.heap.size w W1 := by rw [← hW1]; exact balloc (bsame _) _
  have hs1 : Str W1 w.heap.size #[.slice A n c, .slice A2 n2 c2] := by rw [← hW1]; exact Str.new _ _ _
  have HB1 := Lib.hid hb1
  have HS1 := Lib.hid hs1
  have HH := Lib.hid hW
  have hln := hW.len
  have g1 := str2 hs1
  have gl1 := hs1.lt
  have HSN : Hid (SortI.sort [] = []) := Lib.hid SortI.sort_nil
  clear hW hb1 hs1
  go_enter Tryd.func22, Tryd.ntmps22
  go_wp2_with fail
  clear hW1 g1 gl1
  go_loopw [3, 4] (fun sv iv wr => ∃ (i m c9 : Nat) (A9 : Option Addr), i ≤ n2 ∧ m ≤ i ∧ sv = .slice A9 m c9 ∧ iv = .int .i64 (i : Int) ∧ Hid (Below W1.heap.size W1 wr ∧ Elems IntE wr wr.heap.size A9 m c9 (SortI.sort ((x.w.take i).map (·.txn))))) (fun _ iv _ => n2 - (intOf iv).toNat)
  case atStart => exact ⟨0, 0, 0, none, Nat.zero_le _, Nat.le_refl _, rfl, rfl, Lib.hid ⟨bsame W1, by rw [List.take_zero, List.map_nil, HSN.out]; exact Elems.none_ _ _ _⟩⟩
  case round =>
    obtain ⟨i, m, c9, A9, hi, hmi, rfl, rfl, HK⟩ := hrel
    have g1 := str2 (HS1.out.next HK.out.1)
    have gl1 := (HS1.out.next HK.out.1).lt
    by_cases hlt : i < n2
    · have hd : decide ((i : Int) < (n2 : Int)) = true := by simpa using hlt
      have k1 : ¬ (i : Int) < 0 := by omega
      obtain ⟨b, o, e, rfl, hb, hx, q0, q1, q2⟩ := h3_at HH.out hlt
      have hbb := bstep HB1.out HK.out.1
      replace q0 := (hbb.cell (p := ⟨b, o + i * 3, none⟩) hb).trans q0
      have htk := take_next hx
      clear hx q1 q2 hbb
      go_wp2_with fail
      refine (add_any A9 m c9 _ e.txn wr HK.out.2 (by omega)).mono ?_
      rintro e9 w9 ⟨A8, n8, c8, rfl, hE8, hb8⟩
      have hl8 := sort_len ((x.w.take i).map (·.txn) ++ [e.txn])
      have hl9 := hE8.len
      have HK8 : Hid (Below W1.heap.size W1 w9 ∧ Elems IntE w9 w9.heap.size A8 n8 c8 (SortI.sort ((x.w.take (i + 1)).map (·.txn)))) := Lib.hid ⟨bstep HK.out.1 hb8, by rw [htk, List.map_append]; exact hE8⟩
      have h8i : n8 ≤ i + 1 := by
        rw [hl9, List.length_append, List.length_map, List.length_take] at hl8
        simp at hl8
        omega
      clear hE8 hb8 htk
      go_wp2_with fail
      go_roundw
      case rel => exact ⟨i + 1, n8, c8, A8, by omega, h8i, rfl, by go_num, HK8⟩
      case measure => simp [intOf]; omega
    · have hd : decide ((i : Int) < (n2 : Int)) = false := by simp; omega
      obtain rfl : i = n2 := by omega
      have hE := HK.out.2
      rw [List.take_of_length_le (by omega)] at hE
      have HE := Lib.hid hE
      clear hE
      go_wp2_with fail
      go_ret
      exact ⟨A9, m, c9, rfl, HE.out, bstep HB1.out HK.out.1⟩
theorem infoH3 : (Tryd.prog.info? 28).map (fun i => (i.zero, i.size, i.bytes)) = some (some (.agg #[.int .i64 0, .string ByteArray.empty, .int .i64 0]), 3, 32) := by kernel_rfl
/-- one typed out, as a source -/
theorem H3E.lit {w wr : World} {b : Nat} {x : H3} (hs : Str w b #[.int .i64 x.txn, .string x.key, .int .i64 x.mode]) : ElemsIn H3E wr w w.heap.size (some ⟨b, 0, none⟩) 1 1 [x] := by
  refine ⟨[h3V x], ⟨rfl, trivial⟩, rfl, Nat.le_refl _, by unfold maxLen; omega, fun _ => ⟨b, 0, rfl, hs.lt, fun j v hv => ?_⟩⟩
  rw [show [h3V x].flatten = h3V x by simp] at hv
  rw [Nat.zero_add, hs.cell j]
  simpa [h3V] using hv
/-- as it was, or made since -/
def FrO (w : World) (A0 : Option Addr) (n0 : Nat) (A : Option Addr) (n : Nat) : Prop := (A = A0 ∧ n = n0) ∨ ∀ p, A = some p → w.heap.size ≤ p.block
theorem FrO.refl (w : World) (A : Option Addr) (n : Nat) : FrO w A n A n := .inl ⟨rfl, rfl⟩
theorem FrO.trans {w w2 : World} {A0 A A2 : Option Addr} {n0 n n2 : Nat} (h : FrO w A0 n0 A n) (hw : w.heap.size ≤ w2.heap.size) (h2 : FrO w2 A n A2 n2) : FrO w A0 n0 A2 n2 := by
  rcases h2 with ⟨rfl, rfl⟩ | h2
  · exact h
  · exact .inr fun p e => Nat.le_trans hw (h2 p e)
/-- the call hands back a list -/
def GivesH (w : World) (l : List H3) (e : Ending) (w' : World) : Prop := ∃ A n c, e = .returned (.slice A n c) ∧ Elems H3E w' w'.heap.size A n c l ∧ (∀ p, A = some p → w.heap.size ≤ p.block) ∧ Below w.heap.size w w'
set_option maxRecDepth 100000 in
set_option maxHeartbeats 4000000 in
theorem without_any (A : Option Addr) (n c : Nat) (l : List H3) (u : Int) (w : World) (h : Elems H3E w w.heap.size A n c l) (hn : n ≤ 1000000) : Calls Tryd.prog 37 #[.slice A n c, .int .i64 u] w (GivesH w (without l u)) := by
  obtain ⟨i0, hi0, iz0, iz1, iz2⟩ := info_parts infoH3
  have HI0 := Lib.hid hi0
  have HZ0 := Lib.hid (And.intro iz0 (And.intro iz1 iz2))
  have HH := Lib.hid h
  have hln := h.len
  clear h hi0 iz0 iz1 iz2
  go_enter Tryd.func37, Tryd.ntmps37
  go_wp2_with fail
  go_loopw [5, 6] (fun sv iv wr => ∃ (i m c9 : Nat) (A9 : Option Addr), i ≤ n ∧ m ≤ i ∧ sv = .slice A9 m c9 ∧ iv = .int .i64 (i : Int) ∧ Hid (Below w.heap.size w wr ∧ OwnE H3E 28 wr w.heap.size A9 m c9 (without (l.take i) u))) (fun _ iv _ => n - (intOf iv).toNat)
  case atStart => exact ⟨0, 0, 0, none, Nat.zero_le _, Nat.le_refl _, rfl, rfl, Lib.hid ⟨bsame w, by rw [List.take_zero]; exact OwnE.none_ _ _ _ _⟩⟩
  case round =>
    obtain ⟨i, m, c9, A9, hi, hmi, rfl, rfl, HK⟩ := hrel
    by_cases hlt : i < n
    · have hd : decide ((i : Int) < (n : Int)) = true := by simpa using hlt
      have k1 : ¬ (i : Int) < 0 := by omega
      obtain ⟨b, o, e, rfl, hb, hx, q0, q1, q2⟩ := h3_at HH.out hlt
      have hbb := HK.out.1
      replace q0 := (hbb.cell (p := ⟨b, o + i * 3, none⟩) hb).trans q0
      replace q1 := (hbb.cell (p := ⟨b, o + i * 3 + 1, none⟩) hb).trans q1
      replace q2 := (hbb.cell (p := ⟨b, o + i * 3 + 2, none⟩) hb).trans q2
      have htk := take_next hx
      by_cases hu : e.txn = u
      · have hd1 : (e.txn != u) = false := by simpa using hu
        have HN : Hid (without (l.take (i + 1)) u = without (l.take i) u) := Lib.hid (by rw [htk]; unfold without; rw [List.filter_append]; simp [hu])
        clear hx hbb htk hu
        go_wp2_with fail
        go_roundw
        case rel => exact ⟨i + 1, m, c9, A9, by omega, by omega, rfl, by go_num, Lib.hid ⟨HK.out.1, by rw [HN.out]; exact HK.out.2⟩⟩
        case measure => simp [intOf]; omega
      · have hd1 : (e.txn != u) = true := by simpa using hu
        have HN : Hid (without (l.take (i + 1)) u = without (l.take i) u ++ [e]) := Lib.hid (by rw [htk]; unfold without; rw [List.filter_append]; simp [hu])
        obtain ⟨W2, hW2⟩ : ∃ W, wr.alloc (.cells #[.int .i64 e.txn, .string e.key, .int .i64 e.mode] 28) = W := ⟨_, rfl⟩
        have hb2 : Below wr.heap.size wr W2 := by rw [← hW2]; exact balloc (bsame _) _
        have hs2 : Str W2 wr.heap.size #[.int .i64 e.txn, .string e.key, .int .i64 e.mode] := by rw [← hW2]; exact Str.new _ _ _
        have hwz := hbb.size
        have h2z := hb2.size
        obtain ⟨A3, c3, w3, happ, hO3, hb3, -, -⟩ := (HK.out.2.next hb2).app (P := Tryd.prog) 41 41 i0 _ 32 Tryd.underlying41 HI0.out HZ0.out.1 HZ0.out.2.1 HZ0.out.2.2 rfl (H3E.lit (wr := hid A9 W2) (x := e) hs2) (by unfold maxLen; omega) (by omega) (by omega)
        have HNX : Hid (Below w.heap.size w w3 ∧ OwnE H3E 28 w3 w.heap.size A3 (m + 1) c3 (without (l.take (i + 1)) u)) := Lib.hid ⟨(hbb.trans (hb2.mono hwz)).trans hb3, by rw [HN.out]; exact hO3⟩
        clear hx hbb htk hu hb2 hs2 hO3 hb3
        go_wp2_with fail
        go_roundw
        case rel => exact ⟨i + 1, m + 1, c3, A3, by omega, by omega, rfl, by go_num, HNX⟩
        case measure => simp [intOf]; omega
    · have hd : decide ((i : Int) < (n : Int)) = false := by simp; omega
      obtain rfl : i = n := by omega
      have hE := HK.out.2
      rw [List.take_of_length_le (by omega)] at hE
      have HE := Lib.hid hE
      clear hE
      go_wp2_with fail
      go_ret
      exact ⟨A9, m, c9, rfl, HE.out.elems, HE.out.ge, HK.out.1⟩
end Go.Proofs.YtkkfabnehhamdaaDoor.RefL
end
