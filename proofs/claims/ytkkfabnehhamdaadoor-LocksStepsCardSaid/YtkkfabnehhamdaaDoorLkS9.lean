/-
  Parts of the proof of LocksSteps.
-/
import Derived.Test.YtkkfabnehhamdaaDoorLkS8
import Derived.Laws.IdiomRangeMap
import Derived.Test.YtkkfabnehhamdaaDoorLkS7
import Derived.Test.YtkkfabnehhamdaaDoorLkS6
section
namespace Go.Proofs.YtkkfabnehhamdaaDoor
open Go.RowKit Go.Maps LockP ModesP
set_option linter.unusedVariables false
set_option linter.unusedSimpArgs false
namespace LockW
theorem keyI_inv {key : Value} {kl : Lit} (hk : keyOf Tryd.prog TI key = some kl) : ∃ x : Int, key = .int .i64 x := by obtain ⟨x, rfl, _⟩ := Maps.keyOf_int_inv Tryd.underlying3 hk; exact ⟨x, rfl⟩
theorem numM_inv {v : Value} {y : DataW Int × List MemPlace} (hv : MapP.rdE numM v = some y) : ∃ n : Int, v = .int .i64 n := by obtain ⟨s, rfl, _⟩ := MapP.rd_inv numM hv; exact ⟨s, rfl⟩
/-- an entry of a map of numbers, met in a range -/
theorem met {L : MapP.T Int Int} {x c : Int} {d : DataW Int} {yp : List MemPlace} (hv : MapP.rdE numM (.int .i64 c) = some (d, yp)) (hat : ∀ z, (MapP.dat intK L).atKey (intK.lit x) z = d) : MapP.get L x = some c := by
  obtain ⟨v, hg, he⟩ := MapP.at_ent intK hat
  have h1 : some (d, yp) = some (.held c, []) := hv.symm.trans (MapP.rd_val numM c)
  simp only [Option.some.injEq, Prod.mk.injEq] at h1
  rw [h1.1] at he
  cases he
  exact hg
theorem left_step {left : Lit → Bool} {x y : Int} (h : (left (intK.lit y) && !(intK.lit y).sameKey (intK.lit x)) = false) : left (intK.lit y) = false ∨ y = x := by
  rw [intK.same] at h
  by_cases e : y = x
  · exact .inr e
  · left
    simpa [e] using h
set_option maxRecDepth 100000 in
set_option maxHeartbeats 4000000 in
theorem may_any (t N : Nat) (bs : List Nat) (X : St) (u : Int) (k : ByteArray) (m a : Int) (w : World) (h : Lk w t bs N X) (hok : Ok0 X) (hT : Modes.Tab w) (hu : In64 u) (hk : k.size ≤ 100) (hm0 : 0 ≤ m) (hm1 : m < 4) (ha0 : 0 ≤ a) (ha1 : a < 16) : Calls Tryd.prog 48 #[.pointer (some ⟨t, 0, none⟩), .int .i64 u, .string k, .int .i64 m, .int .i64 a] w fun e w' => e = .returned (.bool (may X u k m a)) ∧ Below w.heap.size w w' := by
  obtain ⟨lab, b1, b2, b3, b4, es1, es2, es3, h⟩ := h
  have f1 := str4 h.box
  have hl1 := h.box.lt
  have HT := Lib.hid hT
  have HV := Lib.hid (hok.vals k)
  have HND := Lib.hid (hok.nd k)
  have HI := Lib.hid h
  have e1 := h.look1 hk
  have e2 := h.lookSet k hu
  clear h hT hok
  by_cases hs0 : LockP.set X k u = 0
  · have hd0 : (LockP.set X k u == 0) = true := by simpa using hs0
    cases hfa : fitsM a m with
    | false =>
      have HR : Hid (may X u k m a = false) := Lib.hid (may_of (.inl ⟨hs0, hfa⟩))
      clear hs0
      generalize (MapP.get es1 k).getD none = o1 at *
      go_enter Tryd.func48, Tryd.ntmps48
      go_wp2_with fail
      refine (Modes.fits_any a m w HT.out ha0 ha1 hm0 hm1).mono ?_
      rintro e wy ⟨rfl, rfl⟩
      rw [hfa]
      go_wp2
      go_ret
      exact ⟨by rw [HR.out]; rfl, bsame w⟩
    | true =>
      have HM0 : Hid ((!(decide (LockP.set X k u = 0)) || fitsM a m) = true) := Lib.hid (by rw [hfa]; simp)
      clear hs0
      cases hg : MapP.get es1 k with
      | none =>
        have hn1 := HI.out.n1 k hg
        have e1' : (Instr.lookup 65 (.map (some b1)) (.string k) false).run Tryd.prog w = .ok (.map none) w := by have h := HI.out.look1 hk; rwa [hg] at h
        have r1 := run_range_nilMap (P := Tryd.prog) w 74 _ _ Tryd.underlying74
        have r2 := fun ty => run_next_nilMap (P := Tryd.prog) w ty 0 0 #[]
        have HR : Hid (may X u k m a = true) := Lib.hid (by unfold may others; rw [hn1, HM0.out]; rfl)
        rw [hg] at e2
        change (Instr.lookup _ (.map none) _ _).run _ _ = _ at e2
        clear hg hn1 e1
        go_enter Tryd.func48, Tryd.ntmps48
        go_wp2_with fail
        refine (Modes.fits_any a m w HT.out ha0 ha1 hm0 hm1).mono ?_
        rintro e wy ⟨rfl, rfl⟩
        rw [hfa]
        go_wp2_with fail
        go_loopw [10] (fun _ wr => wr = w.alloc (.mapIter none 0 #[] 0)) (fun _ _ => 0)
        case atStart => rfl
        case round =>
          subst hrel
          go_wp2_with fail
          go_ret
          exact ⟨by rw [HR.out]; rfl, balloc (bsame w) _⟩
      | some o =>
        obtain ⟨b, eo, -, -, hM⟩ := HI.out.e1 k o hg
        subst eo
        rw [hg, Option.getD_some] at e1 e2
        have HM := Lib.hid hM
        clear hM hg
        go_enter Tryd.func48, Tryd.ntmps48
        go_wp2_with fail
        refine (Modes.fits_any a m w HT.out ha0 ha1 hm0 hm1).mono ?_
        rintro e wy ⟨rfl, rfl⟩
        rw [hfa]
        go_wp2_with (first
          | (at_range; refine wpList_range_own _ rfl _ 74 rfl TI TI lawI Tryd.underlying74 (MapP.rdE numM) b N (MapP.dat intK (X.own k)) rfl HM.out.own ?_; intro w0 hrg0 hg0 hs0)
          | go_in)
        go_frame
        have HRG := Lib.hid hrg0
        have HB0 : Hid (Below w.heap.size w w0) := Lib.hid ⟨hg0.os, hg0.tape, hg0.output, hg0.size, fun k hk => hg0.block k hk (by simp)⟩
        clear hrg0 hg0 hs0 f1
        go_loopw [10] (fun _ wr => ∃ (left : Lit → Bool) (cnt : Nat), Hid (wr.ranges Tryd.prog TI (MapP.rdE numM) b w.heap.size N (MapP.dat intK (X.own k)) left cnt ∧ (∀ p ∈ X.own k, left (intK.lit p.1) = false → p.1 = u ∨ fitsM p.2 m = true) ∧ Below w.heap.size w wr)) (fun _ wr => wr.rangeLeft b w.heap.size)
        case atStart =>
          refine ⟨_, _, Lib.hid ⟨HRG.out, fun p hp h => ?_, HB0.out⟩⟩
          rw [MapP.has_dat, MapP.has_false] at h
          exact absurd rfl (h p hp)
        case round =>
          obtain ⟨left, cnt, HK⟩ := hrel
          have hwr := HK.out.2.2.size
          go_wp2_with (first
            | (at_next; refine wpList_next_ranges _ rfl _ rfl TI lawI (MapP.rdE numM) (fun x : Int => Value.int .i64 x) (fun x : Int => Value.int .i64 x) (fun key kl hk => keyI_inv hk) (fun v y hv => numM_inv hv) b w.heap.size N _ _ _ rfl HK.out.1 ?_ ?_)
            | go_in)
          · intro _ hl0
            have HR : Hid (may X u k m a = true) := Lib.hid (by
              unfold may others
              rw [HM0.out, Bool.true_and, List.all_eq_true]
              intro p hp
              rcases HK.out.2.1 p hp (hl0 _) with h | h <;> simp [h])
            clear hl0
            go_wp2
            go_ret
            exact ⟨by rw [HR.out]; rfl, HK.out.2.2⟩
          · intro x c kl yd yp w1 cnt1 hkey hlk hv hat hrg1 hcl hg1 hs1 hen
            obtain ⟨x', ex, rfl, -⟩ := Maps.keyOf_int_inv Tryd.underlying3 hkey
            cases ex
            have hgx := met hv hat
            have hmem := MapP.get_mem hgx
            have hval := HV.out (x, c) hmem
            have HRG1 := Lib.hid hrg1
            have hb1 := below_grown HK.out.2.2 hg1 (Nat.le_refl _)
            have HB1 := Lib.hid hb1
            have HT1 := Lib.hid (HT.out.below hb1 HT.out.lt)
            have HCL := Lib.hid hcl
            have HX := Lib.hid hmem
            have HLS : Hid (x = u ∨ fitsM c m = true → ∀ p ∈ X.own k, (left (intK.lit p.1) && !(intK.lit p.1).sameKey (intK.lit x)) = false → p.1 = u ∨ fitsM p.2 m = true) := Lib.hid (fun h p hp hl => by
              rcases left_step hl with hl | e
              · exact HK.out.2.1 p hp hl
              · have : p = (x, c) := by
                  have h1 := MapP.get_of HND.out (k := p.1) (v := p.2) hp
                  rw [e, hgx] at h1
                  cases p
                  simp at e h1
                  rw [e, h1]
                rw [this]
                exact h)
            clear hkey hlk hv hat hrg1 hcl hg1 hs1 hmem hgx hb1
            by_cases hxu : x = u
            · have hd1 : (x != u) = false := by simpa using hxu
              have HS := Lib.hid (HLS.out (.inl hxu))
              clear hxu HLS
              go_wp2_with fail
              go_roundw
              case rel => exact ⟨_, cnt1, Lib.hid ⟨HRG1.out, HS.out, HB1.out⟩⟩
              case measure => rw [HRG1.out.left_eq, HK.out.1.left_eq]; exact HCL.out
            · have hd1 : (x != u) = true := by simpa using hxu
              go_wp2_with fail
              refine (Modes.fits_any c m w1 HT1.out (Int.le_of_lt hval.1) hval.2 hm0 hm1).mono ?_
              rintro e wy ⟨rfl, rfl⟩
              cases hf : fitsM c m with
              | true =>
                have HS := Lib.hid (HLS.out (.inr hf))
                clear hxu HLS hf
                go_wp2_with fail
                go_roundw
                case rel => exact ⟨_, cnt1, Lib.hid ⟨HRG1.out, HS.out, HB1.out⟩⟩
                case measure => rw [HRG1.out.left_eq, HK.out.1.left_eq]; exact HCL.out
              | false =>
                have HR : Hid (may X u k m a = false) := Lib.hid (may_of (.inr ⟨(x, c), HX.out, hxu, hf⟩))
                clear hxu HLS hf
                go_wp2
                go_ret
                exact ⟨by rw [HR.out]; rfl, HB1.out⟩
  · have hd0 : (LockP.set X k u == 0) = false := by simpa using hs0
    have HM0 : Hid ((!(decide (LockP.set X k u = 0)) || fitsM a m) = true) := Lib.hid (by simp [hs0])
    clear hs0
    cases hg : MapP.get es1 k with
    | none =>
      have hn1 := HI.out.n1 k hg
      have e1' : (Instr.lookup 65 (.map (some b1)) (.string k) false).run Tryd.prog w = .ok (.map none) w := by have h := HI.out.look1 hk; rwa [hg] at h
      have r1 := run_range_nilMap (P := Tryd.prog) w 74 _ _ Tryd.underlying74
      have r2 := fun ty => run_next_nilMap (P := Tryd.prog) w ty 0 0 #[]
      have HR : Hid (may X u k m a = true) := Lib.hid (by unfold may others; rw [hn1, HM0.out]; rfl)
      rw [hg] at e2
      change (Instr.lookup _ (.map none) _ _).run _ _ = _ at e2
      clear hg hn1 e1
      go_enter Tryd.func48, Tryd.ntmps48
      go_wp2_with fail
      go_loopw [10] (fun _ wr => wr = w.alloc (.mapIter none 0 #[] 0)) (fun _ _ => 0)
      case atStart => rfl
      case round =>
        subst hrel
        go_wp2_with fail
        go_ret
        exact ⟨by rw [HR.out]; rfl, balloc (bsame w) _⟩
    | some o =>
      obtain ⟨b, eo, -, -, hM⟩ := HI.out.e1 k o hg
      subst eo
      rw [hg, Option.getD_some] at e1 e2
      have HM := Lib.hid hM
      clear hM hg
      go_enter Tryd.func48, Tryd.ntmps48
      go_wp2_with (first
        | (at_range; refine wpList_range_own _ rfl _ 74 rfl TI TI lawI Tryd.underlying74 (MapP.rdE numM) b N (MapP.dat intK (X.own k)) rfl HM.out.own ?_; intro w0 hrg0 hg0 hs0)
        | go_in)
      go_frame
      have HRG := Lib.hid hrg0
      have HB0 : Hid (Below w.heap.size w w0) := Lib.hid ⟨hg0.os, hg0.tape, hg0.output, hg0.size, fun k hk => hg0.block k hk (by simp)⟩
      clear hrg0 hg0 hs0 f1
      go_loopw [10] (fun _ wr => ∃ (left : Lit → Bool) (cnt : Nat), Hid (wr.ranges Tryd.prog TI (MapP.rdE numM) b w.heap.size N (MapP.dat intK (X.own k)) left cnt ∧ (∀ p ∈ X.own k, left (intK.lit p.1) = false → p.1 = u ∨ fitsM p.2 m = true) ∧ Below w.heap.size w wr)) (fun _ wr => wr.rangeLeft b w.heap.size)
      case atStart =>
        refine ⟨_, _, Lib.hid ⟨HRG.out, fun p hp h => ?_, HB0.out⟩⟩
        rw [MapP.has_dat, MapP.has_false] at h
        exact absurd rfl (h p hp)
      case round =>
        obtain ⟨left, cnt, HK⟩ := hrel
        have hwr := HK.out.2.2.size
        go_wp2_with (first
          | (at_next; refine wpList_next_ranges _ rfl _ rfl TI lawI (MapP.rdE numM) (fun x : Int => Value.int .i64 x) (fun x : Int => Value.int .i64 x) (fun key kl hk => keyI_inv hk) (fun v y hv => numM_inv hv) b w.heap.size N _ _ _ rfl HK.out.1 ?_ ?_)
          | go_in)
        · intro _ hl0
          have HR : Hid (may X u k m a = true) := Lib.hid (by
            unfold may others
            rw [HM0.out, Bool.true_and, List.all_eq_true]
            intro p hp
            rcases HK.out.2.1 p hp (hl0 _) with h | h <;> simp [h])
          clear hl0
          go_wp2
          go_ret
          exact ⟨by rw [HR.out]; rfl, HK.out.2.2⟩
        · intro x c kl yd yp w1 cnt1 hkey hlk hv hat hrg1 hcl hg1 hs1 hen
          obtain ⟨x', ex, rfl, -⟩ := Maps.keyOf_int_inv Tryd.underlying3 hkey
          cases ex
          have hgx := met hv hat
          have hmem := MapP.get_mem hgx
          have hval := HV.out (x, c) hmem
          have HRG1 := Lib.hid hrg1
          have hb1 := below_grown HK.out.2.2 hg1 (Nat.le_refl _)
          have HB1 := Lib.hid hb1
          have HT1 := Lib.hid (HT.out.below hb1 HT.out.lt)
          have HCL := Lib.hid hcl
          have HX := Lib.hid hmem
          have HLS : Hid (x = u ∨ fitsM c m = true → ∀ p ∈ X.own k, (left (intK.lit p.1) && !(intK.lit p.1).sameKey (intK.lit x)) = false → p.1 = u ∨ fitsM p.2 m = true) := Lib.hid (fun h p hp hl => by
            rcases left_step hl with hl | e
            · exact HK.out.2.1 p hp hl
            · have : p = (x, c) := by
                have h1 := MapP.get_of HND.out (k := p.1) (v := p.2) hp
                rw [e, hgx] at h1
                cases p
                simp at e h1
                rw [e, h1]
              rw [this]
              exact h)
          clear hkey hlk hv hat hrg1 hcl hg1 hs1 hmem hgx hb1
          by_cases hxu : x = u
          · have hd1 : (x != u) = false := by simpa using hxu
            have HS := Lib.hid (HLS.out (.inl hxu))
            clear hxu HLS
            go_wp2_with fail
            go_roundw
            case rel => exact ⟨_, cnt1, Lib.hid ⟨HRG1.out, HS.out, HB1.out⟩⟩
            case measure => rw [HRG1.out.left_eq, HK.out.1.left_eq]; exact HCL.out
          · have hd1 : (x != u) = true := by simpa using hxu
            go_wp2_with fail
            refine (Modes.fits_any c m w1 HT1.out (Int.le_of_lt hval.1) hval.2 hm0 hm1).mono ?_
            rintro e wy ⟨rfl, rfl⟩
            cases hf : fitsM c m with
            | true =>
              have HS := Lib.hid (HLS.out (.inr hf))
              clear hxu HLS hf
              go_wp2_with fail
              go_roundw
              case rel => exact ⟨_, cnt1, Lib.hid ⟨HRG1.out, HS.out, HB1.out⟩⟩
              case measure => rw [HRG1.out.left_eq, HK.out.1.left_eq]; exact HCL.out
            | false =>
              have HR : Hid (may X u k m a = false) := Lib.hid (may_of (.inr ⟨(x, c), HX.out, hxu, hf⟩))
              clear hxu HLS hf
              go_wp2
              go_ret
              exact ⟨by rw [HR.out]; rfl, HB1.out⟩
end LockW
end Go.Proofs.YtkkfabnehhamdaaDoor
end
section
namespace Go.Proofs.YtkkfabnehhamdaaDoor
open Go.RowKit Go.Maps LockP ModesP
set_option linter.unusedVariables false
set_option linter.unusedSimpArgs false
namespace LockW
def KpL (bs : List Nat) (W W' : World) : Prop := ∀ b ∈ bs, W'.heap[b]? = W.heap[b]?
/-- a row, or none -/
def RowIn (bs : List Nat) (w : World) (o : Option Nat) (l : Row) : Prop := (o = none ∧ l = []) ∨ ∃ q A n c, o = some q ∧ Que w q A n c l ∧ n ≤ 1000000 ∧ q ∈ bs ∧ ∀ a, A = some a → a.block ∈ bs
theorem LkIn.rowIn {w : World} {t N b1 b2 b3 b4 : Nat} {bs : List Nat} {X : St} {lab : Nat → Role} {es1 : MapP.T ByteArray (Option Nat)} {es2 : MapP.T Int (Option Nat)} {es3 : MapP.T ByteArray (Option Nat)} (h : LkIn w t bs N X lab b1 b2 b3 b4 es1 es2 es3) (hN : N ≤ 1000000) (k : ByteArray) : RowIn bs w ((MapP.get es3 k).getD none) (X.row k) := by
  cases hg : MapP.get es3 k with
  | none => exact .inl ⟨rfl, h.n3 k hg⟩
  | some o =>
    obtain ⟨q, A, n, c, e, -, hm, hQ, hA, hn⟩ := h.e3 k o hg
    exact .inr ⟨q, A, n, c, e, hQ, by omega, hm, fun a ha => (hA a ha).2⟩
/-- one of a row, with its place -/
abbrev In (l : Row) : Type := { x : (Int × Int) × Nat // x.1 ∈ l }
theorem all_stops (n0 : Nat) (hn0 : 1 ≤ n0) (bx : Nat) (o : Option Nat) (bs : List Nat) (l : Row) (w : World) (hb : Str w bx #[.pointer (o.map fun q => ⟨q, 0, none⟩)]) (hr : RowIn bs w o l) :
    SeqStopsK Fence.wide n0 Tryd.prog 52 #[.pointer (some ⟨bx, 0, none⟩)] (fun x : In l => #[.int .i64 (x.1.2 : Int), .agg #[.int .i64 x.1.1.1, .int .i64 x.1.1.2]]) (KpL bs) (fun ys => ys.map (·.1.1) = l) (fun ys => ys.map (·.1.1) <+: l) 1000000 w := by
  intro y J Jx W hW hJ hJx hY h0
  have hD : ∀ pre A B, J pre A → Below A.heap.size A B → J pre B := fun pre X Y hs hxy => hJ pre X Y none hs ⟨hxy.os, hxy.tape, hxy.output, hxy.size, fun k hk _ => hxy.block k hk⟩ (fun r e => by cases e)
  rcases hr with ⟨rfl, rfl⟩ | ⟨q, A, n, c, rfl, hQ, hn, hm, hA⟩
  · refine (all1_nil_in n0 hn0 y bx W (hb.next hW)).mono ?_
    rintro e W' ⟨hv, hbl⟩
    exact ⟨hv, .inl ⟨[], rfl, hD _ _ _ h0 hbl⟩⟩
  · refine (all1_in n0 hn0 y bx q n c A l (fun pre W => ∃ pr : List (In l), pr.map (·.1) = pre ∧ J pr W) (fun _ W => ∃ pr : List (In l), pr.map (·.1.1) <+: l ∧ Jx pr W) hn (fun pre x W1 hJ1 hx hl hp => ?_) (fun pre A B ⟨pr, e, h⟩ hb => ⟨pr, e, hD pr A B h hb⟩) W (hb.next hW) (hQ.below hW) ⟨[], rfl, h0⟩).mono ?_
    · obtain ⟨pr, e, hJ1⟩ := hJ1
      have e2' := e
      obtain ⟨fn, tmps, assign, body, hy, hR⟩ := hY pr ⟨x, List.mem_of_getElem? hx⟩ W1 hJ1 (by rw [← e, List.length_map] at hl; have := hQ.2.len; omega)
      refine ⟨fn, tmps, assign, body, hy, hR.mono ?_⟩
      rintro e w' (⟨h1, h2, h3⟩ | ⟨h1, h2⟩)
      · exact .inl ⟨h1, ⟨_, by rw [List.map_append, ‹pr.map (·.1) = pre›]; rfl, h2⟩, h3 q hm, fun a ha => h3 _ (hA a ha)⟩
      · refine .inr ⟨h1, _, ?_, h2⟩
        rw [← e2', List.map_append, List.map_map] at hp
        rw [List.map_append]
        exact hp
    · rintro e W' ⟨hv, h⟩
      refine ⟨hv, ?_⟩
      rcases h with ⟨ys, e, pr, e2, h⟩ | ⟨_, pr, hp, h⟩
      · refine .inl ⟨pr, ?_, h⟩
        rw [e] at e2
        have := congrArg (List.map (·.1)) e2
        rw [List.map_map, List.zipIdx_map_fst] at this
        exact this
      · exact .inr ⟨pr, hp, h⟩
/-- a block beside the table turns -/
theorem Told.put {w w1 w2 : World} {t N D : Nat} {bs : List Nat} {X : St} (hb : Below w.heap.size w w1) (hbs : ∀ b ∈ bs, b < w.heap.size) (h : Told w1 t bs N X w2) (h1 : w.heap.size ≤ D) (h2 : D < w1.heap.size) (o : Obj) : Told w t bs N X (w2.putObj D o) := by
  obtain ⟨bs', hl, hn, hk⟩ := h
  have hg := grownBy_putObj' w2 D o
  have hnd : ∀ b ∈ bs', b ≠ D := fun b hm => by
    rcases hn b hm with h | h
    · have := hbs b h; omega
    · omega
  refine ⟨bs', ?_, fun b hm => (hn b hm).imp id (fun h => Nat.le_trans hb.size h), ?_⟩
  · obtain ⟨lab, b1, b2, b3, b4, es1, es2, es3, hl⟩ := hl
    exact ⟨lab, b1, b2, b3, b4, es1, es2, es3, hl.at_ fun b hm => hg.block b (hl.lo b hm) (fun e => by injection e with e; exact hnd b hm e)⟩
  · have h3 := keep_ahead hb hk
    exact ⟨hg.os.trans h3.os, hg.tape.trans h3.tape, hg.output.trans h3.output, Nat.le_trans h3.size hg.size, fun i hi hni => (hg.block i (by have := h3.size; omega) (fun e => by injection e with e; omega)).trans (h3.block i hi hni)⟩
theorem Told.same {w : World} {t N : Nat} {bs : List Nat} {X : St} (h : Lk w t bs N X) {w' : World} (hb : Below w.heap.size w w') : Told w t bs N X w' := ⟨bs, h.next hb, fun b hm => .inl hm, .of hb⟩
theorem with_no (s m : Int) (w : World) (h : isM m = false) : Calls Tryd.prog 47 #[.int .i64 s, .int .i64 m] w fun e w' => e = .returned (.int .i64 s) ∧ w = w' := by
  go_enter Tryd.func47, Tryd.ntmps47
  go_wp2_with (go_at_call 36; refine (Modes.is_any _ _).mono ?_; rintro e w' ⟨rfl, rfl⟩)
  go_ret
  exact ⟨rfl, rfl⟩
/-- what Ask tells -/
def Asked (t N : Nat) (bs : List Nat) (X : St) (u : Int) (k : ByteArray) (m : Int) (w : World) (e : Ending) (w' : World) : Prop := e = .returned (.tuple #[.bool (LockP.ask lI lS X u k m).2.1, .int .i64 (LockP.ask lI lS X u k m).2.2]) ∧ Told w t bs (N + 8) (LockP.ask lI lS X u k m).1 w'
set_option maxRecDepth 100000 in
set_option maxHeartbeats 4000000 in
theorem ask_bad (t N : Nat) (bs : List Nat) (X : St) (u : Int) (k : ByteArray) (m : Int) (w : World) (h : Lk w t bs N X) (hm : isM m = false) : Calls Tryd.prog 29 #[.pointer (some ⟨t, 0, none⟩), .int .i64 u, .string k, .int .i64 m] w (Asked t N bs X u k m w) := by
  have HA : Hid (LockP.ask lI lS X u k m = (X, false, 1)) := Lib.hid (by unfold LockP.ask; rw [if_pos hm])
  have H := Lib.hid h
  have HM := Lib.hid hm
  clear h hm
  go_enter Tryd.func29, Tryd.ntmps29
  go_wp2_with fail
  refine (with_no 0 m w HM.out).mono ?_
  rintro e w' ⟨rfl, rfl⟩
  go_wp2_with fail
  refine bodyPost_ret (v := .tuple #[.bool false, .int .i64 1]) (by simp [results, Tryd.results29, go_sem, *]) rfl ?_
  refine ⟨by rw [HA.out], ?_⟩
  rw [HA.out]
  exact Told.same (H.out.mono (by omega)) (bsame w)
set_option maxRecDepth 100000 in
set_option maxHeartbeats 4000000 in
theorem ask_waits (t N : Nat) (bs : List Nat) (X : St) (u : Int) (k : ByteArray) (m : Int) (w : World) (h : Lk w t bs N X) (hu : In64 u) (hm : isM m = true) (hw : MapP.has X.goal u = true) : Calls Tryd.prog 29 #[.pointer (some ⟨t, 0, none⟩), .int .i64 u, .string k, .int .i64 m] w (Asked t N bs X u k m w) := by
  have HA : Hid (LockP.ask lI lS X u k m = (X, false, 15)) := Lib.hid (by unfold LockP.ask; rw [if_neg (by rw [hm]; decide), if_pos hw])
  have H := Lib.hid h
  obtain ⟨hm0, hm1⟩ := isM_iff.1 hm
  have hp := (with_pos (s := 0) (by omega) (by omega) hm0 hm1).1
  have hd1 : (withM 0 m == 0) = false := by simp; omega
  have HP := Lib.hid hp
  obtain ⟨lab, b1, b2, b3, b4, es1, es2, es3, h⟩ := h
  have f0 := str4 h.box
  have hl := h.box.lt
  have e4 := h.look4 hu
  rw [hw] at e4
  clear h hw hm hp
  generalize (MapP.get X.goal u).getD (⟨#[]⟩, 0) = g at *
  obtain ⟨gk, gm⟩ := g
  change (Instr.lookup _ _ _ _).run _ _ = .ok (.tuple #[.agg #[.string gk, .int .i64 gm], _]) _ at e4
  go_enter Tryd.func29, Tryd.ntmps29
  go_wp2_with fail
  refine (Modes.with_any 0 m w (by omega) (by omega) hm0 hm1).mono ?_
  rintro e w' ⟨rfl, rfl⟩
  go_wp2_with fail
  refine bodyPost_ret (v := .tuple #[.bool false, .int .i64 15]) (by simp [results, Tryd.results29, go_sem, *]) rfl ?_
  refine ⟨by rw [HA.out], ?_⟩
  rw [HA.out]
  exact Told.same (H.out.mono (by omega)) (balloc (bsame w) _)
set_option maxRecDepth 100000 in
set_option maxHeartbeats 4000000 in
theorem ask_has (t N : Nat) (bs : List Nat) (X : St) (u : Int) (k : ByteArray) (m : Int) (w : World) (h : Lk w t bs N X) (hok : Ok0 X) (hu : In64 u) (hk : k.size ≤ 100) (hm : isM m = true) (hw : MapP.has X.goal u = false) (hs : hasM (LockP.set X k u) m = true) : Calls Tryd.prog 29 #[.pointer (some ⟨t, 0, none⟩), .int .i64 u, .string k, .int .i64 m] w (Asked t N bs X u k m w) := by
  have HA : Hid (LockP.ask lI lS X u k m = (X, true, 0)) := Lib.hid (by unfold LockP.ask; rw [if_neg (by rw [hm]; decide), if_neg (by rw [hw]; decide), if_pos hs])
  have H := Lib.hid h
  have HSB := Lib.hid (hok.set_bd (k := k) (t := u))
  obtain ⟨hm0, hm1⟩ := isM_iff.1 hm
  have hp := (with_pos (s := 0) (by omega) (by omega) hm0 hm1).1
  have hd1 : (withM 0 m == 0) = false := by simp; omega
  have HP := Lib.hid hp
  have HS := Lib.hid hs
  have q1 : ∀ (W : World) (r : Option Nat), _ := fun W r => run_eql_map_nil (P := Tryd.prog) W 65 _ _ r Tryd.underlying65
  obtain ⟨lab, b1, b2, b3, b4, es1, es2, es3, h⟩ := h
  have e4 := h.look4 hu
  rw [hw] at e4
  generalize (MapP.get X.goal u).getD (⟨#[]⟩, 0) = g at *
  obtain ⟨gk, gm⟩ := g
  change (Instr.lookup _ _ _ _).run _ _ = .ok (.tuple #[.agg #[.string gk, .int .i64 gm], _]) _ at e4
  obtain ⟨W1, hW1⟩ : ∃ W, w.alloc (.cells #[.string gk, .int .i64 gm] 72) = W := ⟨_, rfl⟩
  have hb1 : Below w.heap.size w W1 := by rw [← hW1]; exact balloc (bsame w) _
  have h1 := h.next hb1
  have f0 := str4 h.box
  have hl := h.box.lt
  have f1 := str4 h1.box
  have hl1 := h1.box.lt
  have e1 := h1.look1 hk
  have e2 := h1.lookSet k hu
  have HB1 := Lib.hid hb1
  clear h hw hm hp h1 hb1 hs hok
  go_enter Tryd.func29, Tryd.ntmps29
  go_wp2_with fail
  refine (Modes.with_any 0 m w (by omega) (by omega) hm0 hm1).mono ?_
  rintro e w' ⟨rfl, rfl⟩
  go_wp2_with fail
  refine (Modes.has_any _ m W1 HSB.out.1 HSB.out.2 hm0 hm1).mono ?_
  rintro e w' ⟨rfl, rfl⟩
  rw [HS.out]
  go_wp2_with fail
  refine bodyPost_ret (v := .tuple #[.bool true, .int .i64 0]) (by simp [results, Tryd.results29, go_sem, *]) rfl ?_
  refine ⟨by rw [HA.out], ?_⟩
  rw [HA.out]
  exact Told.same (H.out.mono (by omega)) HB1.out
end LockW
end Go.Proofs.YtkkfabnehhamdaaDoor
end
section
namespace Go.Proofs.YtkkfabnehhamdaaDoor
open Go.RowKit Go.Maps LockP
set_option linter.unusedVariables false
set_option linter.unusedSimpArgs false
namespace LockW
abbrev T3 := 67
abbrev T4 := 68
/-- a new row, in a region that draws its order -/
def freshQ (N : Nat) : SP ext := ⟨fun v w => ∃ q, v = .pointer (some ⟨q, 0, none⟩) ∧ N ≤ q ∧ Que w q none 0 0 [], fun v w w' hb h => by
  obtain ⟨q, e, h1, h2⟩ := h
  exact ⟨q, e, h1, h2.1.next hb, h2.2.next hb⟩⟩
section
variable {w w' : World} {t N b1 b2 b3 b4 q : Nat} {bs : List Nat} {X : St} {lab : Nat → Role} {es1 : MapP.T ByteArray (Option Nat)} {es2 : MapP.T Int (Option Nat)} {es3 : MapP.T ByteArray (Option Nat)} {k : ByteArray} {u m : Int}
/-- a key's row is laid in -/
theorem LkIn.put3 (h : LkIn w t bs N X lab b1 b2 b3 b4 es1 es2 es3) (hk : k.size ≤ 100) (hN : N < maxLen) (hg : MapP.get es3 k = none) (hb : Below w.heap.size w w') (hq : w.heap.size ≤ q) (hQ : Que w' q none 0 0 []) :
    ∃ W lab' es3', (Instr.mapUpdate T3 (.map (some b3)) (.string k) (.pointer (some ⟨q, 0, none⟩))).run Tryd.prog w' = .ok () W ∧ LkIn W t (q :: bs) (N + 1) X lab' b1 b2 b3 b4 es1 es2 es3' ∧ MapP.get es3' k = some (some q) ∧ Reg.KeepB w.heap.size bs w W := by
  have h1 : LkIn w' t (q :: bs) N X (fun b => if b = q then .que k else lab b) b1 b2 b3 b4 es1 es2 es3 := (h.next hb).relab (fun b hm => by have := h.lo b hm; rw [if_neg (by omega)]) (fun b hm => List.mem_cons_of_mem _ hm) (fun b hm => by
    rcases List.mem_cons.1 hm with rfl | hm
    · exact hQ.1.lt
    · exact Nat.lt_of_lt_of_le (h.lo b hm) hb.size)
  obtain ⟨W, hrun, hM, ht⟩ := h1.m3.store lawS Tryd.underlying67 hN (keyS hk) (some q)
  have hgr := ht.grown
  have hb3 := h.inb.2.2.2.1
  have hlt := h.lo b3 hb3
  have hnd := h.m3.nd
  have hput : ∀ k', MapP.get (MapP.put lS es3 k (some q)) k' = if k' = k then some (some q) else MapP.get es3 k' := fun k' => MapP.get_put hnd k _ k'
  refine ⟨W, _, _, hrun, h1.m3_turn hgr hM (Nat.le_succ N) (fun k' o ho => ?_) (fun k' ho => ?_), by rw [hput, if_pos rfl], keep_trans (Reg.KeepB.of hb) hgr (.inl hb3)⟩
  · rw [hput] at ho
    by_cases e : k' = k
    · subst e
      rw [if_pos rfl] at ho
      cases ho
      refine .inr ⟨q, none, 0, 0, rfl, by rw [if_pos rfl], by simp, ?_, (fun a ha => by cases ha), Nat.zero_le _⟩
      rw [h.n3 k' hg]
      exact que_at hQ (hgr.block q hQ.1.lt (fun e => by injection e with e; omega)) (fun a ha => by cases ha)
    · rw [if_neg e] at ho
      exact .inl ho
  · rw [hput] at ho
    by_cases e : k' = k
    · rw [if_pos e] at ho
      cases ho
    · rw [if_neg e] at ho
      exact h.n3 k' ho
/-- a row turns -/
theorem LkIn.pushedN {N' : Nat} (h : LkIn w t bs N X lab b1 b2 b3 b4 es1 es2 es3) (hg : MapP.get es3 k = some (some q)) {n c n' c' : Nat} {A A' : Option Addr} {l : Row} (hQ' : Que w q A n c (X.row k)) (hA : ∀ a, A = some a → lab a.block = .itm k ∧ a.block ∈ bs) (hQ : Que w' q A' n' c' l) (hA' : ∀ p, A' = some p → A = some p ∨ w.heap.size ≤ p.block) (hkb : Reg.KeepB w.heap.size (q :: (A.map (·.block)).toList) w w') (hn : n' ≤ N') (hN : N ≤ N') :
    ∃ bs' lab', LkIn w' t bs' N' { X with row := upd X.row k l } lab' b1 b2 b3 b4 es1 es2 es3 ∧ (∀ b ∈ bs', b ∈ bs ∨ w.heap.size ≤ b) ∧ Reg.KeepB w.heap.size bs w w' := by
  obtain ⟨q', A0, n0, c0, e, hlq, hmq, -, -, -⟩ := h.e3 k _ hg
  cases e
  refine ⟨(A'.map (·.block)).toList ++ bs, fun b => if w.heap.size ≤ b then .itm k else lab b, ?_, fun b hm => ?_, ⟨hkb.os, hkb.tape, hkb.output, hkb.size, fun i hi hni => hkb.block i hi (fun hm => hni ?_)⟩⟩
  · refine h.que_turn (l := l) hg (fun b hm h1 h2 => hkb.block b (h.lo b hm) (fun hm2 => ?_)) hkb.size (fun b hm => by have := h.lo b hm; rw [if_neg (by omega)]) (fun b hm => List.mem_append_right _ hm) (fun b hm => ?_) hQ (fun a ha => ?_) hn hN
    · rcases List.mem_cons.1 hm2 with rfl | hm2
      · exact h1 hlq
      · obtain ⟨a, e, rfl⟩ := Option.map_eq_some_iff.1 (Option.mem_toList.1 hm2)
        exact h2 (hA a e).1
    · rcases List.mem_append.1 hm with hm | hm
      · obtain ⟨a, e, rfl⟩ := Option.map_eq_some_iff.1 (Option.mem_toList.1 hm)
        obtain ⟨vs, ⟨-, h1⟩, -⟩ := hQ.2
        rcases h1 with e1 | ⟨g, cap, cur, e1, -, hh, -⟩
        · rw [e] at e1; cases e1.1
        · rw [e] at e1
          cases e1
          exact (Array.getElem?_eq_some_iff.1 hh).1
      · exact Nat.lt_of_lt_of_le (h.lo b hm) hkb.size
    · refine ⟨?_, List.mem_append_left _ (by rw [ha]; simp)⟩
      show (if w.heap.size ≤ a.block then Role.itm k else lab a.block) = _
      rcases hA' a ha with h1 | h1
      · have h2 := hA a h1
        have := h.lo _ h2.2
        rw [if_neg (by omega)]
        exact h2.1
      · rw [if_pos h1]
  · rcases List.mem_append.1 hm with hm | hm
    · obtain ⟨a, e, rfl⟩ := Option.map_eq_some_iff.1 (Option.mem_toList.1 hm)
      rcases hA' a e with h1 | h1
      · exact .inl (hA a h1).2
      · exact .inr h1
    · exact .inl hm
  · rcases List.mem_cons.1 hm with rfl | hm
    · exact hmq
    · obtain ⟨a, e, rfl⟩ := Option.map_eq_some_iff.1 (Option.mem_toList.1 hm)
      exact (hA a e).2
/-- one is put behind a row -/
theorem LkIn.pushed (h : LkIn w t bs N X lab b1 b2 b3 b4 es1 es2 es3) (hg : MapP.get es3 k = some (some q)) {n c n' c' : Nat} {A A' : Option Addr} {l : Row} (hQ' : Que w q A n c (X.row k)) (hA : ∀ a, A = some a → lab a.block = .itm k ∧ a.block ∈ bs) (hQ : Que w' q A' n' c' l) (hA' : ∀ p, A' = some p → A = some p ∨ w.heap.size ≤ p.block) (hkb : Reg.KeepB w.heap.size (q :: (A.map (·.block)).toList) w w') (hn : n' ≤ N + 1) :
    ∃ bs' lab', LkIn w' t bs' (N + 1) { X with row := upd X.row k l } lab' b1 b2 b3 b4 es1 es2 es3 ∧ (∀ b ∈ bs', b ∈ bs ∨ w.heap.size ≤ b) ∧ Reg.KeepB w.heap.size bs w w' := h.pushedN hg hQ' hA hQ hA' hkb hn (Nat.le_succ N)
/-- a goal is laid in -/
theorem LkIn.set4 (h : LkIn w t bs N X lab b1 b2 b3 b4 es1 es2 es3) (hu : In64 u) (hN : N < maxLen) :
    ∃ W, (Instr.mapUpdate T4 (.map (some b4)) (.int .i64 u) (.agg #[.string k, .int .i64 m])).run Tryd.prog w = .ok () W ∧ LkIn W t bs (N + 1) { X with goal := MapP.put lI X.goal u (k, m) } lab b1 b2 b3 b4 es1 es2 es3 ∧ Reg.KeepB w.heap.size bs w W := by
  obtain ⟨W, hrun, hM', ht⟩ := h.m4.store lawI Tryd.underlying68 hN (keyI hu) (k, m)
  exact ⟨W, hrun, h.m4_turn ht.grown hM' (Nat.le_succ N), keep_turn ht.grown h.inb.2.2.2.2⟩
end
end LockW
end Go.Proofs.YtkkfabnehhamdaaDoor
end
