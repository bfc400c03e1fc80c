/-
  Parts of the proof of PoolAhead.
-/
import Derived.Test.YtcfieofcnpalgaaGreatAhG0
import Derived.Deep.Slices
import Derived.Test.YtcfieofcnpalgaaGreatAhG25
import Derived.Test.YtcfieofcnpalgaaGreatAhG26
import Derived.Test.YtcfieofcnpalgaaGreatAhG9
import Derived.Test.YtcfieofcnpalgaaGreatAhG4
section
namespace Go.Proofs.YtcfieofcnpalgaaGreat
open Go.ChangeShapes Go.WideShapes Go.ChangeAt Go.RowKit
set_option linter.unusedVariables false
section
variable {H : Type} {enc : TypeId × Value → H} {P : Program} {w : World}
/-- a slice whose elements can be read one by one -/
theorem elems_of {α : Type} (E : El α) {fuel : Nat} {t e : TypeId} {cs : List Value} {x : DataW H × List MemPlace} (ht : P.underlying t = some (.slice e)) (hc : P.cellsOf e = E.size)
    (hel : ∀ (n : Nat) (cs : List Value) y, DataW.trod enc P w 0 (fun _ => true) true n e cs = some y → ∃ x, E.rel w w.heap.size cs x)
    (h : DataW.trod enc P w 0 (fun _ => true) true fuel t cs = some x) : ∃ A n c l, cs = [.slice A n c] ∧ Elems E w w.heap.size A n c l := by
  rcases Go.Deep.open_slice ht h with ⟨hcs, _⟩ | ⟨a, len, cap, m, n, D, Pl, hcs, _, hl, hm, hmm, _, hx⟩
  · exact ⟨none, 0, 0, [], hcs, Elems.none_ _ _ _⟩
  · have hlm : len ≤ m := by rw [hmm]; split <;> omega
    have key : ∀ k, k ≤ len → ∃ (vs : List (List Value)) (l : List α), Rel2 (E.rel w w.heap.size) vs l ∧ l.length = k ∧ ∀ j v, vs.flatten[j]? = some v → w.cell? (a.add j) = some v := by
      intro k
      induction k with
      | zero => intro _; exact ⟨[], [], trivial, rfl, fun j v hv => by simp at hv⟩
      | succ k ih =>
        intro hk
        obtain ⟨vs, l, hr, hlen, hcell⟩ := ih (by omega)
        obtain ⟨cs', h1, h2⟩ := hx k (by omega)
        obtain ⟨y, hy⟩ := hel _ _ _ h2
        obtain ⟨_, hcl, hci⟩ := World.cells?_some h1
        refine ⟨vs ++ [cs'], l ++ [y], Rel2.append (show Rel2 (E.rel w w.heap.size) [cs'] [y] from ⟨hy, trivial⟩) hr, by simp [hlen], fun j v hv => ?_⟩
        have hfl : vs.flatten.length = k * E.size := by rw [hr.flat (fun _ _ => E.len), hlen]
        rw [List.flatten_append, List.flatten_singleton] at hv
        by_cases hj : j < vs.flatten.length
        · rw [List.getElem?_append_left hj] at hv
          exact hcell j v hv
        · rw [List.getElem?_append_right (by omega), hfl] at hv
          have hi := (List.getElem?_eq_some_iff.1 hv).1
          have := hci (j - k * E.size) (by omega)
          rw [hv, hc, Go.Deep.add_add, show k * E.size + (j - k * E.size) = j by omega] at this
          exact this
    obtain ⟨vs, l, hr, hlen, hcell⟩ := key len (Nat.le_refl _)
    refine ⟨some a, len, cap, l, hcs, vs, hr, hlen, hl, hm, fun hn => ?_⟩
    have hfl : vs.flatten.length = len * E.size := by rw [hr.flat (fun _ _ => E.len), hlen]
    have hpos : 0 < vs.flatten.length := by rw [hfl]; exact Nat.mul_pos hn E.pos
    obtain ⟨b, o, s⟩ := a
    have h0 := hcell 0 _ (List.getElem?_eq_getElem hpos)
    have hs : s = none := by simpa [Addr.add] using World.cell?_spot h0
    subst hs
    refine ⟨b, o, rfl, by simpa [Addr.add] using lt_of_cell h0, fun j v hv => ?_⟩
    have := hcell j v hv
    rwa [add_none] at this
end
end Go.Proofs.YtcfieofcnpalgaaGreat
end
section
namespace Go.Proofs.YtcfieofcnpalgaaGreat
open Go.ChangeShapes Go.WideShapes Go.ChangeAt Go.RowKit
set_option linter.unusedVariables false
set_option maxRecDepth 100000
structure StepP where
  act : Int
  no : Int
  v : Int
def spV (x : StepP) : List Value := [.int .i64 x.act, .int .i64 x.no, .int .u8 x.v]
def StepPE : El StepP where
  size := 3
  pos := by decide
  rel w B vs x := vs = spV x ∧ In64 x.act ∧ In64 x.no ∧ 0 ≤ x.v ∧ x.v ≤ 255
  len := by rintro w B vs p ⟨rfl, _⟩; rfl
  one := by rintro w B vs p ⟨rfl, _⟩ v hv; simp only [spV, List.mem_cons, List.not_mem_nil, or_false] at hv; rcases hv with rfl | rfl | rfl <;> rfl
  sub := by rintro w w' B vs p hs h; exact h
  more := by rintro w B B' vs p hB h; exact h
theorem stepP_at {wr w : World} {B n c k : Nat} {A : Option Addr} {l : List StepP} (h : ElemsIn StepPE wr w B A n c l) (hk : k < n) : ∃ b o x, A = some ⟨b, o, none⟩ ∧ b < B ∧ l[k]? = some x ∧ (In64 x.act ∧ In64 x.no ∧ 0 ≤ x.v ∧ x.v ≤ 255) ∧ w.cell? ⟨b, o + k * 3, none⟩ = some (.int .i64 x.act) ∧ w.cell? ⟨b, o + k * 3 + 1, none⟩ = some (.int .i64 x.no) ∧ w.cell? ⟨b, o + k * 3 + 2, none⟩ = some (.int .u8 x.v) := by
  have hl : k < l.length := by rw [h.len]; exact hk
  obtain ⟨b, o, vs, e, hb, ⟨rfl, hin⟩, hc⟩ := h.at_ hk
  exact ⟨b, o, _, e, hb, List.getElem?_eq_getElem hl, hin, hc 0 _ rfl, hc 1 _ rfl, hc 2 _ rfl⟩
def RStepsP (w : World) (B : Nat) (v : Value) (l : List StepP) : Prop := ∃ A n c, v = .slice A n c ∧ Elems StepPE w B A n c l
theorem u8_in {z : Int} (h : (Lit.int .u8 z).wf = true) : 0 ≤ z ∧ z ≤ 255 := by simpa [Lit.wf, IntKind.min, IntKind.max, IntKind.signed, IntKind.bits] using h
section
variable {H : Type} {enc : TypeId × Value → H} {W : World} {base : Nat} {v : Value} {d : DataW H} {p : List MemPlace}
theorem cells_stepP {n0 : Nat} {l : List Value} {y0 : DataW H × List MemPlace} (hf : DataW.trod enc Tryz.prog W 0 (fun _ => true) true n0 40 l = some y0) : ∃ x, StepPE.rel W W.heap.size l x := by
  obtain ⟨hl, n, hg⟩ := field_of Tryz.underlying40 hf
  have hl' : l.length = 3 := hl.trans (by kernel_rfl)
  match l, hl' with
  | [c0, c1, c2], _ =>
    obtain ⟨y0, h0⟩ := hg 0 3 0 1 rfl (by kernel_rfl)
    have h0' : DataW.trod enc Tryz.prog W 0 (fun _ => true) true n 3 [c0] = some y0 := h0
    obtain ⟨z0, e0, _, q0⟩ := DataW.trod_int Tryz.underlying3 h0'
    obtain ⟨y1, h1⟩ := hg 1 3 1 1 rfl (by kernel_rfl)
    have h1' : DataW.trod enc Tryz.prog W 0 (fun _ => true) true n 3 [c1] = some y1 := h1
    obtain ⟨z1, e1, _, q1⟩ := DataW.trod_int Tryz.underlying3 h1'
    obtain ⟨y2, h2⟩ := hg 2 5 2 1 rfl (by kernel_rfl)
    have h2' : DataW.trod enc Tryz.prog W 0 (fun _ => true) true n 5 [c2] = some y2 := h2
    obtain ⟨z2, e2, _, q2⟩ := DataW.trod_int Tryz.underlying5 h2'
    simp only [List.cons.injEq, and_true] at e0 e1 e2
    subst e0 e1 e2
    exact ⟨⟨z0, z1, z2⟩, rfl, in64 q0, in64 q1, u8_in q2⟩
theorem open_stepsP (hv : Value.okWide Tryz.prog W .any base 22 v) (h : DataW.Trod enc Tryz.prog W 0 (fun _ => true) true 22 v d p) : ∃ l, RStepsP W W.heap.size v l := by
  obtain ⟨a, len, cap, rfl⟩ := okWide_slice Tryz.underlying22 hv
  obtain ⟨fuel, hf⟩ := h
  obtain ⟨A, n, c, l, e, hb⟩ := elems_of StepPE Tryz.underlying22 (by kernel_rfl) (fun _ _ _ hq => cells_stepP hq) hf
  refine ⟨l, A, n, c, ?_, hb⟩
  simpa [Value.cells] using e
end
end Go.Proofs.YtcfieofcnpalgaaGreat
end
section
namespace Go.Proofs.YtcfieofcnpalgaaGreat.Law20
open Go.RowKit PoolW RefDev
set_option linter.unusedVariables false
set_option linter.unusedSimpArgs false
/-- a pool made since, in memory -/
structure PK (w wr : World) (p d lg : Nat) (bs : List Nat) (S : PoolX) : Prop where
  pool : Pool wr p d lg bs S
  lo : ∀ b ∈ bs, w.heap.size ≤ b
  bel : Below w.heap.size w wr
theorem PK.next {w wr w' : World} {p d lg : Nat} {bs : List Nat} {S : PoolX} (h : PK w wr p d lg bs S) (hb : Below wr.heap.size wr w') : PK w w' p d lg bs S := ⟨h.pool.next hb, h.lo, bstep h.bel hb⟩
theorem PK.told {w wr w' : World} {p d lg : Nat} {bs : List Nat} {S S' : PoolX} {r : Value} {e : Ending} (h : PK w wr p d lg bs S) (hT : PoolW.Told wr p d lg bs S' r e w') : e = .returned r ∧ ∃ bs', PK w w' p d lg bs' S' := by
  obtain ⟨he, bs', h1, h2, h3⟩ := hT
  have hsz := h.bel.size
  exact ⟨he, bs', h1, fun b hb => (h2 b hb).elim (h.lo b) (by omega), h.bel.trans (h3.below hsz h.lo)⟩
theorem bg_succ (i : Nat) : (Bg (i + 1)).now = (Bg i).now.set i (PageP.sealed (page (i : Int) ((i : Int) + 1))) := rfl
theorem bg_now : ∀ i : Nat, i ≤ 4 → ∀ k : Nat, k < i → (Bg i).now[k]? = some (PageP.sealed (page (k : Int) ((k : Int) + 1)))
  | 0, _, k, h => by omega
  | i + 1, hi, k, h => by
    have hl := (bg_is i (by omega)).2.2.2.1
    rw [bg_succ]
    by_cases e : i = k
    · subst e
      rw [List.getElem?_set_self (by rw [hl]; omega)]
    · rw [List.getElem?_set_ne e]
      exact bg_now i (by omega) k (by omega)
theorem sync_is {X : DevX} (h1 : X.off = false) (h2 : X.fused = false) (h4 : X.now.length = 5) (h5 : X.ops = ((4 : Nat) : Int)) (h6 : X.head = 0) (h7 : X.log = []) (h8 : X.wr = 4) : (DevP.done (DevP.synced X)).off = false ∧ (DevP.done (DevP.synced X)).fused = false ∧ (DevP.done (DevP.synced X)).safe.length = 5 ∧ (DevP.done (DevP.synced X)).now.length = 5 ∧ (DevP.done (DevP.synced X)).ops = 5 ∧ (DevP.done (DevP.synced X)).head = 0 ∧ (DevP.done (DevP.synced X)).log = [] ∧ (DevP.done (DevP.synced X)).wr = 4 :=
  ⟨h1, h2, h4, h4, by show X.ops + 1 = 5; rw [h5]; rfl, h6, h7, h8⟩
theorem beg_now {k : Nat} (h : k < 4) : begX.now[k]? = some (PageP.sealed (page (k : Int) ((k : Int) + 1))) := by
  have hs : ∀ X : DevX, (DevP.done (DevP.synced X)).now = X.now := fun _ => rfl
  unfold begX
  rw [hs]
  exact bg_now 4 (by omega) k h
theorem beg_is : begX.off = false ∧ begX.fused = false ∧ begX.safe.length = 5 ∧ begX.now.length = 5 ∧ begX.ops = 5 ∧ begX.head = 0 ∧ begX.log = [] ∧ begX.wr = 4 := by
  obtain ⟨h1, h2, h3, h4, h5, h6, h7, h8⟩ := bg_is 4 (by omega)
  exact sync_is h1 h2 h4 h5 h6 h7 h8
theorem beg_small : DevP.Small begX := by
  obtain ⟨h1, h2, h3, h4, h5, h6, h7, h8⟩ := beg_is
  exact ⟨by rw [h5]; omega, by rw [h6, h7]; show (0 : Int) + (0 : Nat) ≤ _; omega, by rw [h8]; omega⟩
theorem room_done {X : DevX} {k : Nat} (hk : k ≤ 1000000) (h5 : X.ops = 5) (h6 : X.head = 0) (h7 : X.log = []) (h8 : X.wr = 4) : PoolP.Room k (DevP.done X) :=
  ⟨by show X.ops + 1 + (k : Int) ≤ _; rw [h5]; omega, by show X.head + (X.log.length : Int) ≤ _; rw [h6, h7]; show (0 : Int) + (0 : Nat) ≤ _; omega, by show X.wr + k ≤ _; rw [h8]; omega⟩
theorem beg_room {k : Nat} (hk : k ≤ 1000000) : PoolP.Room k (DevP.done begX) := by
  obtain ⟨h1, h2, h3, h4, h5, h6, h7, h8⟩ := beg_is
  exact room_done hk h5 h6 h7 h8
section
variable {D : DevX} {far n k pins : Int} {X Y : List UInt8} {b : Bool}
theorem set_one (hY : NumP.val Y 12 2 = k) : PoolP.set ⟨D, far, n, [⟨k, X, b, pins⟩]⟩ k Y = (⟨D, far, n, [⟨k, Y, true, pins⟩]⟩, 0) := by
  have hf : PoolP.find [(⟨k, X, b, pins⟩ : Fr)] k = some 0 := by simp [PoolP.find]
  rw [PoolP.set_some (s := ⟨D, far, n, [⟨k, X, b, pins⟩]⟩) hf (f := ⟨k, X, b, pins⟩) rfl, if_pos hY]
  rfl
theorem pin_one : PoolP.pin ⟨D, far, n, [⟨k, X, b, pins⟩]⟩ k = (⟨D, far, n, [⟨k, X, b, pins + 1⟩]⟩, 0) := by
  have hf : PoolP.find [(⟨k, X, b, pins⟩ : Fr)] k = some 0 := by simp [PoolP.find]
  rw [PoolP.pin_some (s := ⟨D, far, n, [⟨k, X, b, pins⟩]⟩) hf (f := ⟨k, X, b, pins⟩) rfl]
  rfl
end
end Go.Proofs.YtcfieofcnpalgaaGreat.Law20
namespace Go.Proofs.YtcfieofcnpalgaaGreat.poolPins
open Go.RowKit PoolW Law20
set_option linter.unusedVariables false
set_option linter.unusedSimpArgs false
attribute [local go_sem ↓] ldPage_fold stPage_fold bdPage_fold alPage_fold
set_option maxRecDepth 100000 in
set_option maxHeartbeats 8000000 in
theorem walk_main (n no pins : Int) (A : Option Addr) (nl c : Nat) (l : List StepP) (w : World) (hE : Hid (Elems StepPE w w.heap.size A nl c l)) (hl : nl ≤ 60) (h0 : 0 ≤ no) (h1 : no ≤ 255) (h2 : 0 ≤ pins) (h3 : pins ≤ 255) : Calls Tryz.prog 4 #[.int .i64 n, .int .u8 no, .int .u8 pins, .slice A nl c] w fun e w' => e = .returned (.bool true) ∧ Below w.heap.size w w' := by
  have hal := fun W => run_al (P := Tryz.prog) arrPage W
  have HZ := Lib.hid (PageN.zeros_len 512)
  have hd : decide ((60 : Int) < (nl : Int)) = false := decide_eq_false (by omega)
  go_enter Tryz.func4, Tryz.ntmps4
  go_wp2_with fail
  refine (begin_any w).mono ?_
  rintro e W1 ⟨d, db, Ad, nd, cd, Ae, ne, ce, kd, rfl, hD1, hn1, hb1⟩
  unfold RefDev.devV
  have HD1 := Lib.hid hD1
  have HN1 := Lib.hid hn1
  have HB1 := Lib.hid hb1
  clear hD1 hn1 hb1
  go_wp2_with fail
  obtain ⟨W2, hW2⟩ : ∃ W, W1.alloc (.cells #[.slice Ad nd cd, .slice Ae ne ce, .slice none 0 0, .int .i64 0, .int .i64 0, .int .i64 (-1), .bool false, .int .i64 kd] 29) = W := ⟨_, rfl⟩
  have hb2 : Below W1.heap.size W1 W2 := by rw [← hW2]; exact balloc (bsame _) _
  have HB2 := Lib.hid (bstep HB1.out hb2)
  have HD2 := Lib.hid (HD1.out.below hb2)
  have hz2 : W2.heap.size = W1.heap.size + 1 := by rw [← hW2]; simp
  try rw [hW2]
  rw [← hz2]
  clear hW2 hb2 HD1 hz2
  obtain ⟨W3, hW3⟩ : ∃ W, W2.alloc (.cells #[.int .i64 1000] 34) = W := ⟨_, rfl⟩
  have hb3 : Below W2.heap.size W2 W3 := by rw [← hW3]; exact balloc (bsame _) _
  have hL3 : Str W3 W2.heap.size #[.int .i64 1000] := by rw [← hW3]; exact Str.new _ _ _
  try rw [hW3]
  have hw2 := HB2.out.size
  have hnd3 : (W2.heap.size :: db).Nodup := List.nodup_cons.2 ⟨fun hm => by have : W2.heap.size < W2.heap.size := HD2.out.lt _ hm; omega, dev_nodup HD2.out⟩
  have HB3 := Lib.hid (bstep HB2.out hb3)
  refine (new_any n d W2.heap.size db begX 1000 W3 (HD2.out.below hb3) hL3 hnd3).mono ?_
  rintro e W4 ⟨p, rfl, hp, hP4, hb4⟩
  have hn0 : 1 ≤ min (max n 1) 64 := by omega
  have hn64 : min (max n 1) 64 ≤ 64 := by omega
  have HK4 : Hid (PK w W4 p d W2.heap.size (p :: W2.heap.size :: db) ⟨begX, 1000, min (max n 1) 64, []⟩) := Lib.hid ⟨hP4, fun b hb => by
    simp only [List.mem_cons] at hb
    have := HB3.out.size
    rcases hb with rfl | rfl | hb
    · omega
    · omega
    · exact HN1.out b hb, bstep HB3.out hb4⟩
  clear hP4 hb4 hp hnd3 hL3 hb3 hW3 HD2 HN1 HB1 HB2 HB3
  generalize min (max n 1) 64 = n1 at *
  generalize p :: W2.heap.size :: db = bs4 at *
  generalize W2.heap.size = lg at *
  obtain ⟨k, hk, hk4⟩ : ∃ k : Nat, no % 4 = (k : Int) ∧ k < 4 := ⟨(no % 4).toNat, by omega, by omega⟩
  go_wp2_with fail
  rw [hk]
  clear hk
  obtain ⟨x1, x2, x3, x4, x5, -, -, -⟩ := beg_is
  have hge := PoolP.get_first (far := 1000) hn0 (by rw [x3]; omega) x1 x2 (beg_now hk4) (PoolP.right_page (v := (k : Int) + 1) (by omega) (by omega))
  have hXG : PoolP.Good (k : Int) ((k : Int) + 1) (PageP.sealed (page (k : Int) ((k : Int) + 1))) := PoolP.good_sealed
  have HXG := Lib.hid hXG
  clear x1 x2 x3 x4 x5
  have hXl := hXG.len
  have hwm : SlotP.over (PageP.sealed (page (k : Int) ((k : Int) + 1))) 16 (BeP.parts 8 77) = PageN.mk (BeP.parts 4 ((CrcP.sum ((page (k : Int) ((k : Int) + 1)).drop 4) : Nat) : Int)) (3 * ((k : Int) + 1)) (k : Int) 77 := by
    rw [show PageP.sealed (page (k : Int) ((k : Int) + 1)) = PageN.mk (BeP.parts 4 ((CrcP.sum ((page (k : Int) ((k : Int) + 1)).drop 4) : Nat) : Int)) (3 * ((k : Int) + 1)) (k : Int) ((k : Int) + 1) from by unfold page; rw [PageN.sealed_mk (PageN.zeros_len 4)], PageN.note_mk (BeP.parts_length 4 _)]
  have hYl : (PageN.mk (BeP.parts 4 ((CrcP.sum ((page (k : Int) ((k : Int) + 1)).drop 4) : Nat) : Int)) (3 * ((k : Int) + 1)) (k : Int) 77).length = 512 := PageN.mk_len (BeP.parts_length 4 _)
  have hYn : NumP.val (PageN.mk (BeP.parts 4 ((CrcP.sum ((page (k : Int) ((k : Int) + 1)).drop 4) : Nat) : Int)) (3 * ((k : Int) + 1)) (k : Int) 77) 12 2 = (k : Int) := PageN.mk_no (BeP.parts_length 4 _) (by omega) (by omega)
  have hYv : NumP.val (PageN.mk (BeP.parts 4 ((CrcP.sum ((page (k : Int) ((k : Int) + 1)).drop 4) : Nat) : Int)) (3 * ((k : Int) + 1)) (k : Int) 77) 16 8 = 77 := PageN.mk_note (BeP.parts_length 4 _) (by unfold In64; omega)
  generalize PageN.mk (BeP.parts 4 ((CrcP.sum ((page (k : Int) ((k : Int) + 1)).drop 4) : Nat) : Int)) (3 * ((k : Int) + 1)) (k : Int) 77 = Y at *
  generalize PageP.sealed (page (k : Int) ((k : Int) + 1)) = X at *
  have HYN := Lib.hid (And.intro hYn hYv)
  clear hYn hYv
  refine (get_any p d lg bs4 ⟨begX, 1000, n1, []⟩ (k : Int) W4 HK4.out.pool beg_small (by rw [(show PoolP.free ⟨begX, 1000, n1, []⟩ = (⟨begX, 1000, n1, []⟩, 0) from by unfold PoolP.free; rw [if_pos (by show ((0 : Nat) : Int) < n1; omega)])]; exact beg_small.1) (by rw [(show PoolP.free ⟨begX, 1000, n1, []⟩ = (⟨begX, 1000, n1, []⟩, 0) from by unfold PoolP.free; rw [if_pos (by show ((0 : Nat) : Int) < n1; omega)])]; show (0 : Nat) ≤ 90; omega) (by unfold In64; omega)).mono ?_
  rintro e W5 hT
  rw [hge] at hT
  obtain ⟨rfl, bs5, hK5⟩ := HK4.out.told hT
  have HK5 := Lib.hid hK5
  clear hT hK5 hge HK4
  have hst := run_st (P := Tryz.prog) arrPage (Str.new W5 (rowV (SlotP.zeros 512)) 42) (by rw [rowV_size]; exact HZ.out) hXl
  obtain ⟨W6, hWn⟩ : ∃ W, (W5.alloc (.cells (rowV (SlotP.zeros 512)) 42)).setRow W5.heap.size (rowV X) = W := ⟨_, rfl⟩
  rw [hWn] at hst
  have hbn : Below W5.heap.size W5 W6 := by rw [← hWn]; exact below_setRow (balloc (bsame _) _) (Nat.le_refl _) _
  have HK6 := Lib.hid (HK5.out.next hbn)
  have HXW6 : Hid (Str W6 W5.heap.size (rowV X)) := Lib.hid (by rw [← hWn]; exact (Str.new _ _ _).setRow)
  clear hWn hbn
  go_wp2_with fail
  clear hst
  refine (code_any 0 W6).mono ?_
  rintro e w' ⟨rfl, rfl⟩
  have hld := run_ld (P := Tryz.prog) arrPage HXW6.out hXl
  have hlx := HXW6.out.lt
  go_wp2_with fail
  clear hld hlx
  refine (PageW.withNote_any X hXl 77 W6).mono ?_
  rintro e W7 ⟨rfl, hb7⟩
  rw [hwm]
  have HK7 := Lib.hid (HK6.out.next hb7)
  clear hb7 HK6 HXW6 hwm hXl HXG
  go_wp2_with fail
  refine (set_any p d lg bs5 _ (k : Int) Y hYl W7 HK7.out.pool).mono ?_
  rintro e W8 hT
  rw [set_one HYN.out.1] at hT
  obtain ⟨rfl, bs8, hK8⟩ := HK7.out.told hT
  have HK8 := Lib.hid hK8
  clear hT hK8 HK7
  go_wp2_with fail
  refine (code_any 0 W8).mono ?_
  rintro e w' ⟨rfl, rfl⟩
  obtain ⟨m, hm, hm1, hm3⟩ : ∃ m : Nat, 1 + pins % 3 = (m : Int) ∧ 1 ≤ m ∧ m ≤ 3 := ⟨(1 + pins % 3).toNat, by omega, by omega, by omega⟩
  have hwr : wrap64 (1 + pins % 3) = (m : Int) := by rw [hm]; exact IntWalk.wrap64_in _ (by omega)
  go_wp2_with fail
  clear hwr hm
  have hroom := Lib.hid (beg_room (k := (60 - 0) * 70) (by omega))
  generalize DevP.done begX = D0 at *
  have HKm : Hid (PK w W8 p d lg bs8 ⟨D0, 1000, n1, [⟨(k : Int), Y, true, ((0 : Nat) : Int)⟩]⟩) := HK8
  clear HK8
  go_loopw [16] (fun iv wr => ∃ (i : Nat) (bs : List Nat), i ≤ m ∧ iv = .int .i64 (i : Int) ∧ Hid (PK w wr p d lg bs ⟨D0, 1000, n1, [⟨(k : Int), Y, true, (i : Int)⟩]⟩)) (fun iv _ => m - (intOf iv).toNat)
  case atStart => exact ⟨0, bs8, by omega, rfl, HKm⟩
  case round =>
    obtain ⟨i, bs, hi, rfl, HK⟩ := hrel
    clear HKm
    by_cases hlt : i < m
    · have hd1 : decide ((i : Int) < (m : Int)) = true := decide_eq_true (by omega)
      have hi100 : (i : Int) ≤ 100000 := by omega
      have hic : ((i + 1 : Nat) : Int) = (i : Int) + 1 := by omega
      have hp100 : ∀ f ∈ ([⟨(k : Int), Y, true, (i : Int)⟩] : List Fr), f.pins ≤ 100000 := fun f hf => by rw [List.mem_singleton.1 hf]; exact hi100
      go_wp2_with fail
      refine (pin_any p d lg bs ⟨D0, 1000, n1, [⟨(k : Int), Y, true, (i : Int)⟩]⟩ (k : Int) wr HK.out.pool hp100).mono ?_
      rintro e W9 hT
      rw [pin_one] at hT
      obtain ⟨rfl, bs9, hK9⟩ := HK.out.told hT
      have HK9 : Hid (PK w W9 p d lg bs9 ⟨D0, 1000, n1, [⟨(k : Int), Y, true, ((i + 1 : Nat) : Int)⟩]⟩) := Lib.hid (by rw [hic]; exact hK9)
      clear hT hK9 HK
      go_wp2_with fail
      refine (code_any 0 W9).mono ?_
      rintro e w' ⟨rfl, rfl⟩
      go_wp2
      go_roundw
      case rel => exact ⟨i + 1, bs9, by omega, by go_num, HK9⟩
      case measure => simp [intOf]; omega
    · have hd1 : decide ((i : Int) < (m : Int)) = false := decide_eq_false (by omega)
      obtain rfl : i = m := by omega
      have HS : Hid (PK w wr p d lg bs ⟨D0, 1000, n1, [⟨(k : Int), Y, true, (i : Int)⟩]⟩ ∧ PoolP.Fine ((60 - 0) * 70) ⟨D0, 1000, n1, [⟨(k : Int), Y, true, (i : Int)⟩]⟩ ∧ PoolP.Once ([⟨(k : Int), Y, true, (i : Int)⟩] : List Fr) ∧ PoolP.Kept ([⟨(k : Int), Y, true, (i : Int)⟩] : List Fr) (k : Int) Y (i : Int)) :=
        Lib.hid ⟨HK.out, ⟨hroom.out, hn0, hn64, by show ((1 : Nat) : Int) ≤ n1; omega⟩, by simp [PoolP.Once], ⟨⟨(k : Int), Y, true, (i : Int)⟩, by simp, rfl, rfl⟩⟩
      clear HK
      go_wp2_with fail
      clear hroom
      go_loopw [17] (fun iv wr => ∃ (j : Nat) (bs : List Nat) (S : PoolX), j ≤ nl ∧ iv = .int .i64 (j : Int) ∧ Hid (PK w wr p d lg bs S ∧ PoolP.Fine ((60 - j) * 70) S ∧ PoolP.Once S.fs ∧ PoolP.Kept S.fs (k : Int) Y (i : Int))) (fun iv _ => nl - (intOf iv).toNat)
      case atStart => exact ⟨0, bs, _, by omega, rfl, HS⟩
      case round =>
        obtain ⟨j, bs2, S, hj, rfl, HS2⟩ := hrel
        clear HS
        by_cases hltj : j < nl
        · have hd2 : decide ((j : Int) < (nl : Int)) = true := decide_eq_true (by omega)
          have hfin : (60 - j) * 70 = (60 - (j + 1)) * 70 + 70 := by omega
          have HF : Hid (PoolP.Fine ((60 - (j + 1)) * 70 + 70) S) := Lib.hid (hfin ▸ HS2.out.2.1)
          have hj1 : j + 1 ≤ nl := by omega
          clear hfin
          obtain ⟨b, o, x, rfl, hb, -, ⟨hx1, hx2, hx3, hx4⟩, q0, q1, q2⟩ := stepP_at hE.out hltj
          have HB := Lib.hid HS2.out.1.bel
          replace q0 := (HB.out.cell (p := ⟨b, o + j * 3, none⟩) hb).trans q0
          replace q1 := (HB.out.cell (p := ⟨b, o + j * 3 + 1, none⟩) hb).trans q1
          replace q2 := (HB.out.cell (p := ⟨b, o + j * 3 + 2, none⟩) hb).trans q2
          have HK2 := Lib.hid HS2.out.1
          have HO2 := Lib.hid HS2.out.2.2.1
          have HT2 := Lib.hid HS2.out.2.2.2
          clear HS2 HB
          have HIK : Hid (In64 (k : Int)) := Lib.hid (by unfold In64; omega)
          have hi0 : (0 : Int) < (i : Int) := by omega
          by_cases e1 : x.no = (k : Int)
          · have d1 : (x.no == (k : Int)) = true := by simpa using e1
            clear e1
            go_wp2
            go_roundw
            case rel => exact ⟨j + 1, bs2, S, hj1, by go_num, Lib.hid ⟨HK2.out.next (balloc (bsame _) _), HF.out.less (by omega), HO2.out, HT2.out⟩⟩
            case measure => simp [intOf]; omega
          · have d1 : (x.no == (k : Int)) = false := by simpa using e1
            by_cases e2 : x.act = 2
            · have d2 : (x.act == 2) = true := by simpa using e2
              clear e2
              go_wp2_with fail
              obtain ⟨W3, hW3⟩ : ∃ W, wr.alloc (.cells #[.int .i64 x.act, .int .i64 x.no, .int .u8 x.v] 40) = W := ⟨_, rfl⟩
              have hb3 : Below wr.heap.size wr W3 := by rw [← hW3]; exact balloc (bsame _) _
              have HK3 := Lib.hid (HK2.out.next hb3)
              try rw [hW3]
              clear hW3 hb3 q0 q1 q2
              refine (fresh_any p d lg bs2 S x.no W3 HK3.out.pool HF.out.small HF.out.free_len hx2).mono ?_
              rintro e W5 hT
              obtain ⟨rfl, bs5, hK5⟩ := HK3.out.told hT
              have HK5 := Lib.hid hK5
              have HF5 := Lib.hid ((PoolP.Fine.fresh (no := x.no) (k := (60 - (j + 1)) * 70 + 69) HF.out).less (j := (60 - (j + 1)) * 70 + 2) (by omega))
              have HO5 := Lib.hid (PoolP.Once.fresh (no := x.no) HO2.out)
              have HT5 := Lib.hid (PoolP.Kept.fresh (no := x.no) HT2.out hi0 e1)
              clear hT hK5 HK3 HK2 HF HO2 HT2
              generalize (PoolP.fresh S x.no).1 = S5 at *
              obtain ⟨A5, m5, c5, L5, db5, -, hD5, -, -, -⟩ := HK5.out.pool
              have HD5 := Lib.hid hD5
              clear hD5
              go_wp2_with fail
              refine (DevW.ops_any W5 HD5.out).mono ?_
              rintro e W6 ⟨rfl, hb6⟩
              have HK6 := Lib.hid (HK5.out.next hb6)
              clear hb6 HD5
              go_wp2_with fail
              refine (get_any p d lg bs5 S5 (k : Int) W6 HK6.out.pool HF5.out.small HF5.out.free_ops HF5.out.free_len HIK.out).mono ?_
              rintro e W7 hT
              obtain ⟨g1, g2, g3⟩ := PoolP.Kept.got HT5.out HO5.out
              rw [g1] at hT
              obtain ⟨rfl, bs7, hK7⟩ := HK6.out.told hT
              have HK7 := Lib.hid hK7
              have HE7 := Lib.hid g2
              have HS7 := Lib.hid (And.intro (PoolP.Fine.get (no := (k : Int)) HF5.out) (And.intro (PoolP.Once.get (no := (k : Int)) HO5.out) g3))
              clear hT hK7 HK6 g1 g2 g3 HT5 HO5 HF5 HK5
              have hst := run_st (P := Tryz.prog) arrPage (Str.new W7 (rowV (SlotP.zeros 512)) 42) (by rw [rowV_size]; exact HZ.out) hYl
              obtain ⟨W8, hWn⟩ : ∃ W, (W7.alloc (.cells (rowV (SlotP.zeros 512)) 42)).setRow W7.heap.size (rowV Y) = W := ⟨_, rfl⟩
              rw [hWn] at hst
              have hbn : Below W7.heap.size W7 W8 := by rw [← hWn]; exact below_setRow (balloc (bsame _) _) (Nat.le_refl _) _
              have HK8 := Lib.hid (HK7.out.next hbn)
              have HXW8 : Hid (Str W8 W7.heap.size (rowV Y)) := Lib.hid (by rw [← hWn]; exact (Str.new _ _ _).setRow)
              clear hWn hbn
              go_wp2_with fail
              clear hst
              refine (code_any 0 W8).mono ?_
              rintro e w' ⟨rfl, rfl⟩
              have hld := run_ld (P := Tryz.prog) arrPage HXW8.out hYl
              have hlx := HXW8.out.lt
              go_wp2_with fail
              clear hld hlx
              refine (PageW.note_any Y hYl W8).mono ?_
              rintro e W9 ⟨rfl, hb9⟩
              rw [HYN.out.2]
              have HK9 := Lib.hid (HK8.out.next hb9)
              clear hb9 HK8 HXW8 HK7
              obtain ⟨A9, m9, c9, L9, db9, -, hD9, -, -, -⟩ := HK9.out.pool
              have HD9 := Lib.hid hD9
              clear hD9
              go_wp2_with fail
              refine (DevW.ops_any W9 HD9.out).mono ?_
              rintro e W10 ⟨rfl, hb10⟩
              rw [HE7.out]
              have HKA := Lib.hid (HK9.out.next hb10)
              clear hb10 HD9 HK9 HE7
              go_wp2
              go_roundw
              case rel => exact ⟨j + 1, bs7, _, hj1, by go_num, Lib.hid ⟨HKA.out, HS7.out⟩⟩
              case measure => simp [intOf]; omega
            · have d2 : (x.act == 2) = false := by simpa using e2
              clear e2
              by_cases e3 : x.act = 5
              · have d3 : (x.act == 5) = true := by simpa using e3
                clear e3
                go_wp2_with fail
                obtain ⟨W3, hW3⟩ : ∃ W, wr.alloc (.cells #[.int .i64 x.act, .int .i64 x.no, .int .u8 x.v] 40) = W := ⟨_, rfl⟩
                have hb3 : Below wr.heap.size wr W3 := by rw [← hW3]; exact balloc (bsame _) _
                have HK3 := Lib.hid (HK2.out.next hb3)
                try rw [hW3]
                clear hW3 hb3 q0 q1 q2
                refine (flush_any p d lg bs2 S W3 HK3.out.pool (PoolP.Fine.flush_room (k := (60 - (j + 1)) * 70 + 5) HF.out)).mono ?_
                rintro e W5 hT
                obtain ⟨rfl, bs5, hK5⟩ := HK3.out.told hT
                have HK5 := Lib.hid hK5
                have HF5 := Lib.hid ((PoolP.Fine.flush (k := (60 - (j + 1)) * 70 + 5) HF.out).less (j := (60 - (j + 1)) * 70 + 2) (by omega))
                have HO5 := Lib.hid (PoolP.Once.flush HO2.out)
                have HT5 := Lib.hid (PoolP.Kept.flush HT2.out)
                clear hT hK5 HK3 HK2 HF HO2 HT2
                generalize (PoolP.flush S).1 = S5 at *
                obtain ⟨A5, m5, c5, L5, db5, -, hD5, -, -, -⟩ := HK5.out.pool
                have HD5 := Lib.hid hD5
                clear hD5
                go_wp2_with fail
                refine (DevW.ops_any W5 HD5.out).mono ?_
                rintro e W6 ⟨rfl, hb6⟩
                have HK6 := Lib.hid (HK5.out.next hb6)
                clear hb6 HD5
                go_wp2_with fail
                refine (get_any p d lg bs5 S5 (k : Int) W6 HK6.out.pool HF5.out.small HF5.out.free_ops HF5.out.free_len HIK.out).mono ?_
                rintro e W7 hT
                obtain ⟨g1, g2, g3⟩ := PoolP.Kept.got HT5.out HO5.out
                rw [g1] at hT
                obtain ⟨rfl, bs7, hK7⟩ := HK6.out.told hT
                have HK7 := Lib.hid hK7
                have HE7 := Lib.hid g2
                have HS7 := Lib.hid (And.intro (PoolP.Fine.get (no := (k : Int)) HF5.out) (And.intro (PoolP.Once.get (no := (k : Int)) HO5.out) g3))
                clear hT hK7 HK6 g1 g2 g3 HT5 HO5 HF5 HK5
                have hst := run_st (P := Tryz.prog) arrPage (Str.new W7 (rowV (SlotP.zeros 512)) 42) (by rw [rowV_size]; exact HZ.out) hYl
                obtain ⟨W8, hWn⟩ : ∃ W, (W7.alloc (.cells (rowV (SlotP.zeros 512)) 42)).setRow W7.heap.size (rowV Y) = W := ⟨_, rfl⟩
                rw [hWn] at hst
                have hbn : Below W7.heap.size W7 W8 := by rw [← hWn]; exact below_setRow (balloc (bsame _) _) (Nat.le_refl _) _
                have HK8 := Lib.hid (HK7.out.next hbn)
                have HXW8 : Hid (Str W8 W7.heap.size (rowV Y)) := Lib.hid (by rw [← hWn]; exact (Str.new _ _ _).setRow)
                clear hWn hbn
                go_wp2_with fail
                clear hst
                refine (code_any 0 W8).mono ?_
                rintro e w' ⟨rfl, rfl⟩
                have hld := run_ld (P := Tryz.prog) arrPage HXW8.out hYl
                have hlx := HXW8.out.lt
                go_wp2_with fail
                clear hld hlx
                refine (PageW.note_any Y hYl W8).mono ?_
                rintro e W9 ⟨rfl, hb9⟩
                rw [HYN.out.2]
                have HK9 := Lib.hid (HK8.out.next hb9)
                clear hb9 HK8 HXW8 HK7
                obtain ⟨A9, m9, c9, L9, db9, -, hD9, -, -, -⟩ := HK9.out.pool
                have HD9 := Lib.hid hD9
                clear hD9
                go_wp2_with fail
                refine (DevW.ops_any W9 HD9.out).mono ?_
                rintro e W10 ⟨rfl, hb10⟩
                rw [HE7.out]
                have HKA := Lib.hid (HK9.out.next hb10)
                clear hb10 HD9 HK9 HE7
                go_wp2
                go_roundw
                case rel => exact ⟨j + 1, bs7, _, hj1, by go_num, Lib.hid ⟨HKA.out, HS7.out⟩⟩
                case measure => simp [intOf]; omega
              · have d3 : (x.act == 5) = false := by simpa using e3
                clear e3
                go_wp2_with fail
                obtain ⟨W3, hW3⟩ : ∃ W, wr.alloc (.cells #[.int .i64 x.act, .int .i64 x.no, .int .u8 x.v] 40) = W := ⟨_, rfl⟩
                have hb3 : Below wr.heap.size wr W3 := by rw [← hW3]; exact balloc (bsame _) _
                have HK3 := Lib.hid (HK2.out.next hb3)
                try rw [hW3]
                clear hW3 hb3 q0 q1 q2
                refine (get_any p d lg bs2 S x.no W3 HK3.out.pool HF.out.small (PoolP.Fine.free_ops (k := (60 - (j + 1)) * 70 + 69) HF.out) HF.out.free_len hx2).mono ?_
                rintro e W5 hT
                obtain ⟨rfl, bs5, hK5⟩ := HK3.out.told hT
                have HK5 := Lib.hid hK5
                have HF5 := Lib.hid ((PoolP.Fine.get (no := x.no) (k := (60 - (j + 1)) * 70 + 68) HF.out).less (j := (60 - (j + 1)) * 70 + 2) (by omega))
                have HO5 := Lib.hid (PoolP.Once.get (no := x.no) HO2.out)
                have HT5 := Lib.hid (PoolP.Kept.get (no := x.no) HT2.out hi0 e1)
                clear hT hK5 HK3 HK2 HF HO2 HT2
                generalize (PoolP.get S x.no).1 = S5 at *
                obtain ⟨A5, m5, c5, L5, db5, -, hD5, -, -, -⟩ := HK5.out.pool
                have HD5 := Lib.hid hD5
                clear hD5
                go_wp2_with fail
                refine (DevW.ops_any W5 HD5.out).mono ?_
                rintro e W6 ⟨rfl, hb6⟩
                have HK6 := Lib.hid (HK5.out.next hb6)
                clear hb6 HD5
                go_wp2_with fail
                refine (get_any p d lg bs5 S5 (k : Int) W6 HK6.out.pool HF5.out.small HF5.out.free_ops HF5.out.free_len HIK.out).mono ?_
                rintro e W7 hT
                obtain ⟨g1, g2, g3⟩ := PoolP.Kept.got HT5.out HO5.out
                rw [g1] at hT
                obtain ⟨rfl, bs7, hK7⟩ := HK6.out.told hT
                have HK7 := Lib.hid hK7
                have HE7 := Lib.hid g2
                have HS7 := Lib.hid (And.intro (PoolP.Fine.get (no := (k : Int)) HF5.out) (And.intro (PoolP.Once.get (no := (k : Int)) HO5.out) g3))
                clear hT hK7 HK6 g1 g2 g3 HT5 HO5 HF5 HK5
                have hst := run_st (P := Tryz.prog) arrPage (Str.new W7 (rowV (SlotP.zeros 512)) 42) (by rw [rowV_size]; exact HZ.out) hYl
                obtain ⟨W8, hWn⟩ : ∃ W, (W7.alloc (.cells (rowV (SlotP.zeros 512)) 42)).setRow W7.heap.size (rowV Y) = W := ⟨_, rfl⟩
                rw [hWn] at hst
                have hbn : Below W7.heap.size W7 W8 := by rw [← hWn]; exact below_setRow (balloc (bsame _) _) (Nat.le_refl _) _
                have HK8 := Lib.hid (HK7.out.next hbn)
                have HXW8 : Hid (Str W8 W7.heap.size (rowV Y)) := Lib.hid (by rw [← hWn]; exact (Str.new _ _ _).setRow)
                clear hWn hbn
                go_wp2_with fail
                clear hst
                refine (code_any 0 W8).mono ?_
                rintro e w' ⟨rfl, rfl⟩
                have hld := run_ld (P := Tryz.prog) arrPage HXW8.out hYl
                have hlx := HXW8.out.lt
                go_wp2_with fail
                clear hld hlx
                refine (PageW.note_any Y hYl W8).mono ?_
                rintro e W9 ⟨rfl, hb9⟩
                rw [HYN.out.2]
                have HK9 := Lib.hid (HK8.out.next hb9)
                clear hb9 HK8 HXW8 HK7
                obtain ⟨A9, m9, c9, L9, db9, -, hD9, -, -, -⟩ := HK9.out.pool
                have HD9 := Lib.hid hD9
                clear hD9
                go_wp2_with fail
                refine (DevW.ops_any W9 HD9.out).mono ?_
                rintro e W10 ⟨rfl, hb10⟩
                rw [HE7.out]
                have HKA := Lib.hid (HK9.out.next hb10)
                clear hb10 HD9 HK9 HE7
                go_wp2
                go_roundw
                case rel => exact ⟨j + 1, bs7, _, hj1, by go_num, Lib.hid ⟨HKA.out, HS7.out⟩⟩
                case measure => simp [intOf]; omega
        · have hd2 : decide ((j : Int) < (nl : Int)) = false := decide_eq_false (by omega)
          obtain rfl : j = nl := by omega
          have HU : Hid (PK w wr p d lg bs2 S ∧ PoolP.Kept S.fs (k : Int) Y ((i : Int) - ((0 : Nat) : Int))) := Lib.hid ⟨HS2.out.1, by rw [show (i : Int) - ((0 : Nat) : Int) = (i : Int) from by omega]; exact HS2.out.2.2.2⟩
          clear HS2
          go_wp2_with fail
          go_loopw [22] (fun iv wr => ∃ (u : Nat) (bs : List Nat) (S : PoolX), u ≤ i ∧ iv = .int .i64 (u : Int) ∧ Hid (PK w wr p d lg bs S ∧ PoolP.Kept S.fs (k : Int) Y ((i : Int) - (u : Int)))) (fun iv _ => i - (intOf iv).toNat)
          case atStart => exact ⟨0, bs2, S, by omega, rfl, HU⟩
          case round =>
            obtain ⟨u, bs6, S6, hu, rfl, HU6⟩ := hrel
            clear HU
            by_cases hltu : u < i
            · have hd3 : decide ((u : Int) < (i : Int)) = true := decide_eq_true (by omega)
              have hne : (i : Int) - (u : Int) ≠ 0 := by omega
              have he : (i : Int) - (u : Int) - 1 = (i : Int) - ((u + 1 : Nat) : Int) := by omega
              have hu1 : u + 1 ≤ i := by omega
              go_wp2_with fail
              refine (unpin_any p d lg bs6 S6 (k : Int) wr HU6.out.1.pool).mono ?_
              rintro e W7 hT
              obtain ⟨g1, g2, g3⟩ := PoolP.Kept.unpins HU6.out.2 hne
              rw [g1] at hT
              rw [he] at g3
              obtain ⟨rfl, bs7, hK7⟩ := HU6.out.1.told hT
              have HU7 := Lib.hid (And.intro hK7 g3)
              clear hT hK7 g1 g2 g3 hne he HU6
              go_wp2
              go_roundw
              case rel => exact ⟨u + 1, bs7, _, hu1, by go_num, HU7⟩
              case measure => simp [intOf]; omega
            · have hd3 : decide ((u : Int) < (i : Int)) = false := decide_eq_false (by omega)
              obtain rfl : u = i := by omega
              have HKT : Hid (PoolP.Kept S6.fs (k : Int) Y 0) := Lib.hid (by have := HU6.out.2; rw [show (u : Int) - (u : Int) = 0 from by omega] at this; exact this)
              go_wp2_with fail
              refine (unpin_any p d lg bs6 S6 (k : Int) wr HU6.out.1.pool).mono ?_
              rintro e W7 hT
              rw [PoolP.Kept.unpin0 HKT.out] at hT
              obtain ⟨rfl, bs7, hK7⟩ := HU6.out.1.told hT
              have HB7 := Lib.hid hK7.bel
              clear hT hK7 HU6 HKT
              go_wp2_with fail
              refine (live_any W7).mono ?_
              rintro e W8 ⟨rfl, hb8⟩
              have HB8 := Lib.hid (bstep HB7.out hb8)
              clear hb8
              go_wp2
              go_ret
              exact ⟨rfl, HB8.out⟩
set_option maxRecDepth 100000 in
set_option maxHeartbeats 1000000 in
theorem walk_live (n no pins : Int) (A : Option Addr) (nl c : Nat) (w : World) (hl : 60 < nl) : Calls Tryz.prog 4 #[.int .i64 n, .int .u8 no, .int .u8 pins, .slice A nl c] w fun e w' => e = .returned (.bool true) ∧ Below w.heap.size w w' := by
  have hd : decide ((60 : Int) < (nl : Int)) = true := decide_eq_true (by omega)
  go_enter Tryz.func4, Tryz.ntmps4
  go_wp2_with fail
  refine (live_any w).mono ?_
  rintro e W1 ⟨rfl, hb1⟩
  have HB1 := Lib.hid hb1
  clear hb1
  go_wp2
  go_ret
  exact ⟨rfl, HB1.out⟩
theorem walk (v0 v1 v2 v3 : Value) (a0 a1 a2 : Int) (a3 : List StepP) (w : World) (g0 : RInt w v0 a0) (g1 : RU8 w v1 a1) (g2 : RU8 w v2 a2) (g3 : RStepsP w w.heap.size v3 a3) : Calls Tryz.prog 4 #[v0, v1, v2, v3] w fun e w' => e = .returned (.bool true) ∧ Below w.heap.size w w' := by
  obtain ⟨rfl, -⟩ := g0
  obtain ⟨rfl, h1, h2⟩ := g1
  obtain ⟨rfl, h3, h4⟩ := g2
  obtain ⟨A, n, c, rfl, hE⟩ := g3
  by_cases h : 60 < n
  · exact walk_live a0 a1 a2 A n c w h
  · exact walk_main a0 a1 a2 A n c a3 w (Lib.hid hE) (by omega) h1 h2 h3 h4
end Go.Proofs.YtcfieofcnpalgaaGreat.poolPins
end
section
namespace Go.Proofs.YtcfieofcnpalgaaGreat
open Go.RowKit Go.Maps
set_option linter.unusedVariables false
set_option linter.unusedSimpArgs false
namespace DevW
/-- the parts of an append to the log -/
structure Add where
  N : Nat
  d : Nat
  box : Array Value
  gb : Option Nat
  A : Option Addr
  n : Nat
  c : Nat
  log : List UInt8
  m : Nat
  l2 : List UInt8
def Add.Row (I : Add) (w : World) (A' : Option Addr) (c' : Nat) : Prop := ∃ gb', OwnS w gb' A' (I.n + I.m) c' (I.log ++ I.l2) ∧ (gb' = I.gb ∨ ∃ g, gb' = some g ∧ I.N ≤ g)
def Add.S (I : Add) : Reg.LS := fun k b a w => match k with
  | 0 => Str w I.d I.box ∧ OwnS w I.gb I.A I.n I.c I.log
  | 1 => a.eval (.tmp 12) = .slice I.A I.n I.c ∧ Str w I.d I.box ∧ OwnS w I.gb I.A I.n I.c I.log
  | 2 => ∃ A' c', a.eval (.tmp 17) = .slice A' (I.n + I.m) c' ∧ Str w I.d I.box ∧ I.Row w A' c'
  | _ => ∃ A' c', Str w I.d (I.box.setIfInBounds 2 (.slice A' (I.n + I.m) c')) ∧ I.Row w A' c'
section
variable {I : Add} {a : Act} {w w' : World} {b : Bool} {dst : Option Tmp} {v : Value}
theorem Add.Row.next {A' : Option Addr} {c' : Nat} (h : I.Row w A' c') (hb : Below w.heap.size w w') : I.Row w' A' c' := by
  obtain ⟨gb', h1, h2⟩ := h
  exact ⟨gb', h1.next hb, h2⟩
end
variable {d sb mb : Nat} {bp bs : List Nat} {gb : Option Nat} {A : Option Addr} {n c nm : Nat} {es : List (Int × SlV)} {X : DevX}
attribute [local go_sem ↓] app_fold alJob_fold bdJob_fold stJob_fold
end DevW
end Go.Proofs.YtcfieofcnpalgaaGreat
end
