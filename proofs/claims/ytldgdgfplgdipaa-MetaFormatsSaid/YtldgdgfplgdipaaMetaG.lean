/-
  Texts of one claim, joined: RegC, RegP, Reader, PMeta, Meta, Live05, MetaNew, RefMetaNew, OpenCf.
-/
import Derived.Test.YtldgdgfplgdipaaReg
import Derived.Test.YtldgdgfplgdipaaBox
import Derived.Test.YtldgdgfplgdipaaStr
import Derived.Test.YtldgdgfplgdipaaNum
import Derived.Test.YtldgdgfplgdipaaCut
import Derived.Test.YtldgdgfplgdipaaPNum
import Derived.Test.YtldgdgfplgdipaaPage
import Derived.Test.YtldgdgfplgdipaaRefGG
import Derived.Test.YtldgdgfplgdipaaCellPut
import Derived.Lib.SlBytesConst
import Derived.Test.YtldgdgfplgdipaaOpen
namespace Go.Proofs.Ytldgdgfplgdipaa.Reg
open Go.RowKit

/-- a word under a condition; nothing else -/
def when {R : Way} (C : Prop) (p : SP R) : SP R := ⟨fun v w => (C → p.pred v w) ∧ (¬ C → v = undef), fun _ _ _ hb h => ⟨fun hC => p.st _ _ _ hb (h.1 hC), h.2⟩⟩
/-- one word, at place j -/
def only {R : Way} (j : Nat) (p : SP R) : List (SP R) := List.replicate j any ++ [p]
theorem predAt_only {R : Way} (j : Nat) (p : SP R) (v : Value) (w : World) : predAt (only j p) j v w = p.pred v w := by
  simp [predAt, only]
section
variable {R : Way} {P : Program} {ops : Array Oper} {Q : Exit → Act → World → Prop} {T : List (SP R)} {a0 a : Act} {W w : World} {j : Nat} {o : Oper}
theorem obl_when {C : Prop} {p : SP R} {g d : Nat} {b c : Bool} {D : Prop} (hg : o.guard = some (g, b)) (hd : (ops[g]?).bind (·.dst) = some d) (he : (D → a.eval (.tmp d) = .bool c) ∧ (¬ D → a.eval (.tmp d) = undef)) (hT : T[j]? = some (when C p)) (hC : C ↔ D ∧ c = b)
    (h : C → o.wp P a w (Done (only j p) j o a w) Q) :
    (Region.wanted o (yielded ops a.tmps) = true → o.wp P a w (Done T j o a w) Q) ∧ (Region.wanted o (yielded ops a.tmps) = false → predAt T j undef w) := by
  refine ⟨fun hw => ?_, fun hw => ?_⟩
  · have hCC : C := by
      rcases Classical.em D with hD | hD
      · refine hC.2 ⟨hD, ?_⟩
        simpa [Region.wanted, hg, yields_of hd (he.1 hD)] using hw
      · exfalso
        have hu := he.2 hD
        have hy : yielded ops a.tmps g = none := by
          unfold yielded
          rw [hd]
          simp only [Act.eval, Array.getD_eq_getD_getElem?] at hu
          simp only [Option.bind_some]
          cases hx : a.tmps[d]? with
          | none => rfl
          | some v =>
            rw [hx] at hu
            have h2 : v = undef := hu
            subst h2
            rfl
        simp [Region.wanted, hg, hy] at hw
    refine Oper.wp_mono (fun a' w' ⟨v, e, hz, hp, hb⟩ => ⟨v, e, hz, ?_, hb⟩) (h hCC)
    rw [predAt_only] at hp
    unfold predAt
    rw [hT]
    exact ⟨fun _ => hp, fun hn => absurd hCC hn⟩
  · unfold predAt
    rw [hT]
    refine ⟨fun hCC => ?_, fun _ => rfl⟩
    obtain ⟨hD, hcb⟩ := hC.1 hCC
    exfalso
    simp [Region.wanted, hg, yields_of hd (he.1 hD), hcb] at hw
theorem obl_may {p : SP R} {g d : Nat} {b c : Bool} (hg : o.guard = some (g, b)) (hd : (ops[g]?).bind (·.dst) = some d) (he : a.eval (.tmp d) = .bool c) (hT : T[j]? = some (when (c = b) p))
    (h : c = b → o.wp P a w (Done (only j p) j o a w) Q) :
    (Region.wanted o (yielded ops a.tmps) = true → o.wp P a w (Done T j o a w) Q) ∧ (Region.wanted o (yielded ops a.tmps) = false → predAt T j undef w) :=
  obl_when (D := True) hg hd ⟨fun _ => he, fun h => absurd trivial h⟩ hT ⟨fun h => ⟨trivial, h⟩, fun h => h.2⟩ h
theorem obl_deep {p : SP R} {D : Prop} {g d : Nat} {b c : Bool} (hg : o.guard = some (g, b)) (hd : (ops[g]?).bind (·.dst) = some d) (he : (D → a.eval (.tmp d) = .bool c) ∧ (¬ D → a.eval (.tmp d) = undef)) (hT : T[j]? = some (when (D ∧ c = b) p))
    (h : D ∧ c = b → o.wp P a w (Done (only j p) j o a w) Q) :
    (Region.wanted o (yielded ops a.tmps) = true → o.wp P a w (Done T j o a w) Q) ∧ (Region.wanted o (yielded ops a.tmps) = false → predAt T j undef w) :=
  obl_when (D := D) hg hd he hT Iff.rfl h
end
end Go.Proofs.Ytldgdgfplgdipaa.Reg
namespace Go.Proofs.Ytldgdgfplgdipaa.Reg
open Go.RowKit

/-- nothing that was there turns, but block g, which may become o -/
def putW (g : Nat) (o : Obj) : Way where
  rel w w' := w'.os = w.os ∧ w'.tape = w.tape ∧ w'.output = w.output ∧ w.heap.size ≤ w'.heap.size ∧ (g < w.heap.size → (∀ k, k < w.heap.size → k ≠ g → w'.heap[k]? = w.heap[k]?) ∧ (w'.heap[g]? = w.heap[g]? ∨ w'.heap[g]? = some o))
  refl w := ⟨rfl, rfl, rfl, Nat.le_refl _, fun _ => ⟨fun _ _ _ => rfl, .inl rfl⟩⟩
  trans a b c h k := ⟨k.1.trans h.1, k.2.1.trans h.2.1, k.2.2.1.trans h.2.2.1, Nat.le_trans h.2.2.2.1 k.2.2.2.1, fun hg => by
    have h1 := h.2.2.2.2 hg
    have k1 := k.2.2.2.2 (Nat.lt_of_lt_of_le hg h.2.2.2.1)
    refine ⟨fun i hi hne => (k1.1 i (Nat.lt_of_lt_of_le hi h.2.2.2.1) hne).trans (h1.1 i hi hne), ?_⟩
    rcases k1.2 with e | e
    · rw [e]
      exact h1.2
    · exact .inr e⟩
  drew w := ⟨rfl, rfl, rfl, Nat.le_refl _, fun _ => ⟨fun _ _ _ => rfl, .inl rfl⟩⟩
/-- it is written -/
def written (g : Nat) (o : Obj) : SP (putW g o) := ⟨fun _ w => w.heap[g]? = some o, fun _ w w' h he => by
  have hl := (Array.getElem?_eq_some_iff.1 he).1
  rcases (h.2.2.2.2 hl).2 with e | e
  · rw [e]
    exact he
  · exact e⟩
theorem put_below {g : Nat} {o : Obj} {w w' : World} (h : Below w.heap.size w w') : (putW g o).rel w w' :=
  ⟨h.os, h.tape, h.output, h.size, fun hg => ⟨fun k hk _ => h.block k hk, .inl (h.block g hg)⟩⟩
theorem put_set {g : Nat} {o : Obj} {w w' : World} (h : w.grownBy w' (some g)) (ho : w'.heap[g]? = some o) : (putW g o).rel w w' :=
  ⟨h.os, h.tape, h.output, h.size, fun _ => ⟨fun k hk hne => h.block k hk (by intro e; injection e with e; exact hne e), .inr ho⟩⟩
theorem put_grown {g : Nat} {o : Obj} {w w' : World} (h : (putW g o).rel w w') (hg : g < w.heap.size) : w.grownBy w' (some g) :=
  ⟨h.1, h.2.1, h.2.2.1, h.2.2.2.1, fun k hk hne => (h.2.2.2.2 hg).1 k hk (by intro e; exact hne (by rw [e]))⟩
/-- the box, in between -/
theorem put_str {g : Nat} {cs cs' : Array Value} {t : TypeId} {w w' : World} (h : (putW g (.cells cs' t (0, 0))).rel w w') (hw : w.heap[g]? = some (.cells cs t (0, 0))) : w'.heap[g]? = some (.cells cs t (0, 0)) ∨ w'.heap[g]? = some (.cells cs' t (0, 0)) := by
  have hg := (Array.getElem?_eq_some_iff.1 hw).1
  rcases (h.2.2.2.2 hg).2 with e | e
  · exact .inl (e.trans hw)
  · exact .inr e
theorem putW_other {g b : Nat} {cs : Array Value} {o : Obj} {w w' : World} (h : (putW g o).rel w w') (hg : g < w.heap.size) (hs : Str w b cs) (hne : b ≠ g) : Str w' b cs := hs.grown (put_grown h hg) hne
theorem put_cell {g : Nat} {o : Obj} {W w : World} (h : (putW g o).rel W w) (hg : g < W.heap.size) : ∀ b k, b < W.heap.size → b ≠ g → w.cell? ⟨b, k, none⟩ = W.cell? ⟨b, k, none⟩ :=
  fun b k hb hne => World.cell?_of_block (a := ⟨b, k, none⟩) ((h.2.2.2.2 hg).1 b hb hne)
/-- how a box stands whose fields are all written -/
theorem setStr_heap {w : World} {b : Nat} {cs : Array Value} {t : TypeId} (h : w.heap[b]? = some (.cells cs t (0, 0))) (i : Nat) (v : Value) : (w.setCell ⟨b, i, none⟩ v).heap[b]? = some (.cells (cs.setIfInBounds i v) t (0, 0)) := by
  have hl := (Array.getElem?_eq_some_iff.1 h).1
  simp [World.setCell, Array.getElem?_modify, h]
end Go.Proofs.Ytldgdgfplgdipaa.Reg
namespace Go.Proofs.Ytldgdgfplgdipaa
open Go.RowKit

/-- a reader: what is ahead, and whether it is bad -/
def Rd (w : World) (b : Nat) (l : List UInt8) (bad : Bool) : Prop := ∃ A n c, Str w b #[.slice A n c, .bool bad] ∧ Bytes w b A n c l
theorem Rd.lt {w : World} {b : Nat} {l : List UInt8} {bad : Bool} (h : Rd w b l bad) : b < w.heap.size := by
  obtain ⟨A, n, c, hs, -⟩ := h
  exact hs.lt
theorem Rd.below {w w' : World} {b : Nat} {l : List UInt8} {bad : Bool} (h : Rd w b l bad) (hb : Below w.heap.size w w') : Rd w' b l bad := by
  obtain ⟨A, n, c, hs, hy⟩ := h
  exact ⟨A, n, c, hs.next hb, hy.keep fun p hp => hb.cell (Nat.lt_trans hp hs.lt)⟩
theorem grownSome {w w1 : World} {g : Nat} (h : w.grownBy w1 (some g)) : w.heap.size ≤ w1.heap.size := h.size
theorem Str.near {w w1 : World} {B b : Nat} {cs : Array Value} (h : Str w b cs) (hg : w.grownBy w1 (some B)) (hne : b ≠ B) : Str w1 b cs := h.grown hg hne
theorem grown_below_or {w w1 : World} {g : Nat} (hg : w.grownBy w1 (some g)) : Below g w w1 ∨ w.heap.size ≤ g := by
  rcases Nat.lt_or_ge g w.heap.size with h | h
  · exact .inl ⟨hg.os, hg.tape, hg.output, hg.size, fun k hk => hg.block k (by omega) (by intro e; injection e; omega)⟩
  · exact .inr h
end Go.Proofs.Ytldgdgfplgdipaa
namespace Go.Proofs.Ytldgdgfplgdipaa.RdP
/-- Num: the number, what is ahead then, bad -/
def numV (l : List UInt8) (bad : Bool) (width : Nat) : Int := if bad then 0 else NumP.val l 0 width
def numL (l : List UInt8) (bad : Bool) (width : Nat) : List UInt8 := if bad then l else if width ≤ l.length then l.drop width else []
def numB (l : List UInt8) (bad : Bool) (width : Nat) : Bool := if bad then true else !decide (width ≤ l.length)
/-- take -/
def takeB (l : List UInt8) (bad : Bool) (k : Int) : Bool := bad || !(decide (0 ≤ k) && decide (k ≤ (l.length : Int)))
def takeL (l : List UInt8) (bad : Bool) (k : Int) : List UInt8 := if bad then l else if takeB l bad k then [] else l.drop k.toNat
def takeH (l : List UInt8) (bad : Bool) (k : Int) : List UInt8 := if takeB l bad k then [] else l.take k.toNat
end Go.Proofs.Ytldgdgfplgdipaa.RdP
namespace Go.Proofs.Ytldgdgfplgdipaa.RdW
open Go.RowKit
attribute [local go_sem ↓] cut_fold

end Go.Proofs.Ytldgdgfplgdipaa.RdW
namespace Go.Proofs.Ytldgdgfplgdipaa.NumP
theorem num_inj : ∀ (n : Nat) (x y : List UInt8), x.length = n → y.length = n → num x = num y → x = y
  | 0, x, y, hx, hy, _ => by
    rw [List.eq_nil_of_length_eq_zero hx, List.eq_nil_of_length_eq_zero hy]
  | n + 1, x, y, hx, hy, h => by
    rcases List.eq_nil_or_concat x with rfl | ⟨a, c, rfl⟩
    · simp at hx
    rcases List.eq_nil_or_concat y with rfl | ⟨b, d, rfl⟩
    · simp at hy
    simp only [List.concat_eq_append, List.length_append, List.length_cons, List.length_nil] at hx hy h ⊢
    rw [num_snoc, num_snoc] at h
    have hc := c.toNat_lt
    have hd := d.toNat_lt
    have h1 : num a = num b := by omega
    have h2 : c.toNat = d.toNat := by omega
    rw [num_inj n a b (by omega) (by omega) h1, UInt8.toNat_inj.1 h2]
theorem u64_toI (u : Nat) (h : u < 18446744073709551616) : BeP.u64 (toI u) = u := by
  unfold BeP.u64 toI
  split <;> omega
theorem parts_back (x : List UInt8) (h : x.length = 8) : BeP.parts 8 (toI (num x)) = x :=
  num_inj 8 _ _ (BeP.parts_length _ _) h (by rw [num_parts8, u64_toI _ (num_lt8 x (by omega))])
theorem parts_val (l : List UInt8) (a : Nat) (h : a + 8 ≤ l.length) : BeP.parts 8 (val l a 8) = (l.drop a).take 8 := by
  rw [val, if_pos h, parts_back _ (by simp; omega)]
theorem val_nonneg (l : List UInt8) (a w : Nat) (h : w ≤ 7) : 0 ≤ val l a w ∧ val l a w < 72057594037927936 := by
  unfold val
  split
  · have := num_lt7 ((l.drop a).take w) (by simp; omega)
    rw [toI_small _ (by omega)]
    omega
  · omega
theorem val_small (l : List UInt8) (a w : Nat) (h : w ≤ 2) : 0 ≤ val l a w ∧ val l a w ≤ 65535 := by
  unfold val
  split
  · have h1 := num_lt ((l.drop a).take w)
    have h2 : ((l.drop a).take w).length = w := by simp; omega
    rw [h2] at h1
    have h3 : 256 ^ w ≤ 256 ^ 2 := Nat.pow_le_pow_right (by omega) h
    rw [toI_small _ (by omega)]
    omega
  · omega
theorem val_byte (l : List UInt8) (a : Nat) (h : a < l.length) : val l a 1 = (l[a].toNat : Int) := by
  unfold val
  rw [if_pos (by omega), List.drop_eq_getElem_cons h, List.take_succ_cons, List.take_zero]
  have := l[a].toNat_lt
  rw [toI_small _ (by simp [num, nstep]; omega)]
  simp [num, nstep]
end Go.Proofs.Ytldgdgfplgdipaa.NumP
namespace Go.Proofs.Ytldgdgfplgdipaa.RdP
theorem val_part (l : List UInt8) (a k w : Nat) (hl : a + k ≤ l.length) (hw : w ≤ k) : NumP.val ((l.drop a).take k) 0 w = NumP.val l a w := by
  unfold NumP.val
  rw [if_pos (by simp; omega), if_pos (by omega), List.drop_zero, List.take_take, Nat.min_eq_left hw]
theorem numV_part (l : List UInt8) (a k w : Nat) (hl : a + k ≤ l.length) (hw : w ≤ k) : numV ((l.drop a).take k) false w = NumP.val l a w := val_part l a k w hl hw
theorem numL_part (l : List UInt8) (a k w : Nat) (hl : a + k ≤ l.length) (hw : w ≤ k) : numL ((l.drop a).take k) false w = (l.drop (a + w)).take (k - w) := by
  unfold numL
  rw [if_neg (by simp), if_pos (by simp; omega), List.drop_take, List.drop_drop]
theorem numB_part (l : List UInt8) (a k w : Nat) (hl : a + k ≤ l.length) (hw : w ≤ k) : numB ((l.drop a).take k) false w = false := by
  unfold numB
  simp
  omega
end Go.Proofs.Ytldgdgfplgdipaa.RdP
namespace Go.Proofs.Ytldgdgfplgdipaa.MetaP
theorem wrap_id (x : Int) (h1 : -9223372036854775808 ≤ x) (h2 : x ≤ 9223372036854775807) : IntKind.i64.wrap x = x := by
  simp only [IntKind.wrap, IntKind.bits, IntKind.signed]
  simp
  omega
def within (n least most : Int) : Bool := decide (least ≤ n) && decide (n ≤ most)
/-- may the layout be? -/
def right (b p f c l : Int) : Bool := within b 1 16 && (within p (b + 1) 1024 && (within f 4 64 && (within c 1 16 && within l 4 1024)))
def check (b p f c l : Int) : Int := if right b p f c l then 0 else 1
theorem within_iff (n a b : Int) : within n a b = true ↔ a ≤ n ∧ n ≤ b := by simp [within]
theorem check_ne (b p f c l : Int) : (check b p f c l != 0) = !right b p f c l := by
  unfold check
  cases right b p f c l <;> rfl
/-- what stands in a page is no layout -/
def bad (x : List UInt8) : Bool := (((NumP.val x 12 2 != 0) || (NumP.val x 16 1 != 0)) || (check (NumP.val x 17 1) (NumP.val x 18 2) (NumP.val x 20 1) (NumP.val x 21 1) (NumP.val x 22 2) != 0)) || !within (NumP.val x 14 2) (NumP.val x 17 1 + 1) (NumP.val x 18 2)
def cb (x : List UInt8) : Int := if bad x then 0 else NumP.val x 17 1
def cp (x : List UInt8) : Int := if bad x then 0 else NumP.val x 18 2
def cf (x : List UInt8) : Int := if bad x then 0 else NumP.val x 20 1
def cc (x : List UInt8) : Int := if bad x then 0 else NumP.val x 21 1
def cl (x : List UInt8) : Int := if bad x then 0 else NumP.val x 22 2
def used (x : List UInt8) : Int := if bad x then 0 else NumP.val x 14 2
def err (x : List UInt8) : Int := if bad x then 14 else 0
end Go.Proofs.Ytldgdgfplgdipaa.MetaP
namespace Go.Proofs.Ytldgdgfplgdipaa.MetaW
open Go.RowKit
attribute [local go_sem ↓] alPage_fold ldPage_fold stPage_fold bdPage_fold slPage_fold

theorem within_any (n a b : Int) (w : World) : Calls Try.prog 61 #[.int .i64 n, .int .i64 a, .int .i64 b] w fun e w' => e = .returned (.bool (MetaP.within n a b)) ∧ w = w' := by
  unfold MetaP.within
  by_cases h : a ≤ n
  · go_enter Try.func61, Try.ntmps61
    go_wp2
    go_ret
    refine ⟨?_, rfl⟩
    simp [h]
  · go_enter Try.func61, Try.ntmps61
    go_wp2
    go_ret
    refine ⟨?_, rfl⟩
    simp
    omega
theorem code_any (n : Int) (w : World) : Calls Try.prog 21 #[.int .i64 n] w fun e w' => e = .returned (.int .i64 n) ∧ w = w' := by
  go_enter Try.func21, Try.ntmps21
  go_wp2
  go_ret
  exact ⟨rfl, rfl⟩

set_option maxHeartbeats 400000 in
theorem check_any (b p f c l : Int) (w : World) : Calls Try.prog 41 #[.agg #[.int .i64 b, .int .i64 p, .int .i64 f, .int .i64 c, .int .i64 l]] w fun e w' => e = .returned (.int .i64 (MetaP.check b p f c l)) ∧ Below w.heap.size w w' := by
  cases h0 : MetaP.within b 1 16
  case false =>
    have HK : Hid (MetaP.check b p f c l = 1) := Lib.hid (by simp [MetaP.check, MetaP.right, h0])
    rw [HK.out]
    go_enter Try.func41, Try.ntmps41
    go_wp2_with (go_at_call 61; refine (within_any _ _ _ _).mono ?_; rintro e w' ⟨rfl, rfl⟩; first | rw [h0] | rw [h1] | rw [h2] | rw [h3] | rw [h4])
    go_ret
    exact ⟨rfl, balloc (bsame w) _⟩
  case true =>
    have hb := (MetaP.within_iff _ _ _).1 h0
    cases h1 : MetaP.within p (b + 1) 1024
    case false =>
      have HK : Hid (MetaP.check b p f c l = 1) := Lib.hid (by simp [MetaP.check, MetaP.right, h0, h1])
      rw [HK.out]
      go_enter Try.func41, Try.ntmps41
      go_wp2_with (go_at_call 61; refine (within_any _ _ _ _).mono ?_; rintro e w' ⟨rfl, rfl⟩; first | rw [h0] | rw [h1] | rw [h2] | rw [h3] | rw [h4])
      go_ret
      exact ⟨rfl, balloc (bsame w) _⟩
    case true =>
      cases h2 : MetaP.within f 4 64
      case false =>
        have HK : Hid (MetaP.check b p f c l = 1) := Lib.hid (by simp [MetaP.check, MetaP.right, h0, h1, h2])
        rw [HK.out]
        go_enter Try.func41, Try.ntmps41
        go_wp2_with (go_at_call 61; refine (within_any _ _ _ _).mono ?_; rintro e w' ⟨rfl, rfl⟩; first | rw [h0] | rw [h1] | rw [h2] | rw [h3] | rw [h4])
        go_ret
        exact ⟨rfl, balloc (bsame w) _⟩
      case true =>
        cases h3 : MetaP.within c 1 16
        case false =>
          have HK : Hid (MetaP.check b p f c l = 1) := Lib.hid (by simp [MetaP.check, MetaP.right, h0, h1, h2, h3])
          rw [HK.out]
          go_enter Try.func41, Try.ntmps41
          go_wp2_with (go_at_call 61; refine (within_any _ _ _ _).mono ?_; rintro e w' ⟨rfl, rfl⟩; first | rw [h0] | rw [h1] | rw [h2] | rw [h3] | rw [h4])
          go_ret
          exact ⟨rfl, balloc (bsame w) _⟩
        case true =>
          cases h4 : MetaP.within l 4 1024
          case false =>
            have HK : Hid (MetaP.check b p f c l = 1) := Lib.hid (by simp [MetaP.check, MetaP.right, h0, h1, h2, h3, h4])
            rw [HK.out]
            go_enter Try.func41, Try.ntmps41
            go_wp2_with (go_at_call 61; refine (within_any _ _ _ _).mono ?_; rintro e w' ⟨rfl, rfl⟩; first | rw [h0] | rw [h1] | rw [h2] | rw [h3] | rw [h4])
            go_ret
            exact ⟨rfl, balloc (bsame w) _⟩
          case true =>
            have HK : Hid (MetaP.check b p f c l = 0) := Lib.hid (by simp [MetaP.check, MetaP.right, h0, h1, h2, h3, h4])
            rw [HK.out]
            go_enter Try.func41, Try.ntmps41
            go_wp2_with (go_at_call 61; refine (within_any _ _ _ _).mono ?_; rintro e w' ⟨rfl, rfl⟩; first | rw [h0] | rw [h1] | rw [h2] | rw [h3] | rw [h4])
            go_ret
            exact ⟨rfl, balloc (bsame w) _⟩

set_option maxHeartbeats 1000000 in
theorem right_any (b p f c l : Int) (w : World) : Calls Try.prog 23 #[.agg #[.int .i64 b, .int .i64 p, .int .i64 f, .int .i64 c, .int .i64 l]] w fun e w' => e = .returned (.bool (MetaP.right b p f c l)) ∧ Below w.heap.size w w' := by
  by_cases h0 : b < 1
  · have HK : Hid (MetaP.right b p f c l = false) := Lib.hid (by simp [MetaP.right, MetaP.within]; omega)
    rw [HK.out]
    go_enter Try.func23, Try.ntmps23
    go_wp2
    go_ret
    exact ⟨rfl, balloc (bsame w) _⟩
  by_cases h1 : 16 < b
  · have HK : Hid (MetaP.right b p f c l = false) := Lib.hid (by simp [MetaP.right, MetaP.within]; omega)
    rw [HK.out]
    go_enter Try.func23, Try.ntmps23
    go_wp2
    go_ret
    exact ⟨rfl, balloc (bsame w) _⟩
  by_cases h2 : p ≤ b
  · have HK : Hid (MetaP.right b p f c l = false) := Lib.hid (by simp [MetaP.right, MetaP.within]; omega)
    rw [HK.out]
    go_enter Try.func23, Try.ntmps23
    go_wp2
    go_ret
    exact ⟨rfl, balloc (bsame w) _⟩
  by_cases h3 : 1024 < p
  · have HK : Hid (MetaP.right b p f c l = false) := Lib.hid (by simp [MetaP.right, MetaP.within]; omega)
    rw [HK.out]
    go_enter Try.func23, Try.ntmps23
    go_wp2
    go_ret
    exact ⟨rfl, balloc (bsame w) _⟩
  by_cases h4 : 4 ≤ f
  case neg =>
    have HK : Hid (MetaP.right b p f c l = false) := Lib.hid (by simp [MetaP.right, MetaP.within]; omega)
    rw [HK.out]
    go_enter Try.func23, Try.ntmps23
    go_wp2
    go_ret
    exact ⟨rfl, balloc (bsame w) _⟩
  by_cases h5 : f ≤ 64
  case neg =>
    have HK : Hid (MetaP.right b p f c l = false) := Lib.hid (by simp [MetaP.right, MetaP.within]; omega)
    rw [HK.out]
    go_enter Try.func23, Try.ntmps23
    go_wp2
    go_ret
    exact ⟨rfl, balloc (bsame w) _⟩
  by_cases h6 : 1 ≤ c
  case neg =>
    have HK : Hid (MetaP.right b p f c l = false) := Lib.hid (by simp [MetaP.right, MetaP.within]; omega)
    rw [HK.out]
    go_enter Try.func23, Try.ntmps23
    go_wp2
    go_ret
    exact ⟨rfl, balloc (bsame w) _⟩
  by_cases h7 : c ≤ 16
  case neg =>
    have HK : Hid (MetaP.right b p f c l = false) := Lib.hid (by simp [MetaP.right, MetaP.within]; omega)
    rw [HK.out]
    go_enter Try.func23, Try.ntmps23
    go_wp2
    go_ret
    exact ⟨rfl, balloc (bsame w) _⟩
  by_cases h8 : 4 ≤ l
  case neg =>
    have HK : Hid (MetaP.right b p f c l = false) := Lib.hid (by simp [MetaP.right, MetaP.within]; omega)
    rw [HK.out]
    go_enter Try.func23, Try.ntmps23
    go_wp2
    go_ret
    exact ⟨rfl, balloc (bsame w) _⟩
  by_cases h9 : l ≤ 1024
  case neg =>
    have HK : Hid (MetaP.right b p f c l = false) := Lib.hid (by simp [MetaP.right, MetaP.within]; omega)
    rw [HK.out]
    go_enter Try.func23, Try.ntmps23
    go_wp2
    go_ret
    exact ⟨rfl, balloc (bsame w) _⟩
  have HK : Hid (MetaP.right b p f c l = true) := Lib.hid (by simp [MetaP.right, MetaP.within]; omega)
  rw [HK.out]
  go_enter Try.func23, Try.ntmps23
  go_wp2
  go_ret
  exact ⟨rfl, balloc (bsame w) _⟩

end Go.Proofs.Ytldgdgfplgdipaa.MetaW
namespace Go.Proofs.Ytldgdgfplgdipaa.Live05
open Go.RowKit

/-- a list of bytes that the call has just laid -/
theorem lit_bytes (w : World) (l : List UInt8) (C : Array Value) (hC : C = (l.map byteV).toArray) (t : TypeId) (fr : Nat × Nat) (hl : l.length ≤ maxLen) : Bytes (w.alloc (.cells C t fr)) (w.heap.size + 1) (some ⟨w.heap.size, 0, none⟩) l.length l.length l := by
  refine ⟨rfl, Nat.le_refl _, hl, fun _ => ⟨w.heap.size, 0, rfl, by omega, fun j u hu => ?_⟩⟩
  rw [World.cell?_alloc_mark, hC]
  simp [hu]
/-- the page's example -/
def ab : Cell := ⟨1, [97, 98], 0, 0, 0⟩
theorem ab_bytes : ([] ++ CellP.bytes ab == [1, 2, 97, 98]) = true := by decide +kernel
theorem none_code : CellP.code (CellP.right CellP.none) = 1 := by decide +kernel

end Go.Proofs.Ytldgdgfplgdipaa.Live05
namespace Go.Proofs.Ytldgdgfplgdipaa.MetaP
/-- the note of a layout -/
def note (b p f c l : Int) : List UInt8 := [0] ++ BeP.parts 1 b ++ BeP.parts 2 p ++ BeP.parts 1 f ++ BeP.parts 1 c ++ BeP.parts 2 l
theorem note_length (b p f c l : Int) : (note b p f c l).length = 8 := by simp [note, BeP.parts_length]
/-- the page of a layout -/
def page (b p f c l : Int) : List UInt8 := SlotP.over (SlotP.over (SlotP.over (SlotP.zeros 512) 12 (BeP.parts 2 0)) 14 (BeP.parts 2 (b + 1))) 16 (note b p f c l)
def page1 : List UInt8 := SlotP.over (SlotP.zeros 512) 12 (BeP.parts 2 0)
def page2 (b : Int) : List UInt8 := SlotP.over page1 14 (BeP.parts 2 (b + 1))
theorem page1_length : page1.length = 512 := by
  rw [page1, SlotP.over_length _ _ _ (by rw [BeP.parts_length, SlotPut.zeros_len]; omega), SlotPut.zeros_len]
theorem page2_length (b : Int) : (page2 b).length = 512 := by
  rw [page2, SlotP.over_length _ _ _ (by rw [BeP.parts_length, page1_length]; omega), page1_length]
theorem page_length (b p f c l : Int) : (page b p f c l).length = 512 := by
  show (SlotP.over (page2 b) 16 _).length = 512
  rw [SlotP.over_length _ _ _ (by rw [note_length, page2_length]; omega), page2_length]
theorem note_back (b p f c l : Int) : BeP.parts 8 (NumP.val (note b p f c l) 0 8) = note b p f c l := by
  rw [NumP.parts_val _ _ (by rw [note_length]; omega), List.drop_zero, List.take_of_length_le (by rw [note_length]; omega)]
end Go.Proofs.Ytldgdgfplgdipaa.MetaP
namespace Go.Proofs.Ytldgdgfplgdipaa
theorem Str.lit {w : World} {b : Nat} {cs : Array Value} (h : Str w b cs) (l : List UInt8) (hC : cs = (l.map byteV).toArray) (hl : l.length ≤ maxLen) : Bytes w w.heap.size (some ⟨b, 0, none⟩) l.length l.length l :=
  ⟨rfl, Nat.le_refl _, hl, fun _ => ⟨b, 0, rfl, h.lt, fun j u hu => by rw [Nat.zero_add, h.cell, hC]; simp [hu]⟩⟩
end Go.Proofs.Ytldgdgfplgdipaa
namespace Go.Proofs.Ytldgdgfplgdipaa.MetaW
open Go.RowKit
attribute [local go_sem ↓] alPage_fold ldPage_fold stPage_fold bdPage_fold slPage_fold

theorem pageNew (w : World) : Calls Try.prog 35 #[.int .i64 0] w fun e w' => e = .returned (.agg (rowV MetaP.page1)) ∧ Below w.heap.size w w' := PageW.new_any 0 w
theorem pageNext (b : Int) (w : World) : Calls Try.prog 60 #[.agg (rowV MetaP.page1), .int .i64 (b + 1)] w fun e w' => e = .returned (.agg (rowV (MetaP.page2 b))) ∧ Below w.heap.size w w' := PageW.withNext_any _ MetaP.page1_length _ w
theorem pageNote (b p f c l : Int) (w : World) : Calls Try.prog 36 #[.agg (rowV (MetaP.page2 b)), .int .i64 (NumP.val (MetaP.note b p f c l) 0 8)] w fun e w' => e = .returned (.agg (rowV (MetaP.page b p f c l))) ∧ Below w.heap.size w w' := by
  have h := PageW.withNote_any _ (MetaP.page2_length b) (NumP.val (MetaP.note b p f c l) 0 8) w
  rw [MetaP.note_back] at h
  exact h
set_option maxRecDepth 100000 in
set_option maxHeartbeats 2000000 in
theorem new_any (b p f c l : Int) (hb1 : -1000000000 ≤ b) (hb2 : b ≤ 1000000000) (w : World) : Calls Try.prog 40 #[.agg #[.int .i64 b, .int .i64 p, .int .i64 f, .int .i64 c, .int .i64 l]] w fun e w' => e = .returned (.agg (rowV (MetaP.page b p f c l))) ∧ Below w.heap.size w w' := by
  have hal := fun W => run_al (P := Try.prog) arrPage W
  go_enter Try.func40, Try.ntmps40
  go_wp2_with fail
  generalize hW0 : (((w).alloc (.cells #[.int .i64 b, .int .i64 p, .int .i64 f, .int .i64 c, .int .i64 l] 48)).alloc (.cells (rowV (SlotP.zeros 512)) 30)).alloc (.cells #[.int .u8 0] 5) = W0
  have HS0_0 : Hid (Str W0 (w.heap.size) #[.int .i64 b, .int .i64 p, .int .i64 f, .int .i64 c, .int .i64 l]) := Lib.hid (by rw [← hW0]; have := ((Str.new (w) #[.int .i64 b, .int .i64 p, .int .i64 f, .int .i64 c, .int .i64 l] 48).alloc (.cells (rowV (SlotP.zeros 512)) 30)).alloc (.cells #[.int .u8 0] 5); simpa using this)
  have HS1_0 : Hid (Str W0 (w.heap.size + 1) (rowV (SlotP.zeros 512))) := Lib.hid (by rw [← hW0]; have := (Str.new ((w).alloc (.cells #[.int .i64 b, .int .i64 p, .int .i64 f, .int .i64 c, .int .i64 l] 48)) (rowV (SlotP.zeros 512)) 30).alloc (.cells #[.int .u8 0] 5); simpa using this)
  have HS2_0 : Hid (Str W0 (w.heap.size + 1 + 1) #[.int .u8 0]) := Lib.hid (by rw [← hW0]; have := Str.new (((w).alloc (.cells #[.int .i64 b, .int .i64 p, .int .i64 f, .int .i64 c, .int .i64 l] 48)).alloc (.cells (rowV (SlotP.zeros 512)) 30)) #[.int .u8 0] 5; simpa using this)
  have HB_0 : Hid (Below w.heap.size w W0) := Lib.hid (by rw [← hW0]; exact balloc (balloc (balloc (bsame w) _) _) _)
  have hw_0 := HB_0.out.size
  clear hW0
  obtain ⟨f0_0_0, f0_0_1, f0_0_2, f0_0_3, f0_0_4⟩ := str5 HS0_0.out
  have hl0_0 := HS0_0.out.lt
  have hl1_0 := HS1_0.out.lt
  have f2_0_0 := str1 HS2_0.out
  have hl2_0 := HS2_0.out.lt
  clear hal
  have HYx_0 := Lib.hid (HS2_0.out.lit [0] rfl (by decide))
  refine (Be.put_wide _ _ _ _ _ 1 b _ HYx_0.out (Nat.le_refl _) (by omega) (by omega) (by first | omega | decide)).mono ?_
  rintro e W1 ⟨A1, n1, c1, rfl, hy1, hb1⟩
  have HS0_1 := Lib.hid (HS0_0.out.next hb1)
  have HS1_1 := Lib.hid (HS1_0.out.next hb1)
  have HS2_1 := Lib.hid (HS2_0.out.next hb1)
  have HB_1 := Lib.hid (bstep HB_0.out hb1)
  have hw_1 := HB_1.out.size
  have hws_1 := (hb1).size
  have HYx_1 := Lib.hid (HYx_0.out.next hb1)
  clear HYx_0
  clear f0_0_0 f0_0_1 f0_0_2 f0_0_3 f0_0_4 HS0_0 HS1_0 f2_0_0 HS2_0
  clear hb1
  obtain ⟨f0_1_0, f0_1_1, f0_1_2, f0_1_3, f0_1_4⟩ := str5 HS0_1.out
  have hl0_1 := HS0_1.out.lt
  have hl1_1 := HS1_1.out.lt
  have f2_1_0 := str1 HS2_1.out
  have hl2_1 := HS2_1.out.lt
  clear HYx_1
  have HYx_1 := Lib.hid hy1
  clear hy1
  have hn1 := HYx_1.out.len
  simp only [List.length_append, List.length_cons, List.length_nil, BeP.parts_length] at hn1
  subst hn1
  go_wp2_with fail
  refine (Be.put_wide _ _ _ _ _ 2 p _ HYx_1.out (Nat.le_refl _) (by omega) (by omega) (by first | omega | decide)).mono ?_
  rintro e W2 ⟨A2, n2, c2, rfl, hy2, hb2⟩
  have HS0_2 := Lib.hid (HS0_1.out.next hb2)
  have HS1_2 := Lib.hid (HS1_1.out.next hb2)
  have HS2_2 := Lib.hid (HS2_1.out.next hb2)
  have HB_2 := Lib.hid (bstep HB_1.out hb2)
  have hw_2 := HB_2.out.size
  have hws_2 := (hb2).size
  have HYx_2 := Lib.hid (HYx_1.out.next hb2)
  clear HYx_1
  clear f0_1_0 f0_1_1 f0_1_2 f0_1_3 f0_1_4 HS0_1 HS1_1 f2_1_0 HS2_1
  clear hb2
  obtain ⟨f0_2_0, f0_2_1, f0_2_2, f0_2_3, f0_2_4⟩ := str5 HS0_2.out
  have hl0_2 := HS0_2.out.lt
  have hl1_2 := HS1_2.out.lt
  have f2_2_0 := str1 HS2_2.out
  have hl2_2 := HS2_2.out.lt
  clear HYx_2
  have HYx_2 := Lib.hid hy2
  clear hy2
  have hn2 := HYx_2.out.len
  simp only [List.length_append, List.length_cons, List.length_nil, BeP.parts_length] at hn2
  subst hn2
  go_wp2_with fail
  refine (Be.put_wide _ _ _ _ _ 1 f _ HYx_2.out (Nat.le_refl _) (by omega) (by omega) (by first | omega | decide)).mono ?_
  rintro e W3 ⟨A3, n3, c3, rfl, hy3, hb3⟩
  have HS0_3 := Lib.hid (HS0_2.out.next hb3)
  have HS1_3 := Lib.hid (HS1_2.out.next hb3)
  have HS2_3 := Lib.hid (HS2_2.out.next hb3)
  have HB_3 := Lib.hid (bstep HB_2.out hb3)
  have hw_3 := HB_3.out.size
  have hws_3 := (hb3).size
  have HYx_3 := Lib.hid (HYx_2.out.next hb3)
  clear HYx_2
  clear f0_2_0 f0_2_1 f0_2_2 f0_2_3 f0_2_4 HS0_2 HS1_2 f2_2_0 HS2_2
  clear hb3
  obtain ⟨f0_3_0, f0_3_1, f0_3_2, f0_3_3, f0_3_4⟩ := str5 HS0_3.out
  have hl0_3 := HS0_3.out.lt
  have hl1_3 := HS1_3.out.lt
  have f2_3_0 := str1 HS2_3.out
  have hl2_3 := HS2_3.out.lt
  clear HYx_3
  have HYx_3 := Lib.hid hy3
  clear hy3
  have hn3 := HYx_3.out.len
  simp only [List.length_append, List.length_cons, List.length_nil, BeP.parts_length] at hn3
  subst hn3
  go_wp2_with fail
  refine (Be.put_wide _ _ _ _ _ 1 c _ HYx_3.out (Nat.le_refl _) (by omega) (by omega) (by first | omega | decide)).mono ?_
  rintro e W4 ⟨A4, n4, c4, rfl, hy4, hb4⟩
  have HS0_4 := Lib.hid (HS0_3.out.next hb4)
  have HS1_4 := Lib.hid (HS1_3.out.next hb4)
  have HS2_4 := Lib.hid (HS2_3.out.next hb4)
  have HB_4 := Lib.hid (bstep HB_3.out hb4)
  have hw_4 := HB_4.out.size
  have hws_4 := (hb4).size
  have HYx_4 := Lib.hid (HYx_3.out.next hb4)
  clear HYx_3
  clear f0_3_0 f0_3_1 f0_3_2 f0_3_3 f0_3_4 HS0_3 HS1_3 f2_3_0 HS2_3
  clear hb4
  obtain ⟨f0_4_0, f0_4_1, f0_4_2, f0_4_3, f0_4_4⟩ := str5 HS0_4.out
  have hl0_4 := HS0_4.out.lt
  have hl1_4 := HS1_4.out.lt
  have f2_4_0 := str1 HS2_4.out
  have hl2_4 := HS2_4.out.lt
  clear HYx_4
  have HYx_4 := Lib.hid hy4
  clear hy4
  have hn4 := HYx_4.out.len
  simp only [List.length_append, List.length_cons, List.length_nil, BeP.parts_length] at hn4
  subst hn4
  go_wp2_with fail
  refine (Be.put_wide _ _ _ _ _ 2 l _ HYx_4.out (Nat.le_refl _) (by omega) (by omega) (by first | omega | decide)).mono ?_
  rintro e W5 ⟨A5, n5, c5, rfl, hy5, hb5⟩
  have HS0_5 := Lib.hid (HS0_4.out.next hb5)
  have HS1_5 := Lib.hid (HS1_4.out.next hb5)
  have HS2_5 := Lib.hid (HS2_4.out.next hb5)
  have HB_5 := Lib.hid (bstep HB_4.out hb5)
  have hw_5 := HB_5.out.size
  have hws_5 := (hb5).size
  have HYx_5 := Lib.hid (HYx_4.out.next hb5)
  clear HYx_4
  clear f0_4_0 f0_4_1 f0_4_2 f0_4_3 f0_4_4 HS0_4 HS1_4 f2_4_0 HS2_4
  clear hb5
  obtain ⟨f0_5_0, f0_5_1, f0_5_2, f0_5_3, f0_5_4⟩ := str5 HS0_5.out
  have hl0_5 := HS0_5.out.lt
  have hl1_5 := HS1_5.out.lt
  have f2_5_0 := str1 HS2_5.out
  have hl2_5 := HS2_5.out.lt
  clear HYx_5
  have HYx_5 := Lib.hid hy5
  clear hy5
  have hn5 := HYx_5.out.len
  simp only [List.length_append, List.length_cons, List.length_nil, BeP.parts_length] at hn5
  subst hn5
  go_wp2_with fail
  have hq : Bytes W5 W5.heap.size _ _ _ (MetaP.note b p f c l) := HYx_5.out
  refine (NumW.num_any _ _ _ _ 0 8 _ _ hq (by omega) (by omega) (by omega)).mono ?_
  rintro e w' ⟨rfl, rfl⟩
  go_wp2_with fail
  clear HYx_5 hq
  refine Reg.wp_region_tail (R := ext) (W := W5) [Reg.eqv (.agg (rowV MetaP.page1)), Reg.eqv (.pointer (some ⟨w.heap.size, 0, none⟩)), Reg.eqv (.int .i64 b), Reg.eqv (.int .i64 (b + 1)), Reg.eqv (.agg (rowV (MetaP.page2 b))), Reg.eqv (.int .i64 (NumP.val (MetaP.note b p f c l) 0 8)), Reg.eqv (.agg (rowV (MetaP.page b p f c l)))] 39 7 _ [[], [(1, none)], [(33, some 1)], [(34, some 2)], [(32, some 0), (35, some 3)], [(4, none)], [(36, some 4), (37, some 5)]] rfl (by kernel_rfl) (by kernel_rfl) (by rfl) (by rfl) rfl (by kernel_rfl) ?_ [some 32, some 33, some 34, some 35, some 36, some 37, some 38] (by kernel_rfl) ?_
  · refine ⟨?_, ?_, ?_, ?_, ?_, ?_, ?_, trivial⟩
    · intro ax wx hx hs
      refine Reg.obl_free rfl ?_
      go_simp
      refine (pageNew _).mono ?_
      rintro e wy ⟨rfl, hby⟩
      exact Reg.done (Option.some_ne_none _) rfl hby
    · intro ax wx hx hs
      obtain ⟨e1, -⟩ := hs
      have g1 := Reg.ev (v := .pointer (some ⟨w.heap.size, 0, none⟩)) e1
      exact Reg.obl_free rfl (Reg.wp_eqv (Option.some_ne_none _) (by go_simp) rfl)
    · intro ax wx hx hs
      obtain ⟨e33, -⟩ := hs
      have g33 := Reg.ev (v := .pointer (some ⟨w.heap.size, 0, none⟩)) e33
      obtain ⟨hc, -⟩ := bcell hx
      exact Reg.obl_free rfl (Reg.wp_eqv (Option.some_ne_none _) (by go_simp) rfl)
    · intro ax wx hx hs
      obtain ⟨e34, -⟩ := hs
      have g34 := Reg.ev (v := .int .i64 b) e34
      refine Reg.obl_free rfl ?_
      exact Reg.wp_eqv (Option.some_ne_none _) (by go_simp; exact MetaP.wrap_id _ (by omega) (by omega)) rfl
    · intro ax wx hx hs
      obtain ⟨e32, e35, -⟩ := hs
      have g32 := Reg.ev (v := .agg (rowV MetaP.page1)) e32
      have g35 := Reg.ev (v := .int .i64 (b + 1)) e35
      refine Reg.obl_free rfl ?_
      go_simp
      refine (pageNext _ _).mono ?_
      rintro e wy ⟨rfl, hby⟩
      exact Reg.done (Option.some_ne_none _) rfl hby
    · intro ax wx hx hs
      obtain ⟨e4, -⟩ := hs
      have g4 := Reg.ev (v := .int .i64 (NumP.val (MetaP.note b p f c l) 0 8)) e4
      exact Reg.obl_free rfl (Reg.wp_eqv (Option.some_ne_none _) (by go_simp) rfl)
    · intro ax wx hx hs
      obtain ⟨e36, e37, -⟩ := hs
      have g36 := Reg.ev (v := .agg (rowV (MetaP.page2 b))) e36
      have g37 := Reg.ev (v := .int .i64 (NumP.val (MetaP.note b p f c l) 0 8)) e37
      refine Reg.obl_free rfl ?_
      go_simp
      refine (pageNote _ _ _ _ _ _).mono ?_
      rintro e wy ⟨rfl, hby⟩
      exact Reg.done (Option.some_ne_none _) rfl hby
  · intro W6 hwf
    simp only [Reg.Fin]
    rintro _ rfl _ rfl _ rfl _ rfl _ rfl _ rfl _ rfl
    have hwf' : Below W5.heap.size W5 W6 := hwf
    clear hwf
    have HS0_6 := Lib.hid (HS0_5.out.next hwf')
    have HS1_6 := Lib.hid (HS1_5.out.next hwf')
    have HS2_6 := Lib.hid (HS2_5.out.next hwf')
    have HB_6 := Lib.hid (bstep HB_5.out hwf')
    have hw_6 := HB_6.out.size
    have hws_6 := (hwf').size
    clear f0_5_0 f0_5_1 f0_5_2 f0_5_3 f0_5_4 HS0_5 HS1_5 f2_5_0 HS2_5
    clear hwf'
    obtain ⟨f0_6_0, f0_6_1, f0_6_2, f0_6_3, f0_6_4⟩ := str5 HS0_6.out
    have hl0_6 := HS0_6.out.lt
    have hl1_6 := HS1_6.out.lt
    have f2_6_0 := str1 HS2_6.out
    have hl2_6 := HS2_6.out.lt
    have HLP := Lib.hid (MetaP.page_length b p f c l)
    have hst := run_st (P := Try.prog) arrPage HS1_6.out (by rw [rowV_size]; exact SlotPut.zeros_len 512) HLP.out
    have HS7 := Lib.hid (HS1_6.out.setRow (cs' := rowV (MetaP.page b p f c l)))
    have HB7 := Lib.hid (below_setRow HB_6.out (by omega : w.heap.size ≤ w.heap.size + 1) (rowV (MetaP.page b p f c l)))
    clear f0_6_0 f0_6_1 f0_6_2 f0_6_3 f0_6_4 HS0_6 HS1_6 f2_6_0 HS2_6
    refine Reg.Goal.mk ?_
    go_simp
    go_wp2_with fail
    exact bodyPost_ret (v := .agg (rowV (MetaP.page b p f c l))) (results_arr arrPage Try.results40 _ HS7.out HLP.out rfl) rfl ⟨rfl, HB7.out⟩

theorem ex_bytes : (((MetaP.page 2 9 4 3 4).drop 14).take 10 == [0, 3, 0, 2, 0, 9, 4, 3, 0, 4]) = true := by decide +kernel
set_option maxRecDepth 100000 in
set_option maxHeartbeats 1000000 in
theorem live_any (w : World) : Calls Try.prog 19 #[] w fun e w' => e = .returned (.bool true) ∧ Below w.heap.size w w' := by
  have hal := fun W => run_al (P := Try.prog) arrPage W
  have HLP := Lib.hid (MetaP.page_length 2 9 4 3 4)
  go_enter Try.func19, Try.ntmps19
  go_wp2_with fail
  refine (new_any 2 9 4 3 4 (by omega) (by omega) _).mono ?_
  rintro e w1 ⟨rfl, hb1⟩
  have hS := Str.new w1 (rowV (SlotP.zeros 512)) 30
  have hst := run_st (P := Try.prog) arrPage hS (by rw [rowV_size]; exact SlotPut.zeros_len 512) HLP.out
  obtain ⟨W2, hW2⟩ : ∃ W2, (w1.alloc (.cells (rowV (SlotP.zeros 512)) 30)).setRow w1.heap.size (rowV (MetaP.page 2 9 4 3 4)) = W2 := ⟨_, rfl⟩
  have hS2 : Str W2 w1.heap.size (rowV (MetaP.page 2 9 4 3 4)) := by rw [← hW2]; exact hS.setRow
  have hB2 : Below w1.heap.size w1 W2 := by rw [← hW2]; exact below_setRow (balloc (bsame _) _) (Nat.le_refl _) _
  rw [hW2] at hst
  have hP := hS2.part 14 10 498 (by rw [HLP.out]; omega) (by omega) (by unfold maxLen; omega)
  have HP := Lib.hid hP
  have hsl := fun W => run_sl (P := Try.prog) arrPage w1.heap.size 14 24 (by omega) (by omega) (by omega) W
  simp only [Int.cast_ofNat_Int] at hsl
  have HB := Lib.hid (bstep hb1 hB2)
  have HE := Lib.hid ex_bytes
  clear hS hW2 hS2 hB2 hP hb1
  go_wp2_with fail
  refine (Same.same_any _ _ _ _ _ _ _ _ _ [0, 3, 0, 2, 0, 9, 4, 3, 0, 4] _ (HP.out.alloc (Nat.le_refl _) _) (Live05.lit_bytes W2 [0, 3, 0, 2, 0, 9, 4, 3, 0, 4] _ rfl _ _ (by decide))).mono ?_
  rintro e w3 ⟨rfl, rfl⟩
  rw [HE.out]
  go_wp2_with fail
  go_ret
  exact ⟨rfl, balloc HB.out _⟩
end Go.Proofs.Ytldgdgfplgdipaa.MetaW
namespace Go.Proofs.Ytldgdgfplgdipaa.RefMeta
open Go.RowKit
set_option linter.unusedVariables false
set_option linter.unusedSimpArgs false
attribute [local go_sem ↓] app_fold
set_option maxRecDepth 100000 in
set_option maxHeartbeats 1000000 in
theorem note_any (b p f c l : Int) (w : World) : Calls Try.prog 46 #[.agg #[.int .i64 b, .int .i64 p, .int .i64 f, .int .i64 c, .int .i64 l]] w (GivesBytes w (MetaP.note b p f c l)) := by
  obtain ⟨W0, hW0⟩ : ∃ W, w.alloc (.cells #[.int .i64 b, .int .i64 p, .int .i64 f, .int .i64 c, .int .i64 l] 48) = W := ⟨_, rfl⟩
  obtain ⟨HS, HB, hw0, hz0⟩ := new1 hW0
  have hO := Own.one W0 (w.heap.size + 1) (by omega) 0
  have h0 : ((0 : UInt8).toNat : Int) = 0 := rfl
  simp only [h0] at hO
  obtain ⟨W1, hW1⟩ : ∃ W, W0.alloc (.cells #[.int .u8 0] 5) = W := ⟨_, rfl⟩
  rw [hW1] at hO
  rw [hz0] at hO
  have HO := Lib.hid hO
  replace HS := sEq hW1 (HS.out.alloc _)
  replace HB : Hid (Below w.heap.size w W1) := Lib.hid (by rw [← hW1]; exact balloc HB.out _)
  replace hw0 := HB.out.size
  have g := str5 HS.out
  have hl := HS.out.lt
  obtain ⟨A0, hA0⟩ : ∃ A, (some ⟨W0.heap.size, 0, none⟩ : Option Addr) = A := ⟨_, rfl⟩
  clear hO h0
  go_enter Try.func46, Try.ntmps46
  go_wp2_with fail
  refine (RefBytes.bytes_any 1 b _ (by omega)).mono ?_
  rintro e V1 ⟨B1, m1, d1, rfl, hy1, hb1⟩
  have hm1 := hy1.len
  rw [BeP.parts_length] at hm1
  subst hm1
  replace HS := Lib.hid (HS.out.next hb1)
  replace HB := Lib.hid (bstep HB.out hb1)
  replace hw0 := HB.out.size
  replace hl := HS.out.lt
  obtain ⟨A1, c1, U1, happ1, hO1, hg1⟩ := (HO.out.next hb1).app hy1 (by omega) (by omega)
  have hgs := hg1.size
  replace HS := Lib.hid (HS.out.below hg1 (by omega))
  replace HB := Lib.hid (HB.out.trans (hg1.mono (by omega)))
  replace hw0 := HB.out.size
  replace hl := HS.out.lt
  replace HO := Lib.hid hO1
  clear hO1 hg1 hy1 hb1 g hgs
  have g := str5 HS.out
  go_wp2_with fail
  refine (RefBytes.bytes_any 2 p _ (by omega)).mono ?_
  rintro e V2 ⟨B2, m2, d2, rfl, hy2, hb2⟩
  have hm2 := hy2.len
  rw [BeP.parts_length] at hm2
  subst hm2
  replace HS := Lib.hid (HS.out.next hb2)
  replace HB := Lib.hid (bstep HB.out hb2)
  replace hw0 := HB.out.size
  replace hl := HS.out.lt
  obtain ⟨A2, c2, U2, happ2, hO2, hg2⟩ := (HO.out.next hb2).app hy2 (by omega) (by omega)
  have hgs := hg2.size
  replace HS := Lib.hid (HS.out.below hg2 (by omega))
  replace HB := Lib.hid (HB.out.trans (hg2.mono (by omega)))
  replace hw0 := HB.out.size
  replace hl := HS.out.lt
  replace HO := Lib.hid hO2
  clear hO2 hg2 hy2 hb2 g hgs
  have g := str5 HS.out
  go_wp2_with fail
  refine (RefBytes.bytes_any 1 f _ (by omega)).mono ?_
  rintro e V3 ⟨B3, m3, d3, rfl, hy3, hb3⟩
  have hm3 := hy3.len
  rw [BeP.parts_length] at hm3
  subst hm3
  replace HS := Lib.hid (HS.out.next hb3)
  replace HB := Lib.hid (bstep HB.out hb3)
  replace hw0 := HB.out.size
  replace hl := HS.out.lt
  obtain ⟨A3, c3, U3, happ3, hO3, hg3⟩ := (HO.out.next hb3).app hy3 (by omega) (by omega)
  have hgs := hg3.size
  replace HS := Lib.hid (HS.out.below hg3 (by omega))
  replace HB := Lib.hid (HB.out.trans (hg3.mono (by omega)))
  replace hw0 := HB.out.size
  replace hl := HS.out.lt
  replace HO := Lib.hid hO3
  clear hO3 hg3 hy3 hb3 g hgs
  have g := str5 HS.out
  go_wp2_with fail
  refine (RefBytes.bytes_any 1 c _ (by omega)).mono ?_
  rintro e V4 ⟨B4, m4, d4, rfl, hy4, hb4⟩
  have hm4 := hy4.len
  rw [BeP.parts_length] at hm4
  subst hm4
  replace HS := Lib.hid (HS.out.next hb4)
  replace HB := Lib.hid (bstep HB.out hb4)
  replace hw0 := HB.out.size
  replace hl := HS.out.lt
  obtain ⟨A4, c4, U4, happ4, hO4, hg4⟩ := (HO.out.next hb4).app hy4 (by omega) (by omega)
  have hgs := hg4.size
  replace HS := Lib.hid (HS.out.below hg4 (by omega))
  replace HB := Lib.hid (HB.out.trans (hg4.mono (by omega)))
  replace hw0 := HB.out.size
  replace hl := HS.out.lt
  replace HO := Lib.hid hO4
  clear hO4 hg4 hy4 hb4 g hgs
  have g := str5 HS.out
  go_wp2_with fail
  refine (RefBytes.bytes_any 2 l _ (by omega)).mono ?_
  rintro e V5 ⟨B5, m5, d5, rfl, hy5, hb5⟩
  have hm5 := hy5.len
  rw [BeP.parts_length] at hm5
  subst hm5
  replace HS := Lib.hid (HS.out.next hb5)
  replace HB := Lib.hid (bstep HB.out hb5)
  replace hw0 := HB.out.size
  replace hl := HS.out.lt
  obtain ⟨A5, c5, U5, happ5, hO5, hg5⟩ := (HO.out.next hb5).app hy5 (by omega) (by omega)
  have hgs := hg5.size
  replace HS := Lib.hid (HS.out.below hg5 (by omega))
  replace HB := Lib.hid (HB.out.trans (hg5.mono (by omega)))
  replace hw0 := HB.out.size
  replace hl := HS.out.lt
  replace HO := Lib.hid hO5
  clear hO5 hg5 hy5 hb5 g hgs
  have g := str5 HS.out
  go_wp2_with fail
  go_ret
  have hfin := HO.out.bytes
  exact ⟨_, _, _, rfl, hfin, HB.out⟩
set_option maxRecDepth 100000 in
set_option maxHeartbeats 1000000 in
theorem New_any (b p f c l : Int) (hb1 : -1000000000 ≤ b) (hb2 : b ≤ 1000000000) (w : World) : Calls Try.prog 25 #[.agg #[.int .i64 b, .int .i64 p, .int .i64 f, .int .i64 c, .int .i64 l]] w (GivesBytes w (MetaP.page b p f c l)) := by
  go_enter Try.func25, Try.ntmps25
  go_wp2_with fail
  generalize hW0 : (w).alloc (.cells #[.int .i64 b, .int .i64 p, .int .i64 f, .int .i64 c, .int .i64 l] 48) = W0
  obtain ⟨HS0_0, HB_0, hw_0, hz0⟩ := new1 hW0
  clear hW0 hz0
  have f0_0 := str5 HS0_0.out
  have hl0_0 := HS0_0.out.lt
  refine Reg.wp_region_vals (R := ext) (W := W0) [Reg.bytes MetaP.page1, Reg.eqv (.pointer (some ⟨w.heap.size, 0, none⟩)), Reg.eqv (.int .i64 b), Reg.eqv (.int .i64 (b + 1)), Reg.bytes (BeP.parts 2 (b + 1)), Reg.bytes (MetaP.page2 b), Reg.bytes (MetaP.page2 b)] 14 [[], [(1, none)], [(5, some 1)], [(6, some 2)], [(7, some 3)], [(4, some 0), (8, some 4)], [(9, some 5)]] rfl (by kernel_rfl) (by kernel_rfl) (by kernel_rfl) ?_ [some 4, some 5, some 6, some 7, some 8, some 9, some 3] (by kernel_rfl) ?_
  · refine ⟨?_, ?_, ?_, ?_, ?_, ?_, ?_, trivial⟩
    · intro ax wx hx hs
      refine Reg.obl_free rfl ?_
      go_simp
      refine (RefPage.new_any 0 _).mono ?_
      rintro e wy ⟨A8, n8, c8, rfl, hy8, hby⟩
      exact Reg.done (Option.some_ne_none _) ⟨A8, n8, c8, rfl, hy8⟩ hby
    · intro ax wx hx hs
      obtain ⟨e1, -⟩ := hs
      have g1 := Reg.ev (v := .pointer (some ⟨w.heap.size, 0, none⟩)) e1
      exact Reg.obl_free rfl (Reg.wp_eqv (Option.some_ne_none _) (by go_simp) rfl)
    · intro ax wx hx hs
      obtain ⟨e5, -⟩ := hs
      have g5 := Reg.ev (v := .pointer (some ⟨w.heap.size, 0, none⟩)) e5
      have l0 := str5 (HS0_0.out.next hx)
      exact Reg.obl_free rfl (Reg.wp_eqv (Option.some_ne_none _) (by go_simp) rfl)
    · intro ax wx hx hs
      obtain ⟨e6, -⟩ := hs
      have g6 := Reg.ev (v := .int .i64 b) e6
      refine Reg.obl_free rfl ?_
      exact Reg.wp_eqv (Option.some_ne_none _) (by go_simp; exact MetaP.wrap_id _ (by omega) (by omega)) rfl
    · intro ax wx hx hs
      obtain ⟨e7, -⟩ := hs
      have g7 := Reg.ev (v := .int .i64 (b + 1)) e7
      refine Reg.obl_free rfl ?_
      go_simp
      refine (RefBytes.bytes_any 2 (b + 1) _ (by omega)).mono ?_
      rintro e wy ⟨A8, n8, c8, rfl, hy8, hby⟩
      exact Reg.done (Option.some_ne_none _) ⟨A8, n8, c8, rfl, hy8⟩ hby
    · intro ax wx hx hs
      obtain ⟨e4, e8, -⟩ := hs
      refine Reg.obl_free rfl ?_
      obtain ⟨A4, n4, c4, e4, hy4⟩ := e4
      have g4 := Reg.ev e4
      have hn4 : n4 = 512 := by rw [← hy4.len, MetaP.page1_length]
      subst hn4
      obtain ⟨A8, n8, c8, e8, hy8⟩ := e8
      have g8 := Reg.ev e8
      have hn8 : n8 = 2 := by rw [← hy8.len, BeP.parts_length]
      subst hn8
      go_simp
      refine (RefPage.put_any _ _ _ _ MetaP.page1 14 _ _ _ _ _ _ hy4 (Nat.le_refl _) hy8 (Nat.le_refl _) (by omega) (by omega)).mono ?_
      rintro e wy ⟨A9, n9, c9, rfl, hy9, hby⟩
      exact Reg.done (Option.some_ne_none _) ⟨A9, n9, c9, rfl, hy9⟩ hby
    · intro ax wx hx hs
      obtain ⟨e9, -⟩ := hs
      refine Reg.obl_free rfl ?_
      exact Reg.wp_same (Option.some_ne_none _) (by go_simp) e9
  · intro W1 hwf
    simp only [Reg.Fin]
    rintro v4 h4 _ rfl _ rfl _ rfl v8 h8 v9 h9 v3 h3
    go_simp
    obtain ⟨A9, n9, c9, rfl, hy9⟩ := h3
    have hn9 : n9 = 512 := by rw [← hy9.len, MetaP.page2_length]
    subst hn9
    clear h4 h8 h9
    have hwf' : Below W0.heap.size W0 W1 := hwf
    clear hwf
    have HS0_1 := Lib.hid (HS0_0.out.next hwf')
    have HB_1 := Lib.hid (bstep HB_0.out hwf')
    have hw_1 := HB_1.out.size
    have hws_1 := (hwf').size
    clear f0_0 HS0_0
    clear hwf'
    have f0_1 := str5 HS0_1.out
    have hl0_1 := HS0_1.out.lt
    have HYp_1 := Lib.hid (hy9)
    clear hy9
    go_wp2_with fail
    refine (note_any b p f c l _).mono ?_
    rintro e W2 ⟨A12, n12, c12, rfl, hy12, hb2⟩
    have hn12 : n12 = 8 := by rw [← hy12.len, MetaP.note_length]
    subst hn12
    have HS0_2 := Lib.hid (HS0_1.out.next hb2)
    have HB_2 := Lib.hid (bstep HB_1.out hb2)
    have hw_2 := HB_2.out.size
    have hws_2 := (hb2).size
    have HYp_2 := Lib.hid (HYp_1.out.next hb2)
    clear HYp_1
    clear f0_1 HS0_1
    clear hb2
    have f0_2 := str5 HS0_2.out
    have hl0_2 := HS0_2.out.lt
    go_wp2_with fail
    refine (RefPage.put_any A9 512 c9 _ (MetaP.page2 b) 16 A12 8 c12 _ _ _ HYp_2.out (Nat.le_refl _) hy12 (Nat.le_refl _) (by omega) (by omega)).mono ?_
    rintro e W3 ⟨A3, n3, c3, rfl, hy3, hb3⟩
    have HB3 := Lib.hid (bstep HB_2.out hb3)
    have HY3 := Lib.hid hy3
    clear hy3 hb3 hy12
    go_wp2_with fail
    go_ret
    exact ⟨_, _, _, rfl, HY3.out, HB3.out⟩
end Go.Proofs.Ytldgdgfplgdipaa.RefMeta
namespace Go.Proofs.Ytldgdgfplgdipaa
open Go.ChangeShapes Go.WideShapes Go.ChangeAt Go.RowKit
set_option linter.unusedVariables false
set_option maxRecDepth 100000
structure ConfX where
  b : Int
  p : Int
  f : Int
  c : Int
  l : Int
def RConf (w : World) (v : Value) (x : ConfX) : Prop := v = .agg #[.int .i64 x.b, .int .i64 x.p, .int .i64 x.f, .int .i64 x.c, .int .i64 x.l]
section
variable {H : Type} {enc : TypeId × Value → H} {W : World} {base : Nat} {v : Value} {d : DataW H} {p : List MemPlace}
theorem open_conf (hv : Value.okWide Try.prog W .any base 48 v) (h : DataW.Trod enc Try.prog W 0 (fun _ => true) true 48 v d p) : ∃ x, RConf W v x := by
  obtain ⟨cs, rfl, hsz⟩ := okWide_struct Try.underlying48 hv
  obtain ⟨l⟩ := cs
  obtain ⟨fuel, hf⟩ := h
  obtain ⟨hl, n, hg⟩ := field_of Try.underlying48 hf
  have hl' : l.length = 5 := hl.trans (by kernel_rfl)
  match l, hl' with
  | [c0, c1, c2, c3, c4], _ =>
    obtain ⟨y0, h0⟩ := hg 0 3 0 1 rfl (by kernel_rfl)
    have h0' : DataW.trod enc Try.prog W 0 (fun _ => true) true n 3 [c0] = some y0 := h0
    obtain ⟨z0, e0, _, q0⟩ := DataW.trod_int Try.underlying3 h0'
    obtain ⟨y1, h1⟩ := hg 1 3 1 1 rfl (by kernel_rfl)
    have h1' : DataW.trod enc Try.prog W 0 (fun _ => true) true n 3 [c1] = some y1 := h1
    obtain ⟨z1, e1, _, q1⟩ := DataW.trod_int Try.underlying3 h1'
    obtain ⟨y2, h2⟩ := hg 2 3 2 1 rfl (by kernel_rfl)
    have h2' : DataW.trod enc Try.prog W 0 (fun _ => true) true n 3 [c2] = some y2 := h2
    obtain ⟨z2, e2, _, q2⟩ := DataW.trod_int Try.underlying3 h2'
    obtain ⟨y3, h3⟩ := hg 3 3 3 1 rfl (by kernel_rfl)
    have h3' : DataW.trod enc Try.prog W 0 (fun _ => true) true n 3 [c3] = some y3 := h3
    obtain ⟨z3, e3, _, q3⟩ := DataW.trod_int Try.underlying3 h3'
    obtain ⟨y4, h4⟩ := hg 4 3 4 1 rfl (by kernel_rfl)
    have h4' : DataW.trod enc Try.prog W 0 (fun _ => true) true n 3 [c4] = some y4 := h4
    obtain ⟨z4, e4, _, q4⟩ := DataW.trod_int Try.underlying3 h4'
    simp only [List.cons.injEq, and_true] at e0 e1 e2 e3 e4
    subst e0 e1 e2 e3 e4
    exact ⟨⟨z0, z1, z2, z3, z4⟩, rfl⟩
end
end Go.Proofs.Ytldgdgfplgdipaa
