/-
  Parts of the proof of WalStays.
-/
import Derived.Test.YtpdfnlhhnodnjaaGreatWsG0
import Derived.Test.YtpdfnlhhnodnjaaGreatWsG2
import Derived.Laws.Slices
import Derived.Maps.AppendAt
import Derived.Deep.OwnRows
import Derived.Test.YtpdfnlhhnodnjaaGreatWsG1
import Derived.Test.YtpdfnlhhnodnjaaGreatProg
section
namespace Go.Proofs.YtpdfnlhhnodnjaaGreat
set_option linter.unusedVariables false
/-- a record -/
structure RecX where
  kind : Int
  txn : Int
  prev : Int
  next : Int
  patches : List PatchX
  undo : Undo
namespace RecP
def May (n least : Int) : Prop := least ≤ n ∧ n ≤ 281474976710656
def Nums (x : RecX) : Prop := (1 ≤ x.kind ∧ x.kind ≤ 4) ∧ May x.txn 1 ∧ May x.prev 0 ∧ May x.next 0
def Rest (x : RecX) : Prop := (x.kind ≠ 2 → x.next = 0) ∧ (x.kind ≠ 1 → x.undo.act = 0) ∧ (3 ≤ x.kind → x.patches.length = 0)
def Pats (l : List PatchX) (k : Nat) : Prop := ∀ i p, i < k → l[i]? = some p → PatchP.Right p
def Right (x : RecX) : Prop := Nums x ∧ x.patches.length ≤ 4 ∧ UndoP.right x.undo = true ∧ Pats x.patches x.patches.length ∧ Rest x
noncomputable def right (x : RecX) : Bool := @decide (Right x) (Classical.propDecidable _)
theorem right_iff (x : RecX) : right x = true ↔ Right x := by unfold right; simp
theorem right_no (x : RecX) (h : ¬ Right x) : right x = false := by unfold right; simpa using h
theorem right_yes (x : RecX) (h : Right x) : right x = true := (right_iff x).2 h
theorem pats_zero (l : List PatchX) : Pats l 0 := fun i p hi => absurd hi (Nat.not_lt_zero _)
theorem pats_step {l : List PatchX} {k : Nat} {p : PatchX} (h : Pats l k) (hp : l[k]? = some p) (hr : PatchP.Right p) : Pats l (k + 1) := by
  intro i q hi hq
  by_cases e : i = k
  · subst e; rw [hp] at hq; cases hq; exact hr
  · exact h i q (by omega) hq
theorem pats_bad {x : RecX} {k : Nat} {p : PatchX} (hp : x.patches[k]? = some p) (hr : PatchP.right p = false) : right x = false := right_no x fun h => by
  have := h.2.2.2.1 k p (List.getElem?_eq_some_iff.1 hp).1 hp
  rw [PatchP.right_yes p this] at hr
  cases hr
/-- an undo that may be and does nothing is none -/
theorem act_zero (u : Undo) (h : UndoP.right u = true) : UndoP.same u UndoP.none = decide (u.act = 0) := by
  by_cases h0 : u.act = 0
  · unfold UndoP.right at h
    rw [if_pos h0] at h
    rw [h]; simpa using h0
  · have : UndoP.same u UndoP.none = false := by
      unfold UndoP.same
      have : (u.act == UndoP.none.act) = false := by
        show (u.act == 0) = false
        simpa using h0
      rw [this]; rfl
    rw [this]; simpa using h0
noncomputable def samePats (a b : List PatchX) : Bool := @decide (a = b) (Classical.propDecidable _)
noncomputable def same (a b : RecX) : Bool := (a.kind == b.kind) && ((a.txn == b.txn) && ((a.prev == b.prev) && ((a.next == b.next) && (samePats a.patches b.patches && UndoP.same a.undo b.undo))))
theorem samePats_len {l m : List PatchX} (h : l.length ≠ m.length) : samePats l m = false := by
  unfold samePats
  simp only [decide_eq_false_iff_not]
  intro e; exact h (by rw [e])
theorem samePats_at {l m : List PatchX} {k : Nat} {r q : PatchX} (hr : l[k]? = some r) (hq : m[k]? = some q) (h : PatchP.same r q = false) : samePats l m = false := by
  unfold samePats
  simp only [decide_eq_false_iff_not]
  intro e
  rw [e, hq] at hr
  cases hr
  unfold PatchP.same at h
  simp at h
theorem samePats_all {l m : List PatchX} {k : Nat} (h : l.take k = m.take k) (h1 : l.length = k) (h2 : m.length = k) : samePats l m = true := by
  unfold samePats
  simp only [decide_eq_true_eq]
  rwa [List.take_of_length_le (by omega), List.take_of_length_le (by omega)] at h
theorem take_same {l m : List PatchX} {k : Nat} {r q : PatchX} (h : l.take k = m.take k) (hr : l[k]? = some r) (hq : m[k]? = some q) (h1 : PatchP.same r q = true) : l.take (k + 1) = m.take (k + 1) := by
  obtain ⟨i1, e1⟩ := List.getElem?_eq_some_iff.1 hr
  obtain ⟨i2, e2⟩ := List.getElem?_eq_some_iff.1 hq
  rw [List.take_succ_eq_append_getElem i1, List.take_succ_eq_append_getElem i2, h, e1, e2]
  unfold PatchP.same at h1
  simp only [decide_eq_true_eq] at h1
  rw [h1]
/-- the bytes -/
noncomputable def patsB (l : List PatchX) : List UInt8 := l.flatMap PatchP.bytes
noncomputable def inner (x : RecX) : List UInt8 := BeP.parts 1 x.kind ++ (BeP.parts 8 x.txn ++ (BeP.parts 8 x.prev ++ (BeP.parts 8 x.next ++ (BeP.parts 1 (x.patches.length : Nat) ++ (patsB x.patches ++ UndoP.bytes x.undo)))))
noncomputable def body (x : RecX) : List UInt8 := BeP.parts 4 ((CrcP.sum (inner x) : Nat) : Int) ++ inner x
noncomputable def fits (x : RecX) : Bool := right x && decide ((body x).length ≤ 65535)
noncomputable def bytes (x : RecX) : List UInt8 := if fits x then BeP.parts 2 ((body x).length : Nat) ++ body x else []
theorem patsB_drop (l : List PatchX) (k : Nat) (p : PatchX) (h : l[k]? = some p) : patsB (l.drop k) = PatchP.bytes p ++ patsB (l.drop (k + 1)) := by
  obtain ⟨hk, e⟩ := List.getElem?_eq_some_iff.1 h
  rw [List.drop_eq_getElem_cons hk, e]
  simp [patsB]
theorem bytes_right {p : PatchX} (h : PatchP.Right p) : PatchP.bytes p = PatchP.body p := by
  unfold PatchP.bytes; rw [if_pos (PatchP.right_yes p h)]
theorem patch_le (p : PatchX) : (PatchP.bytes p).length ≤ 252005 := by
  unfold PatchP.bytes
  split
  · rename_i h; exact PatchP.body_le ((PatchP.right_iff p).1 h)
  · simp
theorem patsB_le (l : List PatchX) : (patsB l).length ≤ l.length * 252005 := by
  induction l with
  | nil => simp [patsB]
  | cons p l ih =>
    have h1 := patch_le p
    have : patsB (p :: l) = PatchP.bytes p ++ patsB l := by simp [patsB]
    rw [this, List.length_append, List.length_cons, Nat.add_mul]
    omega
theorem inner_length (x : RecX) : (inner x).length = 26 + (patsB x.patches).length + (UndoP.bytes x.undo).length := by
  simp [inner, BeP.parts_length]; omega
theorem body_length (x : RecX) : (body x).length = 30 + (patsB x.patches).length + (UndoP.bytes x.undo).length := by
  unfold body
  rw [List.length_append, BeP.parts_length, inner_length]; omega
theorem bytes_length (x : RecX) (h : fits x = true) : (bytes x).length = 2 + (body x).length := by
  unfold bytes
  rw [if_pos h, List.length_append, BeP.parts_length]
theorem fits_right {x : RecX} (h : fits x = true) : Right x := by
  unfold fits at h
  simp only [Bool.and_eq_true] at h
  exact (right_iff x).1 h.1
theorem fits_len {x : RecX} (h : fits x = true) : (body x).length ≤ 65535 := by
  unfold fits at h
  simp only [Bool.and_eq_true, decide_eq_true_eq] at h
  exact h.2
end RecP
end Go.Proofs.YtpdfnlhhnodnjaaGreat
end
section
namespace Go.Proofs.YtpdfnlhhnodnjaaGreat
set_option linter.unusedVariables false
namespace RowsP
/-- the first so many that can be bytes -/
noncomputable def fl (l : List RecX) (k : Nat) : List RecX := (l.take k).filter RecP.fits
noncomputable def allB (f : List RecX) : List UInt8 := f.flatMap RecP.bytes
/-- where the first so many end -/
noncomputable def at_ (f : List RecX) (n : Nat) : Nat := (allB (f.take n)).length
noncomputable def ends (f : List RecX) : List Int := (List.range f.length).map fun j => ((at_ f (j + 1) : Nat) : Int)
theorem allB_app (f : List RecX) (x : RecX) : allB (f ++ [x]) = allB f ++ RecP.bytes x := by simp [allB, List.flatMap_append]
theorem allB_len {f : List RecX} (h : ∀ x ∈ f, (RecP.bytes x).length ≤ 65537) : (allB f).length ≤ f.length * 65537 := by
  induction f with
  | nil => simp [allB]
  | cons x f ih =>
    have h1 := h x List.mem_cons_self
    have h2 := ih (fun y hy => h y (List.mem_cons_of_mem _ hy))
    have e : allB (x :: f) = RecP.bytes x ++ allB f := by simp [allB]
    rw [e, List.length_append, List.length_cons]
    omega
theorem fits_small {x : RecX} (h : RecP.fits x = true) : 2 ≤ (RecP.bytes x).length ∧ (RecP.bytes x).length ≤ 65537 := by
  have h1 := RecP.bytes_length x h
  have h2 := RecP.fits_len h
  omega
theorem at_all (f : List RecX) : at_ f f.length = (allB f).length := by unfold at_; rw [List.take_length]
theorem at_zero (f : List RecX) : at_ f 0 = 0 := by simp [at_, allB]
theorem take_next {f : List RecX} {n : Nat} {x : RecX} (h : f[n]? = some x) : f.take (n + 1) = f.take n ++ [x] := by rw [List.take_add_one, h]; rfl
theorem at_next {f : List RecX} {n : Nat} {x : RecX} (h : f[n]? = some x) : at_ f (n + 1) = at_ f n + (RecP.bytes x).length := by
  unfold at_
  rw [take_next h, allB_app, List.length_append]
/-- what stands behind the first so many -/
theorem split {f : List RecX} {n : Nat} {x : RecX} (h : f[n]? = some x) : allB f = allB (f.take n) ++ (RecP.bytes x ++ allB (f.drop (n + 1))) := by
  have hl := (List.getElem?_eq_some_iff.1 h).1
  have e : f = f.take n ++ x :: f.drop (n + 1) := by
    have h1 := List.take_append_drop n f
    rw [List.drop_eq_getElem_cons hl, (List.getElem?_eq_some_iff.1 h).2] at h1
    exact h1.symm
  have e2 : allB (f.take n ++ x :: f.drop (n + 1)) = allB (f.take n) ++ (RecP.bytes x ++ allB (f.drop (n + 1))) := by simp [allB, List.flatMap_append]
  rw [← e2, ← e]
theorem drop_at {f : List RecX} {n : Nat} {x : RecX} (h : f[n]? = some x) : (allB f).drop (at_ f n) = RecP.bytes x ++ allB (f.drop (n + 1)) := by
  rw [split h]
  exact List.drop_left
theorem at_le (f : List RecX) (n : Nat) : at_ f n ≤ (allB f).length := by
  by_cases h : n < f.length
  · rw [split (List.getElem?_eq_getElem h), List.length_append]
    exact Nat.le_add_right _ _
  · unfold at_
    rw [List.take_of_length_le (by omega)]
    exact Nat.le_refl _
theorem ends_app (f : List RecX) (x : RecX) : ends (f ++ [x]) = ends f ++ [(((allB (f ++ [x])).length : Nat) : Int)] := by
  unfold ends
  rw [List.length_append, List.length_singleton, List.range_succ, List.map_append]
  refine congr (congrArg _ (List.map_congr_left fun j hj => ?_)) ?_
  · have hj' : j < f.length := List.mem_range.1 hj
    unfold at_
    rw [List.take_append_of_le_length (by omega)]
  · simp only [List.map_cons, List.map_nil]
    rw [show f.length + 1 = (f ++ [x]).length by simp, at_all]
/-- the part that is got: the record and what follows, as far as there is room -/
theorem got_whole {f : List RecX} {n cut : Nat} {x : RecX} (h : f[n]? = some x) (h1 : at_ f (n + 1) ≤ cut) : ∃ post, ((allB f).drop (at_ f n)).take (cut - at_ f n) = RecP.bytes x ++ post := by
  rw [drop_at h]
  rw [at_next h] at h1
  refine ⟨(allB (f.drop (n + 1))).take (cut - at_ f n - (RecP.bytes x).length), ?_⟩
  rw [List.take_append, List.take_of_length_le (by omega)]
theorem got_part {f : List RecX} {n cut : Nat} {x : RecX} (h : f[n]? = some x) (h1 : cut < at_ f (n + 1)) : ((allB f).drop (at_ f n)).take (cut - at_ f n) = (RecP.bytes x).take (cut - at_ f n) := by
  rw [drop_at h]
  rw [at_next h] at h1
  rw [List.take_append_of_le_length (by omega)]
end RowsP
end Go.Proofs.YtpdfnlhhnodnjaaGreat
end
section
namespace Go.Proofs.YtpdfnlhhnodnjaaGreat
open Go.RowKit

/-- the address of a part, under a name that the walk does not look behind -/
def cutA (a : Option Addr) (l m s : Nat) : Option Addr := if m = l then a else a.map (·.add (l * s))
theorem cut_fold (a : Option Addr) (l h m s : Nat) : sliced a l h m s = .slice (cutA a l m s) (h - l) (m - l) := rfl

theorem Bytes.cut {w : World} {B n c : Nat} {A : Option Addr} {l : List UInt8} (h : Bytes w B A n c l) (lo hi m : Nat) (h1 : lo ≤ hi) (h2 : hi ≤ n) (h3 : hi ≤ m) (h4 : m ≤ c) :
    Bytes w B (cutA A lo m 1) (hi - lo) (m - lo) ((l.drop lo).take (hi - lo)) := by
  obtain ⟨hl, hc, hm, hx⟩ := h
  refine ⟨by simp; omega, by omega, by omega, fun hn => ?_⟩
  obtain ⟨b, o, rfl, hb, hcell⟩ := hx (by omega)
  unfold cutA
  rw [if_neg (by omega)]
  refine ⟨b, o + lo, by simp [add_none], hb, fun j u hu => ?_⟩
  rw [List.getElem?_take] at hu
  split at hu
  · rw [List.getElem?_drop] at hu
    rw [Nat.add_assoc]
    exact hcell _ u hu
  · cases hu
end Go.Proofs.YtpdfnlhhnodnjaaGreat
end
section
namespace Go.Proofs.YtpdfnlhhnodnjaaGreat
open Go.RowKit
set_option linter.unusedVariables false

/-- what reads below B in the one world reads so in the other -/
def Sub (B : Nat) (w w' : World) : Prop := ∀ (p : Addr) (v : Value), p.block < B → w.cell? p = some v → w'.cell? p = some v
theorem Sub.refl (B : Nat) (w : World) : Sub B w w := fun _ _ _ h => h
theorem Sub.trans {B : Nat} {a b c : World} (h : Sub B a b) (k : Sub B b c) : Sub B a c := fun p v hp hv => k p v hp (h p v hp hv)
theorem Sub.less {B B' : Nat} {a b : World} (h : Sub B a b) (hB : B' ≤ B) : Sub B' a b := fun p v hp hv => h p v (by omega) hv
theorem sub_below {B : Nat} {w w' : World} (h : Below B w w') : Sub B w w' := fun p v hp hv => (h.cell hp).trans hv
theorem Bytes.sub {w w' : World} {B n c : Nat} {A : Option Addr} {l : List UInt8} (h : Bytes w B A n c l) (hs : Sub B w w') : Bytes w' B A n c l :=
  ⟨h.1, h.2.1, h.2.2.1, fun hn => by
    obtain ⟨b, o, e, hb, hc⟩ := h.2.2.2 hn
    exact ⟨b, o, e, hb, fun j u hu => hs _ _ hb (hc j u hu)⟩⟩

/-- a world in which a block is empty -/
def hide (w : World) (g : Nat) : World := w.setRow g #[]
theorem hide_other (w : World) (g : Nat) (p : Addr) (h : p.block ≠ g) : (hide w g).cell? p = w.cell? p := World.cell?_of_block (setRow_other w g p.block #[] h)
theorem hide_none (w : World) (p : Addr) : (hide w p.block).cell? p = none := by
  unfold hide World.setRow World.cell?
  simp only [Array.getElem?_modify, if_true]
  cases hx : w.heap[p.block]? with
  | none => simp
  | some o => cases o <;> simp
theorem sub_hide (B : Nat) (w : World) (g : Nat) : Sub B (hide w g) w := by
  intro p v hp hv
  by_cases h : p.block = g
  · subst h; rw [hide_none] at hv; cases hv
  · rwa [hide_other w g p h] at hv
/-- what lies below a block does not hang on it -/
theorem sub_hide_lt {B g : Nat} (w : World) (h : B ≤ g) : Sub B w (hide w g) := fun p v hp hv => by rw [hide_other w g p (by omega)]; exact hv
theorem hide_sub_of {B g : Nat} {w w' : World} (h : ∀ k, k < B → k ≠ g → w'.heap[k]? = w.heap[k]?) : Sub B (hide w g) (hide w' g) := by
  intro p v hp hv
  by_cases hg : p.block = g
  · subst hg; rw [hide_none] at hv; cases hv
  · rw [hide_other w g p hg] at hv
    rw [hide_other w' g p hg, World.cell?_of_block (h p.block hp hg)]
    exact hv
/-- the row of a slice hidden -/
def hid (A : Option Addr) (w : World) : World := match A with
  | some a => hide w a.block
  | none => w
theorem sub_hid (B : Nat) (A : Option Addr) (w : World) : Sub B (hid A w) w := by
  cases A with
  | none => exact Sub.refl _ _
  | some a => exact sub_hide B w a.block
theorem hid_below {B : Nat} {w w' : World} (A : Option Addr) (h : Below B w w') : Sub B (hid A w) (hid A w') := by
  cases A with
  | none => exact sub_below h
  | some a => exact hide_sub_of fun k hk _ => h.block k hk
theorem hid_lt {B : Nat} (A : Option Addr) (w : World) (h : ∀ a, A = some a → B ≤ a.block) : Sub B w (hid A w) := by
  cases A with
  | none => exact Sub.refl _ _
  | some a => exact sub_hide_lt w (h a rfl)
theorem hid_grown {w w' : World} {A A' : Option Addr} (hg : w.grownBy w' ((Value.slice A 0 0).ownBlock)) (h : A' = A ∨ ∃ a, A' = some a ∧ a.block = w.heap.size) : Sub w.heap.size (hid A w) (hid A' w') := by
  rcases h with rfl | ⟨a, rfl, ha⟩
  · cases A' with
    | none => exact fun p v hp hv => (World.cell?_of_block (hg.block p.block hp (by simp [Value.ownBlock]))).trans hv
    | some a => exact hide_sub_of fun k hk hne => hg.block k hk (by simpa [Value.ownBlock] using hne)
  · intro p v hp hv
    show (hide w' a.block).cell? p = some v
    rw [hide_other w' a.block p (by omega)]
    cases A with
    | none => exact (World.cell?_of_block (hg.block p.block hp (by simp [Value.ownBlock]))).trans hv
    | some a0 =>
      by_cases h0 : p.block = a0.block
      · have : (hide w a0.block).cell? p = none := by rw [← h0]; exact hide_none w p
        change (hide w a0.block).cell? p = some v at hv
        rw [this] at hv
        cases hv
      · change (hide w a0.block).cell? p = some v at hv
        rw [hide_other w a0.block p h0] at hv
        exact (World.cell?_of_block (hg.block p.block hp (by simpa [Value.ownBlock] using h0))).trans hv

/-- how an element lies in memory -/
structure El (α : Type) where
  size : Nat
  pos : 0 < size
  rel : World → Nat → List Value → α → Prop
  len : ∀ {w B vs x}, rel w B vs x → vs.length = size
  one : ∀ {w B vs x}, rel w B vs x → ∀ v ∈ vs, v.oneCell' = true
  sub : ∀ {w w' B vs x}, Sub B w w' → rel w B vs x → rel w' B vs x
  more : ∀ {w B B' vs x}, B ≤ B' → rel w B vs x → rel w B' vs x

/-- side by side -/
def Rel2 {α : Type} (R : List Value → α → Prop) : List (List Value) → List α → Prop
  | [], [] => True
  | v :: vs, x :: xs => R v x ∧ Rel2 R vs xs
  | _, _ => False
section
variable {α : Type} {R R' : List Value → α → Prop}
theorem Rel2.length : ∀ {vs : List (List Value)} {xs : List α}, Rel2 R vs xs → vs.length = xs.length
  | [], [], _ => rfl
  | _ :: vs, _ :: xs, h => by simp [Rel2.length h.2]
  | [], _ :: _, h => h.elim
  | _ :: _, [], h => h.elim
theorem Rel2.imp (hi : ∀ v x, R v x → R' v x) : ∀ {vs : List (List Value)} {xs : List α}, Rel2 R vs xs → Rel2 R' vs xs
  | [], [], _ => trivial
  | _ :: vs, _ :: xs, h => ⟨hi _ _ h.1, Rel2.imp hi h.2⟩
  | [], _ :: _, h => h.elim
  | _ :: _, [], h => h.elim
theorem Rel2.append {vs2 : List (List Value)} {xs2 : List α} (h2 : Rel2 R vs2 xs2) : ∀ {vs : List (List Value)} {xs : List α}, Rel2 R vs xs → Rel2 R (vs ++ vs2) (xs ++ xs2)
  | [], [], _ => h2
  | _ :: vs, _ :: xs, h => ⟨h.1, Rel2.append h2 h.2⟩
  | [], _ :: _, h => h.elim
  | _ :: _, [], h => h.elim
theorem Rel2.take : ∀ (k : Nat) {vs : List (List Value)} {xs : List α}, Rel2 R vs xs → Rel2 R (vs.take k) (xs.take k)
  | 0, _, _, _ => by simp [Rel2]
  | _ + 1, [], [], _ => trivial
  | k + 1, _ :: vs, _ :: xs, h => ⟨h.1, Rel2.take k h.2⟩
  | _ + 1, [], _ :: _, h => h.elim
  | _ + 1, _ :: _, [], h => h.elim
theorem Rel2.drop : ∀ (k : Nat) {vs : List (List Value)} {xs : List α}, Rel2 R vs xs → Rel2 R (vs.drop k) (xs.drop k)
  | 0, _, _, h => by simpa using h
  | _ + 1, [], [], _ => trivial
  | k + 1, _ :: vs, _ :: xs, h => Rel2.drop k h.2
  | _ + 1, [], _ :: _, h => h.elim
  | _ + 1, _ :: _, [], h => h.elim
theorem Rel2.get : ∀ {vs : List (List Value)} {xs : List α} {j : Nat} {x : α}, Rel2 R vs xs → xs[j]? = some x → ∃ v, vs[j]? = some v ∧ R v x
  | v :: vs, y :: xs, 0, x, h, hx => by
    simp at hx; subst hx; exact ⟨v, rfl, h.1⟩
  | v :: vs, y :: xs, j + 1, x, h, hx => by
    obtain ⟨u, hu, hr⟩ := Rel2.get h.2 (by simpa using hx)
    exact ⟨u, by simpa using hu, hr⟩
  | [], [], j, x, h, hx => by simp at hx
  | [], _ :: _, _, _, h, _ => h.elim
  | _ :: _, [], _, _, h, _ => h.elim
theorem Rel2.set {v : List Value} {x : α} (hr : R v x) : ∀ {vs : List (List Value)} {xs : List α} (j : Nat), Rel2 R vs xs → Rel2 R (vs.set j v) (xs.set j x)
  | [], [], _, _ => by simp [Rel2]
  | _ :: vs, _ :: xs, 0, h => ⟨hr, h.2⟩
  | _ :: vs, _ :: xs, j + 1, h => ⟨h.1, Rel2.set hr j h.2⟩
  | [], _ :: _, _, h => h.elim
  | _ :: _, [], _, h => h.elim
theorem Rel2.flat {size : Nat} (hl : ∀ v x, R v x → v.length = size) : ∀ {vs : List (List Value)} {xs : List α}, Rel2 R vs xs → vs.flatten.length = xs.length * size
  | [], [], _ => by simp
  | v :: vs, _ :: xs, h => by
    rw [List.flatten_cons, List.length_append, hl _ _ h.1, Rel2.flat hl h.2, List.length_cons, Nat.add_mul]; omega
  | [], _ :: _, h => h.elim
  | _ :: _, [], h => h.elim
theorem Rel2.mem {v : List Value} : ∀ {vs : List (List Value)} {xs : List α}, Rel2 R vs xs → v ∈ vs → ∃ x, R v x
  | [], [], _, hm => by cases hm
  | u :: vs, x :: xs, h, hm => by
    rcases List.mem_cons.1 hm with rfl | hm
    · exact ⟨x, h.1⟩
    · exact Rel2.mem h.2 hm
  | [], _ :: _, h, _ => h.elim
  | _ :: _, [], h, _ => h.elim
end
/-- where an element's cells stand among all -/
theorem flat_at {size : Nat} : ∀ (vs : List (List Value)), (∀ v ∈ vs, v.length = size) → ∀ (j : Nat) (v : List Value) (i : Nat) (u : Value), vs[j]? = some v → v[i]? = some u → vs.flatten[j * size + i]? = some u
  | [], _, j, v, i, u, h, _ => by simp at h
  | v0 :: vs, hl, 0, v, i, u, h, hu => by
    simp at h; subst h
    have hi : i < v0.length := (List.getElem?_eq_some_iff.1 hu).1
    rw [List.flatten_cons, Nat.zero_mul, Nat.zero_add, List.getElem?_append_left hi]
    exact hu
  | v0 :: vs, hl, j + 1, v, i, u, h, hu => by
    have h0 := hl v0 (by simp)
    have := flat_at vs (fun x hx => hl x (by simp [hx])) j v i u (by simpa using h) hu
    rw [List.flatten_cons, List.getElem?_append_right (by rw [h0, Nat.add_mul]; omega), h0, show (j + 1) * size + i - size = j * size + i by rw [Nat.add_mul]; omega]
    exact this
theorem flat_take {size : Nat} : ∀ (vs : List (List Value)), (∀ v ∈ vs, v.length = size) → ∀ k, (vs.take k).flatten = vs.flatten.take (k * size)
  | [], _, k => by simp
  | v0 :: vs, hl, 0 => by simp
  | v0 :: vs, hl, k + 1 => by
    have h0 := hl v0 (by simp)
    rw [List.take_succ_cons, List.flatten_cons, List.flatten_cons, flat_take vs (fun x hx => hl x (by simp [hx])) k, List.take_append, h0, List.take_of_length_le (l := v0) (by rw [h0, Nat.add_mul]; omega), show (k + 1) * size - size = k * size by rw [Nat.add_mul]; omega]
theorem flat_drop {size : Nat} : ∀ (vs : List (List Value)), (∀ v ∈ vs, v.length = size) → ∀ k, (vs.drop k).flatten = vs.flatten.drop (k * size)
  | [], _, k => by simp
  | v0 :: vs, hl, 0 => by simp
  | v0 :: vs, hl, k + 1 => by
    have h0 := hl v0 (by simp)
    rw [List.drop_succ_cons, List.flatten_cons, flat_drop vs (fun x hx => hl x (by simp [hx])) k, List.drop_append, h0, List.drop_of_length_le (l := v0) (by rw [h0, Nat.add_mul]; omega), show (k + 1) * size - size = k * size by rw [Nat.add_mul]; omega, List.nil_append]

section
variable {α : Type} {E : El α} {w w' wr wr' : World} {B B' n c : Nat} {A : Option Addr} {l : List α}
/-- the slice (A, n, c) has its cells in w; what they read as is told by wr -/
def ElemsIn (E : El α) (wr w : World) (B : Nat) (A : Option Addr) (n c : Nat) (l : List α) : Prop :=
  ∃ vs, Rel2 (E.rel wr B) vs l ∧ l.length = n ∧ n ≤ c ∧ c ≤ maxLen ∧ (0 < n → ∃ b o, A = some ⟨b, o, none⟩ ∧ b < B ∧ ∀ j v, vs.flatten[j]? = some v → w.cell? ⟨b, o + j, none⟩ = some v)
/-- the slice (A, n, c) reads as l -/
def Elems (E : El α) (w : World) (B : Nat) (A : Option Addr) (n c : Nat) (l : List α) : Prop := ElemsIn E w w B A n c l
theorem ElemsIn.len (h : ElemsIn E wr w B A n c l) : l.length = n := by obtain ⟨_, _, h, _⟩ := h; exact h
theorem ElemsIn.cap (h : ElemsIn E wr w B A n c l) : n ≤ c ∧ c ≤ maxLen := by obtain ⟨_, _, _, h, h2, _⟩ := h; exact ⟨h, h2⟩
theorem ElemsIn.keep (h : ElemsIn E wr w B A n c l) (h1 : Sub B wr wr') (h2 : Sub B w w') : ElemsIn E wr' w' B A n c l := by
  obtain ⟨vs, hr, hl, hc, hm, hx⟩ := h
  refine ⟨vs, hr.imp fun _ _ => E.sub h1, hl, hc, hm, fun hn => ?_⟩
  obtain ⟨b, o, e, hb, hcell⟩ := hx hn
  exact ⟨b, o, e, hb, fun j v hv => h2 _ _ hb (hcell j v hv)⟩
theorem ElemsIn.more (h : ElemsIn E wr w B A n c l) (hB : B ≤ B') : ElemsIn E wr w B' A n c l := by
  obtain ⟨vs, hr, hl, hc, hm, hx⟩ := h
  refine ⟨vs, hr.imp fun _ _ => E.more hB, hl, hc, hm, fun hn => ?_⟩
  obtain ⟨b, o, e, hb, hcell⟩ := hx hn
  exact ⟨b, o, e, by omega, hcell⟩
theorem Elems.len (h : Elems E w B A n c l) : l.length = n := ElemsIn.len h
theorem Elems.cap (h : Elems E w B A n c l) : n ≤ c ∧ c ≤ maxLen := ElemsIn.cap h
theorem Elems.sub (h : Elems E w B A n c l) (hs : Sub B w w') : Elems E w' B A n c l := ElemsIn.keep h hs hs
theorem Elems.below (h : Elems E w B A n c l) (hb : Below B w w') : Elems E w' B A n c l := h.sub (sub_below hb)
theorem Elems.more (h : Elems E w B A n c l) (hB : B ≤ B') : Elems E w B' A n c l := ElemsIn.more h hB
theorem Elems.next (h : Elems E w w.heap.size A n c l) (hb : Below w.heap.size w w') : Elems E w' w'.heap.size A n c l := (h.below hb).more hb.size
theorem Elems.none_ (E : El α) (w : World) (B : Nat) : Elems E w B none 0 0 [] := ⟨[], trivial, rfl, Nat.le_refl _, by unfold maxLen; omega, fun h => absurd h (by omega)⟩
theorem Elems.drewN (h : Elems E w B A n c l) (k : Nat) : Elems E (w.drewN k) B A n c l := h.sub fun p v _ hv => hv
theorem ElemsIn.at_ {k : Nat} (h : ElemsIn E wr w B A n c l) (hk : k < n) : ∃ b o vs, A = some ⟨b, o, none⟩ ∧ b < B ∧ E.rel wr B vs (l[k]'(by rw [h.len]; exact hk)) ∧ ∀ i v, vs[i]? = some v → w.cell? ⟨b, o + k * E.size + i, none⟩ = some v := by
  obtain ⟨vss, hr, hl, hc, hm, hx⟩ := h
  obtain ⟨b, o, e, hb, hcell⟩ := hx (by omega)
  obtain ⟨vs, hvs, hrel⟩ := hr.get (List.getElem?_eq_getElem (by omega : k < l.length))
  refine ⟨b, o, vs, e, hb, hrel, fun i v hv => ?_⟩
  rw [Nat.add_assoc]
  exact hcell _ v (flat_at vss (fun x hx => by obtain ⟨y, hy⟩ := hr.mem hx; exact E.len hy) k vs i v hvs hv)
theorem Elems.at_ {k : Nat} (h : Elems E w B A n c l) (hk : k < n) : ∃ b o vs, A = some ⟨b, o, none⟩ ∧ b < B ∧ E.rel w B vs (l[k]'(by rw [h.len]; exact hk)) ∧ ∀ i v, vs[i]? = some v → w.cell? ⟨b, o + k * E.size + i, none⟩ = some v := ElemsIn.at_ h hk
theorem ElemsIn.cut (h : ElemsIn E wr w B A n c l) (lo hi m : Nat) (h1 : lo ≤ hi) (h2 : hi ≤ n) (h3 : hi ≤ m) (h4 : m ≤ c) :
    ElemsIn E wr w B (cutA A lo m E.size) (hi - lo) (m - lo) ((l.drop lo).take (hi - lo)) := by
  obtain ⟨vss, hr, hl, hc, hm, hx⟩ := h
  refine ⟨_, (hr.drop lo).take (hi - lo), by simp; omega, by omega, by omega, fun hn => ?_⟩
  obtain ⟨b, o, rfl, hb, hcell⟩ := hx (by omega)
  unfold cutA
  rw [if_neg (by omega)]
  refine ⟨b, o + lo * E.size, by simp [add_none], hb, fun j v hv => ?_⟩
  have hall : ∀ v ∈ vss, v.length = E.size := fun x hx => by obtain ⟨y, hy⟩ := hr.mem hx; exact E.len hy
  rw [flat_take _ (fun v hv => hall v (List.mem_of_mem_drop hv)), flat_drop _ hall, List.getElem?_take] at hv
  split at hv
  · rw [List.getElem?_drop] at hv
    rw [Nat.add_assoc]
    exact hcell _ v hv
  · cases hv
theorem Elems.cut (h : Elems E w B A n c l) (lo hi m : Nat) (h1 : lo ≤ hi) (h2 : hi ≤ n) (h3 : hi ≤ m) (h4 : m ≤ c) :
    Elems E w B (cutA A lo m E.size) (hi - lo) (m - lo) ((l.drop lo).take (hi - lo)) := ElemsIn.cut h lo hi m h1 h2 h3 h4

/-- a row of the call's own: what its elements read as does not hang on the row -/
def OwnE (E : El α) (T : TypeId) (w : World) (base : Nat) (A : Option Addr) (n c : Nat) (l : List α) : Prop :=
  ∃ vs, w.ownsRow base T E.size (.slice A n c) n vs.flatten ∧ Rel2 (E.rel (hid A w) w.heap.size) vs l
variable {T : TypeId} {base : Nat}
theorem OwnE.len (h : OwnE E T w base A n c l) : l.length = n := by
  obtain ⟨vs, h1, h2⟩ := h
  have e1 := h1.1
  rw [h2.flat (fun _ _ => E.len)] at e1
  exact Nat.eq_of_mul_eq_mul_right E.pos e1
theorem OwnE.none_ (E : El α) (T : TypeId) (w : World) (base : Nat) : OwnE E T w base none 0 0 [] := ⟨[], World.ownsRow_nil _ _ _ _, trivial⟩
theorem OwnE.next (h : OwnE E T w base A n c l) (hb : Below w.heap.size w w') : OwnE E T w' base A n c l := by
  obtain ⟨vs, h1, h2⟩ := h
  exact ⟨vs, own_next h1 hb, h2.imp fun _ _ hr => E.more hb.size (E.sub (hid_below A hb) hr)⟩
theorem OwnE.elemsIn (h : OwnE E T w base A n c l) : ElemsIn E (hid A w) w w.heap.size A n c l := by
  have hl := h.len
  obtain ⟨vs, h1, h2⟩ := h
  rcases h1.2 with ⟨e, h0⟩ | ⟨g, cap, cur, e, hg, hh, hnc, hm, hc, hx⟩
  · cases e
    exact ⟨vs, h2, hl, Nat.le_refl _, by unfold maxLen; omega, fun hp => absurd hp (by omega)⟩
  · cases e
    refine ⟨vs, h2, hl, hnc, hm, fun _ => ⟨g, 0, rfl, (Array.getElem?_eq_some_iff.1 hh).1, fun j u hu => ?_⟩⟩
    rw [← hx, List.getElem?_take] at hu
    split at hu
    · simp only [World.cell?, hh, Nat.zero_add]
      simpa using hu
    · cases hu
theorem OwnE.elems (h : OwnE E T w base A n c l) : Elems E w w.heap.size A n c l := h.elemsIn.keep (sub_hid _ A w) (Sub.refl _ _)
theorem OwnE.less {base' : Nat} (h : OwnE E T w base A n c l) (hb : base' ≤ base) : OwnE E T w base' A n c l := by
  obtain ⟨vs, h1, h2⟩ := h
  exact ⟨vs, ⟨h1.1, h1.2.imp id fun ⟨g, cap, cur, e1, hg, r⟩ => ⟨g, cap, cur, e1, Nat.le_trans hb hg, r⟩⟩, h2⟩
theorem OwnE.ge (h : OwnE E T w base A n c l) : ∀ a, A = some a → base ≤ a.block := by
  obtain ⟨vs, h1, h2⟩ := h
  rcases h1.2 with ⟨e, h0⟩ | ⟨g, cap, cur, e, hg, hh, hnc, hm, hc, hx⟩
  · cases e; intro a ha; cases ha
  · cases e; intro a ha; cases ha; exact hg
/-- a source that lies below the row -/
theorem OwnE.src {B2 n2 c2 : Nat} {A2 : Option Addr} {l2 : List α} (h : OwnE E T w base A n c l) (h2 : Elems E w B2 A2 n2 c2 l2) (hB : B2 ≤ base) (hw : base ≤ w.heap.size) : ElemsIn E (hid A w) w w.heap.size A2 n2 c2 l2 :=
  (ElemsIn.keep h2 (hid_lt A w fun a ha => Nat.le_trans hB (h.ge a ha)) (Sub.refl _ _)).more (Nat.le_trans hB hw)
/-- an append onto a row of the call's own -/
theorem OwnE.app {P : Program} (t ty : TypeId) (i : TypeInfo) (z : Value) (bytes : Nat) (ht : P.underlying t = some (.slice T)) (hi : P.info? T = some i) (hz : i.zero = some z) (hs : i.size = E.size) (hby : i.bytes = bytes) (hzs : z.cells.size = E.size)
    (h : OwnE E T w base A n c l) {n2 c2 : Nat} {A2 : Option Addr} {l2 : List α} (h2 : ElemsIn E (hid A w) w w.heap.size A2 n2 c2 l2) (h63 : n + n2 ≤ maxLen) (hbytes : (n + n2) * bytes ≤ 140737488355328) (hb : base ≤ w.heap.size) :
    ∃ A' c' w', (appSem #[t, t] ty #[.slice A n c, .slice A2 n2 c2]).run P w = .ok (.slice A' (n + n2) c') w' ∧ OwnE E T w' base A' (n + n2) c' (l ++ l2) ∧ Below base w w' ∧ w.grownBy w' ((Value.slice A 0 0).ownBlock) ∧ (A' = A ∨ ∃ a, A' = some a ∧ a.block = w.heap.size) := by
  have hgeA := h.ge
  obtain ⟨vs, h1, hr⟩ := h
  obtain ⟨vs2, hr2, hl2, hc2, hm2, hx2⟩ := h2
  have hcell : 0 < n2 → ∃ ad, A2 = some ad ∧ ∀ j v, vs2.flatten[j]? = some v → w.cell? (ad.add j) = some v := fun hp => by
    obtain ⟨b, o, e, hb, hcl⟩ := hx2 hp
    exact ⟨_, e, fun j v hv => by rw [add_none]; exact hcl j v hv⟩
  have hfl : vs2.flatten.length = n2 * E.size := by rw [hr2.flat (fun _ _ => E.len), hl2]
  have hone : ∀ v ∈ vs2.flatten, v.oneCell' = true := fun v hv => by
    obtain ⟨u, hu, hvu⟩ := List.mem_flatten.1 hv
    obtain ⟨x, hx⟩ := hr2.mem hu
    exact E.one hx v hvu
  have hown_A : ∀ k, (Value.slice A n c).ownBlock = some k → base ≤ k := own_block h1
  rcases Nat.eq_zero_or_pos n2 with h0 | h0
  · subst h0
    have e2 : vs2.flatten = [] := List.eq_nil_of_length_eq_zero (by simpa using hfl)
    have e3 : l2 = [] := List.eq_nil_of_length_eq_zero hl2
    subst e3
    refine ⟨A, c, w, ?_, ⟨vs, by simpa using h1, by simpa using hr⟩, Below.refl _ _, World.grownBy.refl w _, .inl rfl⟩
    have hl0 : ∀ a, (loadCells a 0).run P w = .ok #[] w := fun a => by simpa using run_loadCells_list (P := P) w a [] (by simp)
    unfold appSem
    rcases h1.2 with ⟨e, hn0⟩ | ⟨g, cap, cur, e, _, _, hnc, _⟩
    · cases e
      cases A2 <;> simp [Builtin.append_, run_underlying ht, sizeOf, typeInfo, hi, Builtin.lenOf, Builtin.firstCells, hl0]
    · cases e
      cases A2 <;> simp [Builtin.append_, run_underlying ht, sizeOf, typeInfo, hi, Builtin.lenOf, Builtin.firstCells, hnc, storeCells, hl0]
  · obtain ⟨ad, rfl, hnews⟩ := hcell h0
    obtain ⟨v', w', hrun, hown, hgr, _, hblk⟩ := run_append_own_at (P := P) w base t ty T i z E.size bytes ht hi hz hs hby hzs E.pos (.slice A n c) n vs.flatten h1 ad n2 c2 vs2.flatten hfl hnews hone h63 hbytes hb
    obtain ⟨A', c', rfl⟩ := own_slice hown
    have hgr' : w.grownBy w' ((Value.slice A 0 0).ownBlock) := by cases A <;> exact hgr
    have hA' : A' = A ∨ ∃ a, A' = some a ∧ a.block = w.heap.size := by
      rcases hblk with e | e
      · left
        rcases hown.2 with ⟨e1, h01⟩ | ⟨g, cap, cur, e1, _, _, _⟩
        · omega
        · cases e1
          cases A with
          | none => simp [Value.ownBlock] at e
          | some a =>
            rcases h1.2 with ⟨e2, _⟩ | ⟨g2, cap2, cur2, e2, _⟩
            · cases e2
            · cases e2
              simp [Value.ownBlock] at e
              rw [e]
      · right
        cases A' with
        | none => simp [Value.ownBlock] at e
        | some a => exact ⟨a, rfl, by simpa [Value.ownBlock] using e⟩
    refine ⟨A', c', w', hrun, ⟨vs ++ vs2, by simpa using hown, ?_⟩, (Below.refl _ w).grown hgr' hb (fun k hk => by cases A with | none => simp [Value.ownBlock] at hk | some a => exact hown_A k hk), hgr', hA'⟩
    have hsub := hid_grown hgr' hA'
    exact Rel2.append (hr2.imp fun _ _ hq => E.more hgr.size (E.sub hsub hq)) (hr.imp fun _ _ hq => E.more hgr.size (E.sub hsub hq))
end
end Go.Proofs.YtpdfnlhhnodnjaaGreat
end
section
namespace Go.Proofs.YtpdfnlhhnodnjaaGreat
open Go.RowKit
set_option linter.unusedVariables false
def runV (r : RunX) (A : Option Addr) (n c : Nat) : List Value := [.int .i64 r.at_, .slice A n c]
def RunE : El RunX where
  size := 2
  pos := by decide
  rel w B vs r := ∃ A n c, vs = runV r A n c ∧ Bytes w B A n c r.data ∧ In64 r.at_
  len := by rintro w B vs p ⟨A, n, c, rfl, _⟩; rfl
  one := by rintro w B vs p ⟨A, n, c, rfl, _⟩ v hv; simp only [runV, List.mem_cons, List.not_mem_nil, or_false] at hv; rcases hv with rfl | rfl <;> rfl
  sub := by rintro w w' B vs p hs ⟨A, n, c, e, h, r⟩; exact ⟨A, n, c, e, h.sub hs, r⟩
  more := by rintro w B B' vs p hB ⟨A, n, c, e, h, r⟩; exact ⟨A, n, c, e, h.more hB, r⟩
def patchV (x : PatchX) (A : Option Addr) (n c : Nat) : List Value := [.int .i64 x.page, .bool x.fresh, .slice A n c]
def PatchE : El PatchX where
  size := 3
  pos := by decide
  rel w B vs x := ∃ A n c, vs = patchV x A n c ∧ Elems RunE w B A n c x.runs ∧ In64 x.page
  len := by rintro w B vs p ⟨A, n, c, rfl, _⟩; rfl
  one := by rintro w B vs p ⟨A, n, c, rfl, _⟩ v hv; simp only [patchV, List.mem_cons, List.not_mem_nil, or_false] at hv; rcases hv with rfl | rfl | rfl <;> rfl
  sub := by rintro w w' B vs p hs ⟨A, n, c, e, h, r⟩; exact ⟨A, n, c, e, h.sub hs, r⟩
  more := by rintro w B B' vs p hB ⟨A, n, c, e, h, r⟩; exact ⟨A, n, c, e, h.more hB, r⟩
/-- a run in a slice: its cells -/
theorem run_at {wr w : World} {B n c k : Nat} {A : Option Addr} {l : List RunX} (h : ElemsIn RunE wr w B A n c l) (hk : k < n) : ∃ b o r A2 n2 c2, A = some ⟨b, o, none⟩ ∧ b < B ∧ l[k]? = some r ∧ Bytes wr B A2 n2 c2 r.data ∧ In64 r.at_ ∧
    w.cell? ⟨b, o + k * 2, none⟩ = some (.int .i64 r.at_) ∧ w.cell? ⟨b, o + k * 2 + 1, none⟩ = some (.slice A2 n2 c2) := by
  have hl : k < l.length := by rw [h.len]; exact hk
  obtain ⟨b, o, vs, e, hb, ⟨A2, n2, c2, rfl, hy, h1⟩, hc⟩ := h.at_ hk
  exact ⟨b, o, _, A2, n2, c2, e, hb, List.getElem?_eq_getElem hl, hy, h1, hc 0 _ rfl, hc 1 _ rfl⟩
/-- a patch in a slice: its cells -/
theorem patch_at {wr w : World} {B n c k : Nat} {A : Option Addr} {l : List PatchX} (h : ElemsIn PatchE wr w B A n c l) (hk : k < n) : ∃ b o x A2 n2 c2, A = some ⟨b, o, none⟩ ∧ b < B ∧ l[k]? = some x ∧ Elems RunE wr B A2 n2 c2 x.runs ∧ In64 x.page ∧
    w.cell? ⟨b, o + k * 3, none⟩ = some (.int .i64 x.page) ∧ w.cell? ⟨b, o + k * 3 + 1, none⟩ = some (.bool x.fresh) ∧ w.cell? ⟨b, o + k * 3 + 2, none⟩ = some (.slice A2 n2 c2) := by
  have hl : k < l.length := by rw [h.len]; exact hk
  obtain ⟨b, o, vs, e, hb, ⟨A2, n2, c2, rfl, hy, h1⟩, hc⟩ := h.at_ hk
  exact ⟨b, o, _, A2, n2, c2, e, hb, List.getElem?_eq_getElem hl, hy, h1, hc 0 _ rfl, hc 1 _ rfl, hc 2 _ rfl⟩
end Go.Proofs.YtpdfnlhhnodnjaaGreat
end
section
namespace Go.Proofs.YtpdfnlhhnodnjaaGreat.Same
open Go.RowKit

theorem str_beq (l l' : List UInt8) : ((strOf l).toList == (strOf l').toList) = (l == l') := by
  rw [Lib.toList_data, Lib.toList_data, strOf_data, strOf_data]

set_option maxHeartbeats 400000 in
theorem same_any (A A' : Option Addr) (n c n' c' B B' : Nat) (l l' : List UInt8) (w : World) (h : Bytes w B A n c l) (h' : Bytes w B' A' n' c' l') :
    Calls Tryz.prog 83 #[.slice A n c, .slice A' n' c'] w fun e w' => e = .returned (.bool (l == l')) ∧ w = w' := by
  have h1 := run_str (P := Tryz.prog) 32 9 5 Tryz.underlying32 Tryz.underlying5 Tryz.underlying9 h
  have h2 := run_str (P := Tryz.prog) 32 9 5 Tryz.underlying32 Tryz.underlying5 Tryz.underlying9 h'
  clear h h'
  have HS := Lib.hid (str_beq l l')
  go_enter Tryz.func83, Tryz.ntmps83
  go_wp2
  go_ret
  rw [← HS.out]
  exact ⟨rfl, rfl⟩

set_option maxHeartbeats 400000 in
theorem equal_any (A A' : Option Addr) (n c n' c' B B' : Nat) (l l' : List UInt8) (w : World) (h : Bytes w B A n c l) (h' : Bytes w B' A' n' c' l') :
    Calls Tryz.prog 57 #[.slice A n c, .slice A' n' c'] w fun e w' => e = .returned (.bool (l == l')) ∧ w = w' := by
  have h1 := run_str (P := Tryz.prog) 32 9 5 Tryz.underlying32 Tryz.underlying5 Tryz.underlying9 h
  have h2 := run_str (P := Tryz.prog) 32 9 5 Tryz.underlying32 Tryz.underlying5 Tryz.underlying9 h'
  clear h h'
  have HS := Lib.hid (str_beq l l')
  go_enter Tryz.func57, Tryz.ntmps57
  go_wp2
  go_ret
  rw [← HS.out]
  exact ⟨rfl, rfl⟩
end Go.Proofs.YtpdfnlhhnodnjaaGreat.Same
end
