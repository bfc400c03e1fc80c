/-
  Texts of one claim, joined: Elem, OpenE, PBe, PNum, PPatch.
-/
import Derived.Test.YtiokcemlfdonnaaRecP0
import Derived.Maps.AppendAt
import Derived.Deep.OwnRows
import Derived.Deep.Slices
import Derived.Laws.BitsAllLaws
namespace Go.Proofs.Ytiokcemlfdonnaa
open Go.RowKit
set_option linter.unusedVariables false

/-- what reads below B in the one world reads so in the other -/
def Sub (B : Nat) (w w' : World) : Prop := ∀ (p : Addr) (v : Value), p.block < B → w.cell? p = some v → w'.cell? p = some v
theorem Sub.refl (B : Nat) (w : World) : Sub B w w := fun _ _ _ h => h
theorem Sub.trans {B : Nat} {a b c : World} (h : Sub B a b) (k : Sub B b c) : Sub B a c := fun p v hp hv => k p v hp (h p v hp hv)
theorem Sub.less {B B' : Nat} {a b : World} (h : Sub B a b) (hB : B' ≤ B) : Sub B' a b := fun p v hp hv => h p v (by omega) hv
theorem sub_below {B : Nat} {w w' : World} (h : Below B w w') : Sub B w w' := fun p v hp hv => (h.cell hp).trans hv
theorem Bytes.sub {w w' : World} {B n c : Nat} {A : Option Addr} {l : List UInt8} (h : Bytes w B A n c l) (hs : Sub B w w') : Bytes w' B A n c l :=
  ⟨h.1, h.2.1, h.2.2.1, fun hn => by
    obtain ⟨b, o, e, hb, hc⟩ := h.2.2.2 hn
    exact ⟨b, o, e, hb, fun j u hu => hs _ _ hb (hc j u hu)⟩⟩

/-- a world in which a block is empty -/
def hide (w : World) (g : Nat) : World := w.setRow g #[]
theorem hide_size (w : World) (g : Nat) : (hide w g).heap.size = w.heap.size := by simp [hide, World.setRow]
theorem hide_other (w : World) (g : Nat) (p : Addr) (h : p.block ≠ g) : (hide w g).cell? p = w.cell? p := World.cell?_of_block (setRow_other w g p.block #[] h)
theorem hide_none (w : World) (p : Addr) : (hide w p.block).cell? p = none := by
  unfold hide World.setRow World.cell?
  simp only [Array.getElem?_modify, if_true]
  cases hx : w.heap[p.block]? with
  | none => simp
  | some o => cases o <;> simp
theorem sub_hide (B : Nat) (w : World) (g : Nat) : Sub B (hide w g) w := by
  intro p v hp hv
  by_cases h : p.block = g
  · subst h; rw [hide_none] at hv; cases hv
  · rwa [hide_other w g p h] at hv
/-- what lies below a block does not hang on it -/
theorem sub_hide_lt {B g : Nat} (w : World) (h : B ≤ g) : Sub B w (hide w g) := fun p v hp hv => by rw [hide_other w g p (by omega)]; exact hv
theorem hide_sub_of {B g : Nat} {w w' : World} (h : ∀ k, k < B → k ≠ g → w'.heap[k]? = w.heap[k]?) : Sub B (hide w g) (hide w' g) := by
  intro p v hp hv
  by_cases hg : p.block = g
  · subst hg; rw [hide_none] at hv; cases hv
  · rw [hide_other w g p hg] at hv
    rw [hide_other w' g p hg, World.cell?_of_block (h p.block hp hg)]
    exact hv
/-- the row of a slice hidden -/
def hid (A : Option Addr) (w : World) : World := match A with
  | some a => hide w a.block
  | none => w
theorem sub_hid (B : Nat) (A : Option Addr) (w : World) : Sub B (hid A w) w := by
  cases A with
  | none => exact Sub.refl _ _
  | some a => exact sub_hide B w a.block
theorem hid_below {B : Nat} {w w' : World} (A : Option Addr) (h : Below B w w') : Sub B (hid A w) (hid A w') := by
  cases A with
  | none => exact sub_below h
  | some a => exact hide_sub_of fun k hk _ => h.block k hk
theorem hid_lt {B : Nat} (A : Option Addr) (w : World) (h : ∀ a, A = some a → B ≤ a.block) : Sub B w (hid A w) := by
  cases A with
  | none => exact Sub.refl _ _
  | some a => exact sub_hide_lt w (h a rfl)
theorem hid_grown {w w' : World} {A A' : Option Addr} (hg : w.grownBy w' ((Value.slice A 0 0).ownBlock)) (h : A' = A ∨ ∃ a, A' = some a ∧ a.block = w.heap.size) : Sub w.heap.size (hid A w) (hid A' w') := by
  rcases h with rfl | ⟨a, rfl, ha⟩
  · cases A' with
    | none => exact fun p v hp hv => (World.cell?_of_block (hg.block p.block hp (by simp [Value.ownBlock]))).trans hv
    | some a => exact hide_sub_of fun k hk hne => hg.block k hk (by simpa [Value.ownBlock] using hne)
  · intro p v hp hv
    show (hide w' a.block).cell? p = some v
    rw [hide_other w' a.block p (by omega)]
    cases A with
    | none => exact (World.cell?_of_block (hg.block p.block hp (by simp [Value.ownBlock]))).trans hv
    | some a0 =>
      by_cases h0 : p.block = a0.block
      · have : (hide w a0.block).cell? p = none := by rw [← h0]; exact hide_none w p
        change (hide w a0.block).cell? p = some v at hv
        rw [this] at hv
        cases hv
      · change (hide w a0.block).cell? p = some v at hv
        rw [hide_other w a0.block p h0] at hv
        exact (World.cell?_of_block (hg.block p.block hp (by simpa [Value.ownBlock] using h0))).trans hv

/-- how an element lies in memory -/
structure El (α : Type) where
  size : Nat
  pos : 0 < size
  rel : World → Nat → List Value → α → Prop
  len : ∀ {w B vs x}, rel w B vs x → vs.length = size
  one : ∀ {w B vs x}, rel w B vs x → ∀ v ∈ vs, v.oneCell' = true
  sub : ∀ {w w' B vs x}, Sub B w w' → rel w B vs x → rel w' B vs x
  more : ∀ {w B B' vs x}, B ≤ B' → rel w B vs x → rel w B' vs x

/-- side by side -/
def Rel2 {α : Type} (R : List Value → α → Prop) : List (List Value) → List α → Prop
  | [], [] => True
  | v :: vs, x :: xs => R v x ∧ Rel2 R vs xs
  | _, _ => False
section
variable {α : Type} {R R' : List Value → α → Prop}
theorem Rel2.length : ∀ {vs : List (List Value)} {xs : List α}, Rel2 R vs xs → vs.length = xs.length
  | [], [], _ => rfl
  | _ :: vs, _ :: xs, h => by simp [Rel2.length h.2]
  | [], _ :: _, h => h.elim
  | _ :: _, [], h => h.elim
theorem Rel2.imp (hi : ∀ v x, R v x → R' v x) : ∀ {vs : List (List Value)} {xs : List α}, Rel2 R vs xs → Rel2 R' vs xs
  | [], [], _ => trivial
  | _ :: vs, _ :: xs, h => ⟨hi _ _ h.1, Rel2.imp hi h.2⟩
  | [], _ :: _, h => h.elim
  | _ :: _, [], h => h.elim
theorem Rel2.append {vs2 : List (List Value)} {xs2 : List α} (h2 : Rel2 R vs2 xs2) : ∀ {vs : List (List Value)} {xs : List α}, Rel2 R vs xs → Rel2 R (vs ++ vs2) (xs ++ xs2)
  | [], [], _ => h2
  | _ :: vs, _ :: xs, h => ⟨h.1, Rel2.append h2 h.2⟩
  | [], _ :: _, h => h.elim
  | _ :: _, [], h => h.elim
theorem Rel2.take : ∀ (k : Nat) {vs : List (List Value)} {xs : List α}, Rel2 R vs xs → Rel2 R (vs.take k) (xs.take k)
  | 0, _, _, _ => by simp [Rel2]
  | _ + 1, [], [], _ => trivial
  | k + 1, _ :: vs, _ :: xs, h => ⟨h.1, Rel2.take k h.2⟩
  | _ + 1, [], _ :: _, h => h.elim
  | _ + 1, _ :: _, [], h => h.elim
theorem Rel2.drop : ∀ (k : Nat) {vs : List (List Value)} {xs : List α}, Rel2 R vs xs → Rel2 R (vs.drop k) (xs.drop k)
  | 0, _, _, h => by simpa using h
  | _ + 1, [], [], _ => trivial
  | k + 1, _ :: vs, _ :: xs, h => Rel2.drop k h.2
  | _ + 1, [], _ :: _, h => h.elim
  | _ + 1, _ :: _, [], h => h.elim
theorem Rel2.get : ∀ {vs : List (List Value)} {xs : List α} {j : Nat} {x : α}, Rel2 R vs xs → xs[j]? = some x → ∃ v, vs[j]? = some v ∧ R v x
  | v :: vs, y :: xs, 0, x, h, hx => by
    simp at hx; subst hx; exact ⟨v, rfl, h.1⟩
  | v :: vs, y :: xs, j + 1, x, h, hx => by
    obtain ⟨u, hu, hr⟩ := Rel2.get h.2 (by simpa using hx)
    exact ⟨u, by simpa using hu, hr⟩
  | [], [], j, x, h, hx => by simp at hx
  | [], _ :: _, _, _, h, _ => h.elim
  | _ :: _, [], _, _, h, _ => h.elim
theorem Rel2.set {v : List Value} {x : α} (hr : R v x) : ∀ {vs : List (List Value)} {xs : List α} (j : Nat), Rel2 R vs xs → Rel2 R (vs.set j v) (xs.set j x)
  | [], [], _, _ => by simp [Rel2]
  | _ :: vs, _ :: xs, 0, h => ⟨hr, h.2⟩
  | _ :: vs, _ :: xs, j + 1, h => ⟨h.1, Rel2.set hr j h.2⟩
  | [], _ :: _, _, h => h.elim
  | _ :: _, [], _, h => h.elim
theorem Rel2.flat {size : Nat} (hl : ∀ v x, R v x → v.length = size) : ∀ {vs : List (List Value)} {xs : List α}, Rel2 R vs xs → vs.flatten.length = xs.length * size
  | [], [], _ => by simp
  | v :: vs, _ :: xs, h => by
    rw [List.flatten_cons, List.length_append, hl _ _ h.1, Rel2.flat hl h.2, List.length_cons, Nat.add_mul]; omega
  | [], _ :: _, h => h.elim
  | _ :: _, [], h => h.elim
theorem Rel2.mem {v : List Value} : ∀ {vs : List (List Value)} {xs : List α}, Rel2 R vs xs → v ∈ vs → ∃ x, R v x
  | [], [], _, hm => by cases hm
  | u :: vs, x :: xs, h, hm => by
    rcases List.mem_cons.1 hm with rfl | hm
    · exact ⟨x, h.1⟩
    · exact Rel2.mem h.2 hm
  | [], _ :: _, h, _ => h.elim
  | _ :: _, [], h, _ => h.elim
end
/-- where an element's cells stand among all -/
theorem flat_at {size : Nat} : ∀ (vs : List (List Value)), (∀ v ∈ vs, v.length = size) → ∀ (j : Nat) (v : List Value) (i : Nat) (u : Value), vs[j]? = some v → v[i]? = some u → vs.flatten[j * size + i]? = some u
  | [], _, j, v, i, u, h, _ => by simp at h
  | v0 :: vs, hl, 0, v, i, u, h, hu => by
    simp at h; subst h
    have hi : i < v0.length := (List.getElem?_eq_some_iff.1 hu).1
    rw [List.flatten_cons, Nat.zero_mul, Nat.zero_add, List.getElem?_append_left hi]
    exact hu
  | v0 :: vs, hl, j + 1, v, i, u, h, hu => by
    have h0 := hl v0 (by simp)
    have := flat_at vs (fun x hx => hl x (by simp [hx])) j v i u (by simpa using h) hu
    rw [List.flatten_cons, List.getElem?_append_right (by rw [h0, Nat.add_mul]; omega), h0, show (j + 1) * size + i - size = j * size + i by rw [Nat.add_mul]; omega]
    exact this
theorem flat_take {size : Nat} : ∀ (vs : List (List Value)), (∀ v ∈ vs, v.length = size) → ∀ k, (vs.take k).flatten = vs.flatten.take (k * size)
  | [], _, k => by simp
  | v0 :: vs, hl, 0 => by simp
  | v0 :: vs, hl, k + 1 => by
    have h0 := hl v0 (by simp)
    rw [List.take_succ_cons, List.flatten_cons, List.flatten_cons, flat_take vs (fun x hx => hl x (by simp [hx])) k, List.take_append, h0, List.take_of_length_le (l := v0) (by rw [h0, Nat.add_mul]; omega), show (k + 1) * size - size = k * size by rw [Nat.add_mul]; omega]
theorem flat_drop {size : Nat} : ∀ (vs : List (List Value)), (∀ v ∈ vs, v.length = size) → ∀ k, (vs.drop k).flatten = vs.flatten.drop (k * size)
  | [], _, k => by simp
  | v0 :: vs, hl, 0 => by simp
  | v0 :: vs, hl, k + 1 => by
    have h0 := hl v0 (by simp)
    rw [List.drop_succ_cons, List.flatten_cons, flat_drop vs (fun x hx => hl x (by simp [hx])) k, List.drop_append, h0, List.drop_of_length_le (l := v0) (by rw [h0, Nat.add_mul]; omega), show (k + 1) * size - size = k * size by rw [Nat.add_mul]; omega, List.nil_append]

section
variable {α : Type} {E : El α} {w w' wr wr' : World} {B B' n c : Nat} {A : Option Addr} {l : List α}
/-- the slice (A, n, c) has its cells in w; what they read as is told by wr -/
def ElemsIn (E : El α) (wr w : World) (B : Nat) (A : Option Addr) (n c : Nat) (l : List α) : Prop :=
  ∃ vs, Rel2 (E.rel wr B) vs l ∧ l.length = n ∧ n ≤ c ∧ c ≤ maxLen ∧ (0 < n → ∃ b o, A = some ⟨b, o, none⟩ ∧ b < B ∧ ∀ j v, vs.flatten[j]? = some v → w.cell? ⟨b, o + j, none⟩ = some v)
/-- the slice (A, n, c) reads as l -/
def Elems (E : El α) (w : World) (B : Nat) (A : Option Addr) (n c : Nat) (l : List α) : Prop := ElemsIn E w w B A n c l
theorem ElemsIn.len (h : ElemsIn E wr w B A n c l) : l.length = n := by obtain ⟨_, _, h, _⟩ := h; exact h
theorem ElemsIn.cap (h : ElemsIn E wr w B A n c l) : n ≤ c ∧ c ≤ maxLen := by obtain ⟨_, _, _, h, h2, _⟩ := h; exact ⟨h, h2⟩
theorem ElemsIn.keep (h : ElemsIn E wr w B A n c l) (h1 : Sub B wr wr') (h2 : Sub B w w') : ElemsIn E wr' w' B A n c l := by
  obtain ⟨vs, hr, hl, hc, hm, hx⟩ := h
  refine ⟨vs, hr.imp fun _ _ => E.sub h1, hl, hc, hm, fun hn => ?_⟩
  obtain ⟨b, o, e, hb, hcell⟩ := hx hn
  exact ⟨b, o, e, hb, fun j v hv => h2 _ _ hb (hcell j v hv)⟩
theorem ElemsIn.more (h : ElemsIn E wr w B A n c l) (hB : B ≤ B') : ElemsIn E wr w B' A n c l := by
  obtain ⟨vs, hr, hl, hc, hm, hx⟩ := h
  refine ⟨vs, hr.imp fun _ _ => E.more hB, hl, hc, hm, fun hn => ?_⟩
  obtain ⟨b, o, e, hb, hcell⟩ := hx hn
  exact ⟨b, o, e, by omega, hcell⟩
theorem Elems.len (h : Elems E w B A n c l) : l.length = n := ElemsIn.len h
theorem Elems.cap (h : Elems E w B A n c l) : n ≤ c ∧ c ≤ maxLen := ElemsIn.cap h
theorem Elems.sub (h : Elems E w B A n c l) (hs : Sub B w w') : Elems E w' B A n c l := ElemsIn.keep h hs hs
theorem Elems.below (h : Elems E w B A n c l) (hb : Below B w w') : Elems E w' B A n c l := h.sub (sub_below hb)
theorem Elems.more (h : Elems E w B A n c l) (hB : B ≤ B') : Elems E w B' A n c l := ElemsIn.more h hB
theorem Elems.next (h : Elems E w w.heap.size A n c l) (hb : Below w.heap.size w w') : Elems E w' w'.heap.size A n c l := (h.below hb).more hb.size
theorem Elems.none_ (E : El α) (w : World) (B : Nat) : Elems E w B none 0 0 [] := ⟨[], trivial, rfl, Nat.le_refl _, by unfold maxLen; omega, fun h => absurd h (by omega)⟩
theorem Elems.drewN (h : Elems E w B A n c l) (k : Nat) : Elems E (w.drewN k) B A n c l := h.sub fun p v _ hv => hv
theorem ElemsIn.at_ {k : Nat} (h : ElemsIn E wr w B A n c l) (hk : k < n) : ∃ b o vs, A = some ⟨b, o, none⟩ ∧ b < B ∧ E.rel wr B vs (l[k]'(by rw [h.len]; exact hk)) ∧ ∀ i v, vs[i]? = some v → w.cell? ⟨b, o + k * E.size + i, none⟩ = some v := by
  obtain ⟨vss, hr, hl, hc, hm, hx⟩ := h
  obtain ⟨b, o, e, hb, hcell⟩ := hx (by omega)
  obtain ⟨vs, hvs, hrel⟩ := hr.get (List.getElem?_eq_getElem (by omega : k < l.length))
  refine ⟨b, o, vs, e, hb, hrel, fun i v hv => ?_⟩
  rw [Nat.add_assoc]
  exact hcell _ v (flat_at vss (fun x hx => by obtain ⟨y, hy⟩ := hr.mem hx; exact E.len hy) k vs i v hvs hv)
theorem Elems.at_ {k : Nat} (h : Elems E w B A n c l) (hk : k < n) : ∃ b o vs, A = some ⟨b, o, none⟩ ∧ b < B ∧ E.rel w B vs (l[k]'(by rw [h.len]; exact hk)) ∧ ∀ i v, vs[i]? = some v → w.cell? ⟨b, o + k * E.size + i, none⟩ = some v := ElemsIn.at_ h hk
theorem ElemsIn.cut (h : ElemsIn E wr w B A n c l) (lo hi m : Nat) (h1 : lo ≤ hi) (h2 : hi ≤ n) (h3 : hi ≤ m) (h4 : m ≤ c) :
    ElemsIn E wr w B (cutA A lo m E.size) (hi - lo) (m - lo) ((l.drop lo).take (hi - lo)) := by
  obtain ⟨vss, hr, hl, hc, hm, hx⟩ := h
  refine ⟨_, (hr.drop lo).take (hi - lo), by simp; omega, by omega, by omega, fun hn => ?_⟩
  obtain ⟨b, o, rfl, hb, hcell⟩ := hx (by omega)
  unfold cutA
  rw [if_neg (by omega)]
  refine ⟨b, o + lo * E.size, by simp [add_none], hb, fun j v hv => ?_⟩
  have hall : ∀ v ∈ vss, v.length = E.size := fun x hx => by obtain ⟨y, hy⟩ := hr.mem hx; exact E.len hy
  rw [flat_take _ (fun v hv => hall v (List.mem_of_mem_drop hv)), flat_drop _ hall, List.getElem?_take] at hv
  split at hv
  · rw [List.getElem?_drop] at hv
    rw [Nat.add_assoc]
    exact hcell _ v hv
  · cases hv
theorem Elems.cut (h : Elems E w B A n c l) (lo hi m : Nat) (h1 : lo ≤ hi) (h2 : hi ≤ n) (h3 : hi ≤ m) (h4 : m ≤ c) :
    Elems E w B (cutA A lo m E.size) (hi - lo) (m - lo) ((l.drop lo).take (hi - lo)) := ElemsIn.cut h lo hi m h1 h2 h3 h4

/-- a row of the call's own: what its elements read as does not hang on the row -/
def OwnE (E : El α) (T : TypeId) (w : World) (base : Nat) (A : Option Addr) (n c : Nat) (l : List α) : Prop :=
  ∃ vs, w.ownsRow base T E.size (.slice A n c) n vs.flatten ∧ Rel2 (E.rel (hid A w) w.heap.size) vs l
variable {T : TypeId} {base : Nat}
theorem OwnE.len (h : OwnE E T w base A n c l) : l.length = n := by
  obtain ⟨vs, h1, h2⟩ := h
  have e1 := h1.1
  rw [h2.flat (fun _ _ => E.len)] at e1
  exact Nat.eq_of_mul_eq_mul_right E.pos e1
theorem OwnE.none_ (E : El α) (T : TypeId) (w : World) (base : Nat) : OwnE E T w base none 0 0 [] := ⟨[], World.ownsRow_nil _ _ _ _, trivial⟩
theorem OwnE.next (h : OwnE E T w base A n c l) (hb : Below w.heap.size w w') : OwnE E T w' base A n c l := by
  obtain ⟨vs, h1, h2⟩ := h
  exact ⟨vs, own_next h1 hb, h2.imp fun _ _ hr => E.more hb.size (E.sub (hid_below A hb) hr)⟩
theorem OwnE.elemsIn (h : OwnE E T w base A n c l) : ElemsIn E (hid A w) w w.heap.size A n c l := by
  have hl := h.len
  obtain ⟨vs, h1, h2⟩ := h
  rcases h1.2 with ⟨e, h0⟩ | ⟨g, cap, cur, e, hg, hh, hnc, hm, hc, hx⟩
  · cases e
    exact ⟨vs, h2, hl, Nat.le_refl _, by unfold maxLen; omega, fun hp => absurd hp (by omega)⟩
  · cases e
    refine ⟨vs, h2, hl, hnc, hm, fun _ => ⟨g, 0, rfl, (Array.getElem?_eq_some_iff.1 hh).1, fun j u hu => ?_⟩⟩
    rw [← hx, List.getElem?_take] at hu
    split at hu
    · simp only [World.cell?, hh, Nat.zero_add]
      simpa using hu
    · cases hu
theorem OwnE.elems (h : OwnE E T w base A n c l) : Elems E w w.heap.size A n c l := h.elemsIn.keep (sub_hid _ A w) (Sub.refl _ _)
theorem OwnE.less {base' : Nat} (h : OwnE E T w base A n c l) (hb : base' ≤ base) : OwnE E T w base' A n c l := by
  obtain ⟨vs, h1, h2⟩ := h
  exact ⟨vs, ⟨h1.1, h1.2.imp id fun ⟨g, cap, cur, e1, hg, r⟩ => ⟨g, cap, cur, e1, Nat.le_trans hb hg, r⟩⟩, h2⟩
theorem OwnE.ge (h : OwnE E T w base A n c l) : ∀ a, A = some a → base ≤ a.block := by
  obtain ⟨vs, h1, h2⟩ := h
  rcases h1.2 with ⟨e, h0⟩ | ⟨g, cap, cur, e, hg, hh, hnc, hm, hc, hx⟩
  · cases e; intro a ha; cases ha
  · cases e; intro a ha; cases ha; exact hg
/-- a source that lies below the row -/
theorem OwnE.src {B2 n2 c2 : Nat} {A2 : Option Addr} {l2 : List α} (h : OwnE E T w base A n c l) (h2 : Elems E w B2 A2 n2 c2 l2) (hB : B2 ≤ base) (hw : base ≤ w.heap.size) : ElemsIn E (hid A w) w w.heap.size A2 n2 c2 l2 :=
  (ElemsIn.keep h2 (hid_lt A w fun a ha => Nat.le_trans hB (h.ge a ha)) (Sub.refl _ _)).more (Nat.le_trans hB hw)
/-- an append onto a row of the call's own -/
theorem OwnE.app {P : Program} (t ty : TypeId) (i : TypeInfo) (z : Value) (bytes : Nat) (ht : P.underlying t = some (.slice T)) (hi : P.info? T = some i) (hz : i.zero = some z) (hs : i.size = E.size) (hby : i.bytes = bytes) (hzs : z.cells.size = E.size)
    (h : OwnE E T w base A n c l) {n2 c2 : Nat} {A2 : Option Addr} {l2 : List α} (h2 : ElemsIn E (hid A w) w w.heap.size A2 n2 c2 l2) (h63 : n + n2 ≤ maxLen) (hbytes : (n + n2) * bytes ≤ 140737488355328) (hb : base ≤ w.heap.size) :
    ∃ A' c' w', (appSem #[t, t] ty #[.slice A n c, .slice A2 n2 c2]).run P w = .ok (.slice A' (n + n2) c') w' ∧ OwnE E T w' base A' (n + n2) c' (l ++ l2) ∧ Below base w w' ∧ w.grownBy w' ((Value.slice A 0 0).ownBlock) ∧ (A' = A ∨ ∃ a, A' = some a ∧ a.block = w.heap.size) := by
  have hgeA := h.ge
  obtain ⟨vs, h1, hr⟩ := h
  obtain ⟨vs2, hr2, hl2, hc2, hm2, hx2⟩ := h2
  have hcell : 0 < n2 → ∃ ad, A2 = some ad ∧ ∀ j v, vs2.flatten[j]? = some v → w.cell? (ad.add j) = some v := fun hp => by
    obtain ⟨b, o, e, hb, hcl⟩ := hx2 hp
    exact ⟨_, e, fun j v hv => by rw [add_none]; exact hcl j v hv⟩
  have hfl : vs2.flatten.length = n2 * E.size := by rw [hr2.flat (fun _ _ => E.len), hl2]
  have hone : ∀ v ∈ vs2.flatten, v.oneCell' = true := fun v hv => by
    obtain ⟨u, hu, hvu⟩ := List.mem_flatten.1 hv
    obtain ⟨x, hx⟩ := hr2.mem hu
    exact E.one hx v hvu
  have hown_A : ∀ k, (Value.slice A n c).ownBlock = some k → base ≤ k := own_block h1
  rcases Nat.eq_zero_or_pos n2 with h0 | h0
  · subst h0
    have e2 : vs2.flatten = [] := List.eq_nil_of_length_eq_zero (by simpa using hfl)
    have e3 : l2 = [] := List.eq_nil_of_length_eq_zero hl2
    subst e3
    refine ⟨A, c, w, ?_, ⟨vs, by simpa using h1, by simpa using hr⟩, Below.refl _ _, World.grownBy.refl w _, .inl rfl⟩
    have hl0 : ∀ a, (loadCells a 0).run P w = .ok #[] w := fun a => by simpa using run_loadCells_list (P := P) w a [] (by simp)
    unfold appSem
    rcases h1.2 with ⟨e, hn0⟩ | ⟨g, cap, cur, e, _, _, hnc, _⟩
    · cases e
      cases A2 <;> simp [Builtin.append_, run_underlying ht, sizeOf, typeInfo, hi, Builtin.lenOf, Builtin.firstCells, hl0]
    · cases e
      cases A2 <;> simp [Builtin.append_, run_underlying ht, sizeOf, typeInfo, hi, Builtin.lenOf, Builtin.firstCells, hnc, storeCells, hl0]
  · obtain ⟨ad, rfl, hnews⟩ := hcell h0
    obtain ⟨v', w', hrun, hown, hgr, _, hblk⟩ := run_append_own_at (P := P) w base t ty T i z E.size bytes ht hi hz hs hby hzs E.pos (.slice A n c) n vs.flatten h1 ad n2 c2 vs2.flatten hfl hnews hone h63 hbytes hb
    obtain ⟨A', c', rfl⟩ := own_slice hown
    have hgr' : w.grownBy w' ((Value.slice A 0 0).ownBlock) := by cases A <;> exact hgr
    have hA' : A' = A ∨ ∃ a, A' = some a ∧ a.block = w.heap.size := by
      rcases hblk with e | e
      · left
        rcases hown.2 with ⟨e1, h01⟩ | ⟨g, cap, cur, e1, _, _, _⟩
        · omega
        · cases e1
          cases A with
          | none => simp [Value.ownBlock] at e
          | some a =>
            rcases h1.2 with ⟨e2, _⟩ | ⟨g2, cap2, cur2, e2, _⟩
            · cases e2
            · cases e2
              simp [Value.ownBlock] at e
              rw [e]
      · right
        cases A' with
        | none => simp [Value.ownBlock] at e
        | some a => exact ⟨a, rfl, by simpa [Value.ownBlock] using e⟩
    refine ⟨A', c', w', hrun, ⟨vs ++ vs2, by simpa using hown, ?_⟩, (Below.refl _ w).grown hgr' hb (fun k hk => by cases A with | none => simp [Value.ownBlock] at hk | some a => exact hown_A k hk), hgr', hA'⟩
    have hsub := hid_grown hgr' hA'
    exact Rel2.append (hr2.imp fun _ _ hq => E.more hgr.size (E.sub hsub hq)) (hr.imp fun _ _ hq => E.more hgr.size (E.sub hsub hq))
end
end Go.Proofs.Ytiokcemlfdonnaa
namespace Go.Proofs.Ytiokcemlfdonnaa
open Go.ChangeShapes Go.WideShapes Go.ChangeAt Go.RowKit
set_option linter.unusedVariables false
section
variable {H : Type} {enc : TypeId × Value → H} {P : Program} {w : World}
/-- a slice whose elements can be read one by one -/
theorem elems_of {α : Type} (E : El α) {fuel : Nat} {t e : TypeId} {cs : List Value} {x : DataW H × List MemPlace} (ht : P.underlying t = some (.slice e)) (hc : P.cellsOf e = E.size)
    (hel : ∀ (n : Nat) (cs : List Value) y, DataW.trod enc P w 0 (fun _ => true) true n e cs = some y → ∃ x, E.rel w w.heap.size cs x)
    (h : DataW.trod enc P w 0 (fun _ => true) true fuel t cs = some x) : ∃ A n c l, cs = [.slice A n c] ∧ Elems E w w.heap.size A n c l := by
  rcases Go.Deep.open_slice ht h with ⟨hcs, _⟩ | ⟨a, len, cap, m, n, D, Pl, hcs, _, hl, hm, hmm, _, hx⟩
  · exact ⟨none, 0, 0, [], hcs, Elems.none_ _ _ _⟩
  · have hlm : len ≤ m := by rw [hmm]; split <;> omega
    have key : ∀ k, k ≤ len → ∃ (vs : List (List Value)) (l : List α), Rel2 (E.rel w w.heap.size) vs l ∧ l.length = k ∧ ∀ j v, vs.flatten[j]? = some v → w.cell? (a.add j) = some v := by
      intro k
      induction k with
      | zero => intro _; exact ⟨[], [], trivial, rfl, fun j v hv => by simp at hv⟩
      | succ k ih =>
        intro hk
        obtain ⟨vs, l, hr, hlen, hcell⟩ := ih (by omega)
        obtain ⟨cs', h1, h2⟩ := hx k (by omega)
        obtain ⟨y, hy⟩ := hel _ _ _ h2
        obtain ⟨_, hcl, hci⟩ := World.cells?_some h1
        refine ⟨vs ++ [cs'], l ++ [y], Rel2.append (show Rel2 (E.rel w w.heap.size) [cs'] [y] from ⟨hy, trivial⟩) hr, by simp [hlen], fun j v hv => ?_⟩
        have hfl : vs.flatten.length = k * E.size := by rw [hr.flat (fun _ _ => E.len), hlen]
        rw [List.flatten_append, List.flatten_singleton] at hv
        by_cases hj : j < vs.flatten.length
        · rw [List.getElem?_append_left hj] at hv
          exact hcell j v hv
        · rw [List.getElem?_append_right (by omega), hfl] at hv
          have hi := (List.getElem?_eq_some_iff.1 hv).1
          have := hci (j - k * E.size) (by omega)
          rw [hv, hc, Go.Deep.add_add, show k * E.size + (j - k * E.size) = j by omega] at this
          exact this
    obtain ⟨vs, l, hr, hlen, hcell⟩ := key len (Nat.le_refl _)
    refine ⟨some a, len, cap, l, hcs, vs, hr, hlen, hl, hm, fun hn => ?_⟩
    have hfl : vs.flatten.length = len * E.size := by rw [hr.flat (fun _ _ => E.len), hlen]
    have hpos : 0 < vs.flatten.length := by rw [hfl]; exact Nat.mul_pos hn E.pos
    obtain ⟨b, o, s⟩ := a
    have h0 := hcell 0 _ (List.getElem?_eq_getElem hpos)
    have hs : s = none := by simpa [Addr.add] using World.cell?_spot h0
    subst hs
    refine ⟨b, o, rfl, by simpa [Addr.add] using lt_of_cell h0, fun j v hv => ?_⟩
    have := hcell j v hv
    rwa [add_none] at this
end
end Go.Proofs.Ytiokcemlfdonnaa
namespace Go.Proofs.Ytiokcemlfdonnaa.BeP

/-- a number of 64 bits, as a natural number -/
def u64 (m : Int) : Nat := (m % 18446744073709551616).toNat
/-- byte k of the lowest width bytes of m -/
def part (width : Nat) (m : Int) (k : Nat) : UInt8 := UInt8.ofNat (u64 m / 2 ^ (8 * (width - 1 - k)))
/-- the lowest width bytes of m, the greatest one ahead -/
def parts (width : Nat) (m : Int) : List UInt8 := (List.range width).map (part width m)
theorem parts_length (width : Nat) (m : Int) : (parts width m).length = width := by simp [parts]
theorem parts_take (width : Nat) (m : Int) (k : Nat) (h : k < width) : (parts width m).take (k + 1) = (parts width m).take k ++ [part width m k] := by
  have hl : k < (parts width m).length := by rw [parts_length]; exact h
  rw [List.take_succ_eq_append_getElem hl]
  simp [parts]
theorem parts_all (width : Nat) (m : Int) (k : Nat) (h : ¬ k < width) : (parts width m).take k = parts width m := List.take_of_length_le (by rw [parts_length]; omega)
theorem u64_wrap (m : Int) : IntKind.u64.wrap m = (u64 m : Int) := by
  simp only [IntKind.wrap, IntKind.bits, IntKind.signed, u64]
  simp
  omega
/-- as the walk spells it -/
theorem part_walk (width : Nat) (m : Int) (k : Nat) (h : k < width) : IntKind.u64.wrap m / 2 ^ (8 * (width - 1) - 8 * k) % 256 = ((part width m k).toNat : Int) := by
  have e : 8 * (width - 1) - 8 * k = 8 * (width - 1 - k) := by omega
  rw [u64_wrap, e, part]
  generalize 8 * (width - 1 - k) = j
  generalize u64 m = u
  have h1 : (UInt8.ofNat (u / 2 ^ j)).toNat = u / 2 ^ j % 256 := by simp
  rw [h1]
  simp
end Go.Proofs.Ytiokcemlfdonnaa.BeP
namespace Go.Proofs.Ytiokcemlfdonnaa.NumP

def nstep (n : Nat) (c : UInt8) : Nat := n * 256 + c.toNat
/-- the number of bytes -/
def num (l : List UInt8) : Nat := l.foldl nstep 0
/-- a number of 64 bits without a sign, as one with a sign -/
def toI (u : Nat) : Int := if u < 9223372036854775808 then (u : Int) else (u : Int) - 18446744073709551616
/-- are there width bytes from at on? -/
def there (l : List UInt8) (at_ width : Nat) : Bool := decide (at_ + width ≤ l.length)
/-- their number, or 0 -/
def val (l : List UInt8) (at_ width : Nat) : Int := if at_ + width ≤ l.length then toI (num ((l.drop at_).take width)) else 0

theorem num_snoc (l : List UInt8) (c : UInt8) : num (l ++ [c]) = num l * 256 + c.toNat := by simp [num, nstep]
theorem fold_lt (l : List UInt8) (n : Nat) : l.foldl nstep n < (n + 1) * 256 ^ l.length := by
  induction l generalizing n with
  | nil => simp
  | cons c l ih =>
    have h1 := ih (nstep n c)
    have hc := c.toNat_lt
    have h2 : (nstep n c + 1) * 256 ^ l.length ≤ ((n + 1) * 256) * 256 ^ l.length := Nat.mul_le_mul_right _ (by unfold nstep; omega)
    have h3 : (n + 1) * 256 ^ (l.length + 1) = ((n + 1) * 256) * 256 ^ l.length := by rw [Nat.pow_succ, Nat.mul_assoc, Nat.mul_comm (256 ^ l.length)]
    show l.foldl nstep (nstep n c) < (n + 1) * 256 ^ (l.length + 1)
    rw [h3]
    omega
theorem num_lt (l : List UInt8) : num l < 256 ^ l.length := by
  have := fold_lt l 0
  simpa [num] using this
theorem num_lt8 (l : List UInt8) (h : l.length ≤ 8) : num l < 18446744073709551616 := by
  have h1 := num_lt l
  have h2 : 256 ^ l.length ≤ 256 ^ 8 := Nat.pow_le_pow_right (by decide) h
  have h3 : (256 : Nat) ^ 8 = 18446744073709551616 := by decide
  omega
theorem num_lt7 (l : List UInt8) (h : l.length ≤ 7) : num l < 72057594037927936 := by
  have h1 := num_lt l
  have h2 : 256 ^ l.length ≤ 256 ^ 7 := Nat.pow_le_pow_right (by decide) h
  have h3 : (256 : Nat) ^ 7 = 72057594037927936 := by decide
  omega
theorem toI_in (u : Nat) (h : u < 18446744073709551616) : In64 (toI u) := by
  unfold toI In64
  split <;> omega
theorem toI_small (u : Nat) (h : u < 9223372036854775808) : toI u = (u : Int) := by simp [toI, h]
theorem toI_u64 (m : Int) (h : In64 m) : toI (BeP.u64 m) = m := by
  unfold In64 at h
  unfold toI BeP.u64
  split <;> omega
theorem u64_lt (m : Int) : BeP.u64 m < 18446744073709551616 := by unfold BeP.u64; omega

theorem part_toNat (width : Nat) (m : Int) (k : Nat) : (BeP.part width m k).toNat = BeP.u64 m / 256 ^ (width - 1 - k) % 256 := by
  unfold BeP.part
  have : (2 : Nat) ^ (8 * (width - 1 - k)) = 256 ^ (width - 1 - k) := by rw [Nat.pow_mul]
  rw [this]
  simp
theorem num_parts_take (width : Nat) (m : Int) (k : Nat) (h : k ≤ width) : num ((BeP.parts width m).take k) = BeP.u64 m / 256 ^ (width - k) % 256 ^ k := by
  induction k with
  | zero => simp [num, Nat.mod_one]
  | succ k ih =>
    rw [BeP.parts_take width m k (by omega), num_snoc, ih (by omega), part_toNat]
    generalize BeP.u64 m = u
    have e1 : width - k = (width - 1 - k) + 1 := by omega
    have e2 : width - (k + 1) = width - 1 - k := by omega
    rw [e1, e2, Nat.pow_succ 256 (width - 1 - k), ← Nat.div_div_eq_div_mul]
    generalize u / 256 ^ (width - 1 - k) = q
    rw [Nat.pow_succ, Nat.mul_comm (256 ^ k) 256, Nat.mod_mul]
    omega
theorem num_parts (width : Nat) (m : Int) : num (BeP.parts width m) = BeP.u64 m % 256 ^ width := by
  have := num_parts_take width m width (Nat.le_refl _)
  rw [List.take_of_length_le (by rw [BeP.parts_length]; exact Nat.le_refl _)] at this
  simpa using this
theorem num_parts8 (m : Int) : num (BeP.parts 8 m) = BeP.u64 m := by
  rw [num_parts]
  exact Nat.mod_eq_of_lt (u64_lt m)
theorem val_parts8 (pre post : List UInt8) (m : Int) (h : In64 m) : val (pre ++ (BeP.parts 8 m ++ post)) pre.length 8 = m := by
  unfold val
  have hl := BeP.parts_length 8 m
  rw [if_pos (by simp [hl]), List.drop_left, List.take_append_of_le_length (by omega), List.take_of_length_le (by omega), num_parts8, toI_u64 m h]
theorem val_one (pre post : List UInt8) (c : UInt8) : val (pre ++ c :: post) pre.length 1 = (c.toNat : Int) := by
  unfold val
  rw [if_pos (by simp), List.drop_left]
  have := c.toNat_lt
  simp [num, nstep, toI]
  omega
theorem there_iff (l : List UInt8) (a w : Nat) : there l a w = true ↔ a + w ≤ l.length := by simp [there]
end Go.Proofs.Ytiokcemlfdonnaa.NumP
namespace Go.Proofs.Ytiokcemlfdonnaa
set_option linter.unusedVariables false
/-- a run: its place, its bytes -/
structure RunX where
  at_ : Int
  data : List UInt8
/-- a patch -/
structure PatchX where
  page : Int
  fresh : Bool
  runs : List RunX
namespace PatchP
def stop (r : RunX) : Int := r.at_ + (r.data.length : Nat)
def Within (r : RunX) : Prop := 0 < r.data.length ∧ 12 ≤ r.at_ ∧ stop r ≤ 512
/-- where the run ahead of k ends -/
def endOf (l : List RunX) : Nat → Int
  | 0 => -1
  | k + 1 => match l[k]? with
    | some q => stop q
    | none => -1
/-- the first k runs may be -/
def Okay (l : List RunX) (k : Nat) : Prop := ∀ i r, i < k → l[i]? = some r → Within r ∧ endOf l i < r.at_
def Right (x : PatchX) : Prop := 0 ≤ x.page ∧ x.page ≤ 65535 ∧ x.runs.length ≤ 500 ∧ Okay x.runs x.runs.length
noncomputable def within (r : RunX) : Bool := @decide (Within r) (Classical.propDecidable _)
noncomputable def right (x : PatchX) : Bool := @decide (Right x) (Classical.propDecidable _)
noncomputable def same (x y : PatchX) : Bool := @decide (x = y) (Classical.propDecidable _)
noncomputable def sameRuns (x y : List RunX) : Bool := @decide (x = y) (Classical.propDecidable _)
theorem within_iff (r : RunX) : within r = true ↔ Within r := by unfold within; simp
theorem right_iff (x : PatchX) : right x = true ↔ Right x := by unfold right; simp
theorem right_no (x : PatchX) (h : ¬ Right x) : right x = false := by unfold right; simpa using h
theorem right_yes (x : PatchX) (h : Right x) : right x = true := (right_iff x).2 h
theorem within_no (r : RunX) (h : ¬ Within r) : within r = false := by unfold within; simpa using h
theorem within_yes (r : RunX) (h : Within r) : within r = true := (within_iff r).2 h
theorem okay_zero (l : List RunX) : Okay l 0 := fun i r hi => absurd hi (Nat.not_lt_zero _)
theorem endOf_succ (l : List RunX) (k : Nat) (r : RunX) (h : l[k]? = some r) : endOf l (k + 1) = stop r := by show (match l[k]? with | some q => stop q | none => -1) = _; rw [h]
theorem okay_step {l : List RunX} {k : Nat} {r : RunX} (h : Okay l k) (hr : l[k]? = some r) (hw : Within r) (he : endOf l k < r.at_) : Okay l (k + 1) := by
  intro i q hi hq
  by_cases e : i = k
  · subst e
    rw [hr] at hq; cases hq
    exact ⟨hw, he⟩
  · exact h i q (by omega) hq
theorem okay_bad {l : List RunX} {k n : Nat} {r : RunX} (hr : l[k]? = some r) (hb : ¬ (Within r ∧ endOf l k < r.at_)) (hk : k < n) : ¬ Okay l n := fun h => hb (h k r hk hr)
theorem okay_less {l : List RunX} {k n : Nat} (h : Okay l n) (hk : k ≤ n) : Okay l k := fun i r hi hr => h i r (by omega) hr
theorem endOf_lo {l : List RunX} {k n : Nat} (h : Okay l n) (hk : k ≤ n) : -1 ≤ endOf l k ∧ endOf l k ≤ 512 := by
  cases k with
  | zero => exact ⟨Int.le_refl _, by show (-1 : Int) ≤ 512; omega⟩
  | succ k =>
    cases hq : l[k]? with
    | some q =>
      rw [endOf_succ l k q hq]
      have := (h k q (by omega) hq).1
      unfold Within at this
      have h2 : stop q = q.at_ + (q.data.length : Nat) := rfl
      omega
    | none =>
      have : endOf l (k + 1) = -1 := by show (match l[k]? with | some q => stop q | none => -1) = _; rw [hq]
      omega
theorem bad_page (x : PatchX) (h : x.page < 0 ∨ 65535 < x.page ∨ 500 < x.runs.length) : right x = false := right_no x fun hr => by
  obtain ⟨a, b, c, -⟩ := hr
  omega
theorem bad_run (x : PatchX) {k : Nat} {r : RunX} (hr : x.runs[k]? = some r) (hb : ¬ (Within r ∧ endOf x.runs k < r.at_)) : right x = false := right_no x fun h =>
  okay_bad hr hb (List.getElem?_eq_some_iff.1 hr).1 h.2.2.2
theorem in_runs {x : PatchX} (h : Right x) {k : Nat} {r : RunX} (hr : x.runs[k]? = some r) : 12 ≤ r.at_ ∧ r.at_ ≤ 511 ∧ 1 ≤ r.data.length ∧ r.data.length ≤ 500 := by
  have := (h.2.2.2 k r (List.getElem?_eq_some_iff.1 hr).1 hr).1
  unfold Within stop at this
  omega
/-- a run's bytes -/
def runB (r : RunX) : List UInt8 := BeP.parts 2 r.at_ ++ (BeP.parts 2 (r.data.length : Nat) ++ r.data)
def runsB (l : List RunX) : List UInt8 := l.flatMap runB
def flag (b : Bool) : Int := if b then 1 else 0
def head (x : PatchX) : List UInt8 := BeP.parts 2 x.page ++ (BeP.parts 1 (flag x.fresh) ++ BeP.parts 2 (x.runs.length : Nat))
def body (x : PatchX) : List UInt8 := head x ++ runsB x.runs
noncomputable def bytes (x : PatchX) : List UInt8 := if right x then body x else []
theorem head_length (x : PatchX) : (head x).length = 5 := by simp [head, BeP.parts_length]
theorem runB_length (r : RunX) : (runB r).length = 4 + r.data.length := by simp [runB, BeP.parts_length]; omega
theorem runsB_snoc (l : List RunX) (k : Nat) (r : RunX) (h : l[k]? = some r) : runsB (l.take (k + 1)) = runsB (l.take k) ++ runB r := by
  obtain ⟨hk, e⟩ := List.getElem?_eq_some_iff.1 h
  rw [List.take_succ_eq_append_getElem hk, e]
  simp [runsB]
theorem runsB_split (l : List RunX) (k : Nat) (r : RunX) (h : l[k]? = some r) : runsB l = runsB (l.take k) ++ (runB r ++ runsB (l.drop (k + 1))) := by
  obtain ⟨hk, e⟩ := List.getElem?_eq_some_iff.1 h
  have h1 : l = l.take k ++ (r :: l.drop (k + 1)) := by rw [← e, ← List.drop_eq_getElem_cons hk, List.take_append_drop]
  have h2 : runsB l = runsB (l.take k ++ (r :: l.drop (k + 1))) := by rw [← h1]
  rw [h2]
  unfold runsB
  rw [List.flatMap_append, List.flatMap_cons]
theorem runsB_le (l : List RunX) (n : Nat) (h : ∀ r ∈ l, r.data.length ≤ n) : (runsB l).length ≤ l.length * (4 + n) := by
  induction l with
  | nil => simp [runsB]
  | cons r l ih =>
    have h1 := ih (fun q hq => h q (List.mem_cons_of_mem _ hq))
    have h2 := h r (List.mem_cons_self ..)
    have : runsB (r :: l) = runB r ++ runsB l := by simp [runsB]
    rw [this, List.length_append, runB_length, List.length_cons, Nat.add_mul]
    omega
theorem runs_le {x : PatchX} (h : Right x) (k : Nat) : (runsB (x.runs.take k)).length ≤ 252000 := by
  have h1 := runsB_le (x.runs.take k) 500 (fun r hr => by
    obtain ⟨j, hj⟩ := List.getElem?_of_mem (List.mem_of_mem_take hr)
    exact (in_runs h hj).2.2.2)
  have h2 : (x.runs.take k).length ≤ 500 := by rw [List.length_take]; have := h.2.2.1; omega
  have h3 : (x.runs.take k).length * (4 + 500) ≤ 500 * 504 := Nat.mul_le_mul_right _ h2
  omega
theorem body_le {x : PatchX} (h : Right x) : (body x).length ≤ 252005 := by
  have := runs_le h x.runs.length
  rw [List.take_of_length_le (Nat.le_refl _)] at this
  unfold body
  rw [List.length_append, head_length]
  omega
/-- numbers among bytes -/
theorem val_parts2 (pre post : List UInt8) (m : Int) (h0 : 0 ≤ m) (h1 : m ≤ 65535) : NumP.val (pre ++ (BeP.parts 2 m ++ post)) pre.length 2 = m := by
  unfold NumP.val
  rw [if_pos (by simp [BeP.parts_length]), List.drop_left, List.take_append_of_le_length (by rw [BeP.parts_length]; omega), List.take_of_length_le (by rw [BeP.parts_length]; omega), NumP.num_parts]
  unfold BeP.u64
  have e : (m % 18446744073709551616).toNat % 256 ^ 2 = m.toNat := by omega
  rw [e, NumP.toI_small _ (by omega)]
  omega
theorem val_parts1 (pre post : List UInt8) (m : Int) (h0 : 0 ≤ m) (h1 : m ≤ 255) : NumP.val (pre ++ (BeP.parts 1 m ++ post)) pre.length 1 = m := by
  unfold NumP.val
  rw [if_pos (by simp [BeP.parts_length]), List.drop_left, List.take_append_of_le_length (by rw [BeP.parts_length]; omega), List.take_of_length_le (by rw [BeP.parts_length]; omega), NumP.num_parts]
  unfold BeP.u64
  have e : (m % 18446744073709551616).toNat % 256 ^ 1 = m.toNat := by omega
  rw [e, NumP.toI_small _ (by omega)]
  omega
theorem flag_in (b : Bool) : 0 ≤ flag b ∧ flag b ≤ 1 := by cases b <;> decide
/-- where the k-th run stands -/
def place (x : PatchX) (k : Nat) : Nat := 5 + (runsB (x.runs.take k)).length
theorem place_zero (x : PatchX) : place x 0 = 5 := by simp [place, runsB]
theorem place_succ (x : PatchX) (k : Nat) (r : RunX) (h : x.runs[k]? = some r) : place x (k + 1) = place x k + 4 + r.data.length := by
  unfold place
  rw [runsB_snoc _ _ _ h, List.length_append, runB_length]
  omega
theorem place_all (x : PatchX) : place x x.runs.length = (body x).length := by
  unfold place body
  rw [List.take_of_length_le (Nat.le_refl _), List.length_append, head_length]
variable {x : PatchX} {more : List UInt8} {k : Nat} {r : RunX}
theorem got_page (h : Right x) : NumP.val (body x ++ more) 0 2 = x.page := by
  have := val_parts2 [] (BeP.parts 1 (flag x.fresh) ++ BeP.parts 2 (x.runs.length : Nat) ++ runsB x.runs ++ more) x.page h.1 h.2.1
  simpa [body, head] using this
theorem got_flag (h : Right x) : NumP.val (body x ++ more) 2 1 = flag x.fresh := by
  have := val_parts1 (BeP.parts 2 x.page) (BeP.parts 2 (x.runs.length : Nat) ++ runsB x.runs ++ more) (flag x.fresh) (flag_in _).1 (by have := (flag_in x.fresh).2; omega)
  simpa [body, head, BeP.parts_length] using this
theorem got_count (h : Right x) : NumP.val (body x ++ more) 3 2 = (x.runs.length : Nat) := by
  have := val_parts2 (BeP.parts 2 x.page ++ BeP.parts 1 (flag x.fresh)) (runsB x.runs ++ more) (x.runs.length : Nat) (by omega) (by have := h.2.2.1; omega)
  simpa [body, head, BeP.parts_length] using this
theorem body_split (hr : x.runs[k]? = some r) : body x ++ more = (head x ++ runsB (x.runs.take k)) ++ (BeP.parts 2 r.at_ ++ (BeP.parts 2 (r.data.length : Nat) ++ (r.data ++ (runsB (x.runs.drop (k + 1)) ++ more)))) := by
  unfold body
  rw [runsB_split _ _ _ hr]
  simp [runB]
theorem place_len : (head x ++ runsB (x.runs.take k)).length = place x k := by rw [List.length_append, head_length]; rfl
theorem got_at (h : Right x) (hr : x.runs[k]? = some r) : NumP.val (body x ++ more) (place x k) 2 = r.at_ := by
  have hi := in_runs h hr
  rw [body_split hr, ← place_len]
  exact val_parts2 _ _ r.at_ (by omega) (by omega)
theorem got_len (h : Right x) (hr : x.runs[k]? = some r) : NumP.val (body x ++ more) (place x k + 2) 2 = (r.data.length : Nat) := by
  have hi := in_runs h hr
  rw [body_split hr, ← place_len]
  have := val_parts2 ((head x ++ runsB (x.runs.take k)) ++ BeP.parts 2 r.at_) (r.data ++ (runsB (x.runs.drop (k + 1)) ++ more)) (r.data.length : Nat) (by omega) (by omega)
  rw [List.length_append, BeP.parts_length] at this
  simpa using this
theorem got_data (hr : x.runs[k]? = some r) : ((body x ++ more).drop (place x k + 4)).take r.data.length = r.data := by
  have e : body x ++ more = ((head x ++ runsB (x.runs.take k)) ++ (BeP.parts 2 r.at_ ++ BeP.parts 2 (r.data.length : Nat))) ++ (r.data ++ (runsB (x.runs.drop (k + 1)) ++ more)) := by rw [body_split hr]; simp
  have hl : ((head x ++ runsB (x.runs.take k)) ++ (BeP.parts 2 r.at_ ++ BeP.parts 2 (r.data.length : Nat))).length = place x k + 4 := by rw [List.length_append, place_len]; simp [BeP.parts_length]
  rw [e, List.drop_left' hl, List.take_left' rfl]
theorem place_fits (hr : x.runs[k]? = some r) : place x k + 4 + r.data.length ≤ (body x).length := by
  have := congrArg List.length (body_split (more := []) hr)
  rw [List.append_nil, List.length_append, place_len] at this
  simp [BeP.parts_length] at this
  omega
end PatchP
end Go.Proofs.Ytiokcemlfdonnaa
