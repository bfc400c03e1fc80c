/-
  Parts of the proof of PlanPuts.
-/
import Derived.Test.YtpklclnehlgcpaaGreatPlanP1
import Derived.Test.YtpklclnehlgcpaaGreatPlanP2
import Derived.Maps.AppendAt
import Derived.Deep.OwnRows
section
namespace Go.Proofs.YtpklclnehlgcpaaGreat
open Go.RowKit
set_option linter.unusedVariables false

/-- what reads below B in the one world reads so in the other -/
def Sub (B : Nat) (w w' : World) : Prop := ∀ (p : Addr) (v : Value), p.block < B → w.cell? p = some v → w'.cell? p = some v
theorem Sub.refl (B : Nat) (w : World) : Sub B w w := fun _ _ _ h => h
theorem Sub.trans {B : Nat} {a b c : World} (h : Sub B a b) (k : Sub B b c) : Sub B a c := fun p v hp hv => k p v hp (h p v hp hv)
theorem Sub.less {B B' : Nat} {a b : World} (h : Sub B a b) (hB : B' ≤ B) : Sub B' a b := fun p v hp hv => h p v (by omega) hv
theorem sub_below {B : Nat} {w w' : World} (h : Below B w w') : Sub B w w' := fun p v hp hv => (h.cell hp).trans hv
theorem Bytes.sub {w w' : World} {B n c : Nat} {A : Option Addr} {l : List UInt8} (h : Bytes w B A n c l) (hs : Sub B w w') : Bytes w' B A n c l :=
  ⟨h.1, h.2.1, h.2.2.1, fun hn => by
    obtain ⟨b, o, e, hb, hc⟩ := h.2.2.2 hn
    exact ⟨b, o, e, hb, fun j u hu => hs _ _ hb (hc j u hu)⟩⟩

/-- a world in which a block is empty -/
def hide (w : World) (g : Nat) : World := w.setRow g #[]
theorem hide_size (w : World) (g : Nat) : (hide w g).heap.size = w.heap.size := by simp [hide, World.setRow]
theorem hide_other (w : World) (g : Nat) (p : Addr) (h : p.block ≠ g) : (hide w g).cell? p = w.cell? p := World.cell?_of_block (setRow_other w g p.block #[] h)
theorem hide_none (w : World) (p : Addr) : (hide w p.block).cell? p = none := by
  unfold hide World.setRow World.cell?
  simp only [Array.getElem?_modify, if_true]
  cases hx : w.heap[p.block]? with
  | none => simp
  | some o => cases o <;> simp
theorem sub_hide (B : Nat) (w : World) (g : Nat) : Sub B (hide w g) w := by
  intro p v hp hv
  by_cases h : p.block = g
  · subst h; rw [hide_none] at hv; cases hv
  · rwa [hide_other w g p h] at hv
/-- what lies below a block does not hang on it -/
theorem sub_hide_lt {B g : Nat} (w : World) (h : B ≤ g) : Sub B w (hide w g) := fun p v hp hv => by rw [hide_other w g p (by omega)]; exact hv
theorem hide_sub_of {B g : Nat} {w w' : World} (h : ∀ k, k < B → k ≠ g → w'.heap[k]? = w.heap[k]?) : Sub B (hide w g) (hide w' g) := by
  intro p v hp hv
  by_cases hg : p.block = g
  · subst hg; rw [hide_none] at hv; cases hv
  · rw [hide_other w g p hg] at hv
    rw [hide_other w' g p hg, World.cell?_of_block (h p.block hp hg)]
    exact hv
/-- the row of a slice hidden -/
def hid (A : Option Addr) (w : World) : World := match A with
  | some a => hide w a.block
  | none => w
theorem sub_hid (B : Nat) (A : Option Addr) (w : World) : Sub B (hid A w) w := by
  cases A with
  | none => exact Sub.refl _ _
  | some a => exact sub_hide B w a.block
theorem hid_below {B : Nat} {w w' : World} (A : Option Addr) (h : Below B w w') : Sub B (hid A w) (hid A w') := by
  cases A with
  | none => exact sub_below h
  | some a => exact hide_sub_of fun k hk _ => h.block k hk
theorem hid_lt {B : Nat} (A : Option Addr) (w : World) (h : ∀ a, A = some a → B ≤ a.block) : Sub B w (hid A w) := by
  cases A with
  | none => exact Sub.refl _ _
  | some a => exact sub_hide_lt w (h a rfl)
theorem hid_grown {w w' : World} {A A' : Option Addr} (hg : w.grownBy w' ((Value.slice A 0 0).ownBlock)) (h : A' = A ∨ ∃ a, A' = some a ∧ a.block = w.heap.size) : Sub w.heap.size (hid A w) (hid A' w') := by
  rcases h with rfl | ⟨a, rfl, ha⟩
  · cases A' with
    | none => exact fun p v hp hv => (World.cell?_of_block (hg.block p.block hp (by simp [Value.ownBlock]))).trans hv
    | some a => exact hide_sub_of fun k hk hne => hg.block k hk (by simpa [Value.ownBlock] using hne)
  · intro p v hp hv
    show (hide w' a.block).cell? p = some v
    rw [hide_other w' a.block p (by omega)]
    cases A with
    | none => exact (World.cell?_of_block (hg.block p.block hp (by simp [Value.ownBlock]))).trans hv
    | some a0 =>
      by_cases h0 : p.block = a0.block
      · have : (hide w a0.block).cell? p = none := by rw [← h0]; exact hide_none w p
        change (hide w a0.block).cell? p = some v at hv
        rw [this] at hv
        cases hv
      · change (hide w a0.block).cell? p = some v at hv
        rw [hide_other w a0.block p h0] at hv
        exact (World.cell?_of_block (hg.block p.block hp (by simpa [Value.ownBlock] using h0))).trans hv

/-- how an element lies in memory -/
structure El (α : Type) where
  size : Nat
  pos : 0 < size
  rel : World → Nat → List Value → α → Prop
  len : ∀ {w B vs x}, rel w B vs x → vs.length = size
  one : ∀ {w B vs x}, rel w B vs x → ∀ v ∈ vs, v.oneCell' = true
  sub : ∀ {w w' B vs x}, Sub B w w' → rel w B vs x → rel w' B vs x
  more : ∀ {w B B' vs x}, B ≤ B' → rel w B vs x → rel w B' vs x

/-- side by side -/
def Rel2 {α : Type} (R : List Value → α → Prop) : List (List Value) → List α → Prop
  | [], [] => True
  | v :: vs, x :: xs => R v x ∧ Rel2 R vs xs
  | _, _ => False
section
variable {α : Type} {R R' : List Value → α → Prop}
theorem Rel2.length : ∀ {vs : List (List Value)} {xs : List α}, Rel2 R vs xs → vs.length = xs.length
  | [], [], _ => rfl
  | _ :: vs, _ :: xs, h => by simp [Rel2.length h.2]
  | [], _ :: _, h => h.elim
  | _ :: _, [], h => h.elim
theorem Rel2.imp (hi : ∀ v x, R v x → R' v x) : ∀ {vs : List (List Value)} {xs : List α}, Rel2 R vs xs → Rel2 R' vs xs
  | [], [], _ => trivial
  | _ :: vs, _ :: xs, h => ⟨hi _ _ h.1, Rel2.imp hi h.2⟩
  | [], _ :: _, h => h.elim
  | _ :: _, [], h => h.elim
theorem Rel2.append {vs2 : List (List Value)} {xs2 : List α} (h2 : Rel2 R vs2 xs2) : ∀ {vs : List (List Value)} {xs : List α}, Rel2 R vs xs → Rel2 R (vs ++ vs2) (xs ++ xs2)
  | [], [], _ => h2
  | _ :: vs, _ :: xs, h => ⟨h.1, Rel2.append h2 h.2⟩
  | [], _ :: _, h => h.elim
  | _ :: _, [], h => h.elim
theorem Rel2.take : ∀ (k : Nat) {vs : List (List Value)} {xs : List α}, Rel2 R vs xs → Rel2 R (vs.take k) (xs.take k)
  | 0, _, _, _ => by simp [Rel2]
  | _ + 1, [], [], _ => trivial
  | k + 1, _ :: vs, _ :: xs, h => ⟨h.1, Rel2.take k h.2⟩
  | _ + 1, [], _ :: _, h => h.elim
  | _ + 1, _ :: _, [], h => h.elim
theorem Rel2.drop : ∀ (k : Nat) {vs : List (List Value)} {xs : List α}, Rel2 R vs xs → Rel2 R (vs.drop k) (xs.drop k)
  | 0, _, _, h => by simpa using h
  | _ + 1, [], [], _ => trivial
  | k + 1, _ :: vs, _ :: xs, h => Rel2.drop k h.2
  | _ + 1, [], _ :: _, h => h.elim
  | _ + 1, _ :: _, [], h => h.elim
theorem Rel2.get : ∀ {vs : List (List Value)} {xs : List α} {j : Nat} {x : α}, Rel2 R vs xs → xs[j]? = some x → ∃ v, vs[j]? = some v ∧ R v x
  | v :: vs, y :: xs, 0, x, h, hx => by
    simp at hx; subst hx; exact ⟨v, rfl, h.1⟩
  | v :: vs, y :: xs, j + 1, x, h, hx => by
    obtain ⟨u, hu, hr⟩ := Rel2.get h.2 (by simpa using hx)
    exact ⟨u, by simpa using hu, hr⟩
  | [], [], j, x, h, hx => by simp at hx
  | [], _ :: _, _, _, h, _ => h.elim
  | _ :: _, [], _, _, h, _ => h.elim
theorem Rel2.set {v : List Value} {x : α} (hr : R v x) : ∀ {vs : List (List Value)} {xs : List α} (j : Nat), Rel2 R vs xs → Rel2 R (vs.set j v) (xs.set j x)
  | [], [], _, _ => by simp [Rel2]
  | _ :: vs, _ :: xs, 0, h => ⟨hr, h.2⟩
  | _ :: vs, _ :: xs, j + 1, h => ⟨h.1, Rel2.set hr j h.2⟩
  | [], _ :: _, _, h => h.elim
  | _ :: _, [], _, h => h.elim
theorem Rel2.flat {size : Nat} (hl : ∀ v x, R v x → v.length = size) : ∀ {vs : List (List Value)} {xs : List α}, Rel2 R vs xs → vs.flatten.length = xs.length * size
  | [], [], _ => by simp
  | v :: vs, _ :: xs, h => by
    rw [List.flatten_cons, List.length_append, hl _ _ h.1, Rel2.flat hl h.2, List.length_cons, Nat.add_mul]; omega
  | [], _ :: _, h => h.elim
  | _ :: _, [], h => h.elim
theorem Rel2.mem {v : List Value} : ∀ {vs : List (List Value)} {xs : List α}, Rel2 R vs xs → v ∈ vs → ∃ x, R v x
  | [], [], _, hm => by cases hm
  | u :: vs, x :: xs, h, hm => by
    rcases List.mem_cons.1 hm with rfl | hm
    · exact ⟨x, h.1⟩
    · exact Rel2.mem h.2 hm
  | [], _ :: _, h, _ => h.elim
  | _ :: _, [], h, _ => h.elim
end
/-- where an element's cells stand among all -/
theorem flat_at {size : Nat} : ∀ (vs : List (List Value)), (∀ v ∈ vs, v.length = size) → ∀ (j : Nat) (v : List Value) (i : Nat) (u : Value), vs[j]? = some v → v[i]? = some u → vs.flatten[j * size + i]? = some u
  | [], _, j, v, i, u, h, _ => by simp at h
  | v0 :: vs, hl, 0, v, i, u, h, hu => by
    simp at h; subst h
    have hi : i < v0.length := (List.getElem?_eq_some_iff.1 hu).1
    rw [List.flatten_cons, Nat.zero_mul, Nat.zero_add, List.getElem?_append_left hi]
    exact hu
  | v0 :: vs, hl, j + 1, v, i, u, h, hu => by
    have h0 := hl v0 (by simp)
    have := flat_at vs (fun x hx => hl x (by simp [hx])) j v i u (by simpa using h) hu
    rw [List.flatten_cons, List.getElem?_append_right (by rw [h0, Nat.add_mul]; omega), h0, show (j + 1) * size + i - size = j * size + i by rw [Nat.add_mul]; omega]
    exact this
theorem flat_take {size : Nat} : ∀ (vs : List (List Value)), (∀ v ∈ vs, v.length = size) → ∀ k, (vs.take k).flatten = vs.flatten.take (k * size)
  | [], _, k => by simp
  | v0 :: vs, hl, 0 => by simp
  | v0 :: vs, hl, k + 1 => by
    have h0 := hl v0 (by simp)
    rw [List.take_succ_cons, List.flatten_cons, List.flatten_cons, flat_take vs (fun x hx => hl x (by simp [hx])) k, List.take_append, h0, List.take_of_length_le (l := v0) (by rw [h0, Nat.add_mul]; omega), show (k + 1) * size - size = k * size by rw [Nat.add_mul]; omega]
theorem flat_drop {size : Nat} : ∀ (vs : List (List Value)), (∀ v ∈ vs, v.length = size) → ∀ k, (vs.drop k).flatten = vs.flatten.drop (k * size)
  | [], _, k => by simp
  | v0 :: vs, hl, 0 => by simp
  | v0 :: vs, hl, k + 1 => by
    have h0 := hl v0 (by simp)
    rw [List.drop_succ_cons, List.flatten_cons, flat_drop vs (fun x hx => hl x (by simp [hx])) k, List.drop_append, h0, List.drop_of_length_le (l := v0) (by rw [h0, Nat.add_mul]; omega), show (k + 1) * size - size = k * size by rw [Nat.add_mul]; omega, List.nil_append]

section
variable {α : Type} {E : El α} {w w' wr wr' : World} {B B' n c : Nat} {A : Option Addr} {l : List α}
/-- the slice (A, n, c) has its cells in w; what they read as is told by wr -/
def ElemsIn (E : El α) (wr w : World) (B : Nat) (A : Option Addr) (n c : Nat) (l : List α) : Prop :=
  ∃ vs, Rel2 (E.rel wr B) vs l ∧ l.length = n ∧ n ≤ c ∧ c ≤ maxLen ∧ (0 < n → ∃ b o, A = some ⟨b, o, none⟩ ∧ b < B ∧ ∀ j v, vs.flatten[j]? = some v → w.cell? ⟨b, o + j, none⟩ = some v)
/-- the slice (A, n, c) reads as l -/
def Elems (E : El α) (w : World) (B : Nat) (A : Option Addr) (n c : Nat) (l : List α) : Prop := ElemsIn E w w B A n c l
theorem ElemsIn.len (h : ElemsIn E wr w B A n c l) : l.length = n := by obtain ⟨_, _, h, _⟩ := h; exact h
theorem ElemsIn.cap (h : ElemsIn E wr w B A n c l) : n ≤ c ∧ c ≤ maxLen := by obtain ⟨_, _, _, h, h2, _⟩ := h; exact ⟨h, h2⟩
theorem ElemsIn.keep (h : ElemsIn E wr w B A n c l) (h1 : Sub B wr wr') (h2 : Sub B w w') : ElemsIn E wr' w' B A n c l := by
  obtain ⟨vs, hr, hl, hc, hm, hx⟩ := h
  refine ⟨vs, hr.imp fun _ _ => E.sub h1, hl, hc, hm, fun hn => ?_⟩
  obtain ⟨b, o, e, hb, hcell⟩ := hx hn
  exact ⟨b, o, e, hb, fun j v hv => h2 _ _ hb (hcell j v hv)⟩
theorem ElemsIn.more (h : ElemsIn E wr w B A n c l) (hB : B ≤ B') : ElemsIn E wr w B' A n c l := by
  obtain ⟨vs, hr, hl, hc, hm, hx⟩ := h
  refine ⟨vs, hr.imp fun _ _ => E.more hB, hl, hc, hm, fun hn => ?_⟩
  obtain ⟨b, o, e, hb, hcell⟩ := hx hn
  exact ⟨b, o, e, by omega, hcell⟩
theorem Elems.len (h : Elems E w B A n c l) : l.length = n := ElemsIn.len h
theorem Elems.cap (h : Elems E w B A n c l) : n ≤ c ∧ c ≤ maxLen := ElemsIn.cap h
theorem Elems.sub (h : Elems E w B A n c l) (hs : Sub B w w') : Elems E w' B A n c l := ElemsIn.keep h hs hs
theorem Elems.below (h : Elems E w B A n c l) (hb : Below B w w') : Elems E w' B A n c l := h.sub (sub_below hb)
theorem Elems.more (h : Elems E w B A n c l) (hB : B ≤ B') : Elems E w B' A n c l := ElemsIn.more h hB
theorem Elems.next (h : Elems E w w.heap.size A n c l) (hb : Below w.heap.size w w') : Elems E w' w'.heap.size A n c l := (h.below hb).more hb.size
theorem Elems.none_ (E : El α) (w : World) (B : Nat) : Elems E w B none 0 0 [] := ⟨[], trivial, rfl, Nat.le_refl _, by unfold maxLen; omega, fun h => absurd h (by omega)⟩
theorem ElemsIn.at_ {k : Nat} (h : ElemsIn E wr w B A n c l) (hk : k < n) : ∃ b o vs, A = some ⟨b, o, none⟩ ∧ b < B ∧ E.rel wr B vs (l[k]'(by rw [h.len]; exact hk)) ∧ ∀ i v, vs[i]? = some v → w.cell? ⟨b, o + k * E.size + i, none⟩ = some v := by
  obtain ⟨vss, hr, hl, hc, hm, hx⟩ := h
  obtain ⟨b, o, e, hb, hcell⟩ := hx (by omega)
  obtain ⟨vs, hvs, hrel⟩ := hr.get (List.getElem?_eq_getElem (by omega : k < l.length))
  refine ⟨b, o, vs, e, hb, hrel, fun i v hv => ?_⟩
  rw [Nat.add_assoc]
  exact hcell _ v (flat_at vss (fun x hx => by obtain ⟨y, hy⟩ := hr.mem hx; exact E.len hy) k vs i v hvs hv)
theorem Elems.at_ {k : Nat} (h : Elems E w B A n c l) (hk : k < n) : ∃ b o vs, A = some ⟨b, o, none⟩ ∧ b < B ∧ E.rel w B vs (l[k]'(by rw [h.len]; exact hk)) ∧ ∀ i v, vs[i]? = some v → w.cell? ⟨b, o + k * E.size + i, none⟩ = some v := ElemsIn.at_ h hk
theorem ElemsIn.cut (h : ElemsIn E wr w B A n c l) (lo hi m : Nat) (h1 : lo ≤ hi) (h2 : hi ≤ n) (h3 : hi ≤ m) (h4 : m ≤ c) :
    ElemsIn E wr w B (cutA A lo m E.size) (hi - lo) (m - lo) ((l.drop lo).take (hi - lo)) := by
  obtain ⟨vss, hr, hl, hc, hm, hx⟩ := h
  refine ⟨_, (hr.drop lo).take (hi - lo), by simp; omega, by omega, by omega, fun hn => ?_⟩
  obtain ⟨b, o, rfl, hb, hcell⟩ := hx (by omega)
  unfold cutA
  rw [if_neg (by omega)]
  refine ⟨b, o + lo * E.size, by simp [add_none], hb, fun j v hv => ?_⟩
  have hall : ∀ v ∈ vss, v.length = E.size := fun x hx => by obtain ⟨y, hy⟩ := hr.mem hx; exact E.len hy
  rw [flat_take _ (fun v hv => hall v (List.mem_of_mem_drop hv)), flat_drop _ hall, List.getElem?_take] at hv
  split at hv
  · rw [List.getElem?_drop] at hv
    rw [Nat.add_assoc]
    exact hcell _ v hv
  · cases hv
theorem Elems.cut (h : Elems E w B A n c l) (lo hi m : Nat) (h1 : lo ≤ hi) (h2 : hi ≤ n) (h3 : hi ≤ m) (h4 : m ≤ c) :
    Elems E w B (cutA A lo m E.size) (hi - lo) (m - lo) ((l.drop lo).take (hi - lo)) := ElemsIn.cut h lo hi m h1 h2 h3 h4

/-- a row of the call's own: what its elements read as does not hang on the row -/
def OwnE (E : El α) (T : TypeId) (w : World) (base : Nat) (A : Option Addr) (n c : Nat) (l : List α) : Prop :=
  ∃ vs, w.ownsRow base T E.size (.slice A n c) n vs.flatten ∧ Rel2 (E.rel (hid A w) w.heap.size) vs l
variable {T : TypeId} {base : Nat}
theorem OwnE.len (h : OwnE E T w base A n c l) : l.length = n := by
  obtain ⟨vs, h1, h2⟩ := h
  have e1 := h1.1
  rw [h2.flat (fun _ _ => E.len)] at e1
  exact Nat.eq_of_mul_eq_mul_right E.pos e1
theorem OwnE.none_ (E : El α) (T : TypeId) (w : World) (base : Nat) : OwnE E T w base none 0 0 [] := ⟨[], World.ownsRow_nil _ _ _ _, trivial⟩
theorem OwnE.next (h : OwnE E T w base A n c l) (hb : Below w.heap.size w w') : OwnE E T w' base A n c l := by
  obtain ⟨vs, h1, h2⟩ := h
  exact ⟨vs, own_next h1 hb, h2.imp fun _ _ hr => E.more hb.size (E.sub (hid_below A hb) hr)⟩
theorem OwnE.elemsIn (h : OwnE E T w base A n c l) : ElemsIn E (hid A w) w w.heap.size A n c l := by
  have hl := h.len
  obtain ⟨vs, h1, h2⟩ := h
  rcases h1.2 with ⟨e, h0⟩ | ⟨g, cap, cur, e, hg, hh, hnc, hm, hc, hx⟩
  · cases e
    exact ⟨vs, h2, hl, Nat.le_refl _, by unfold maxLen; omega, fun hp => absurd hp (by omega)⟩
  · cases e
    refine ⟨vs, h2, hl, hnc, hm, fun _ => ⟨g, 0, rfl, (Array.getElem?_eq_some_iff.1 hh).1, fun j u hu => ?_⟩⟩
    rw [← hx, List.getElem?_take] at hu
    split at hu
    · simp only [World.cell?, hh, Nat.zero_add]
      simpa using hu
    · cases hu
theorem OwnE.elems (h : OwnE E T w base A n c l) : Elems E w w.heap.size A n c l := h.elemsIn.keep (sub_hid _ A w) (Sub.refl _ _)
theorem OwnE.less {base' : Nat} (h : OwnE E T w base A n c l) (hb : base' ≤ base) : OwnE E T w base' A n c l := by
  obtain ⟨vs, h1, h2⟩ := h
  exact ⟨vs, ⟨h1.1, h1.2.imp id fun ⟨g, cap, cur, e1, hg, r⟩ => ⟨g, cap, cur, e1, Nat.le_trans hb hg, r⟩⟩, h2⟩
theorem OwnE.ge (h : OwnE E T w base A n c l) : ∀ a, A = some a → base ≤ a.block := by
  obtain ⟨vs, h1, h2⟩ := h
  rcases h1.2 with ⟨e, h0⟩ | ⟨g, cap, cur, e, hg, hh, hnc, hm, hc, hx⟩
  · cases e; intro a ha; cases ha
  · cases e; intro a ha; cases ha; exact hg
/-- a source that lies below the row -/
theorem OwnE.src {B2 n2 c2 : Nat} {A2 : Option Addr} {l2 : List α} (h : OwnE E T w base A n c l) (h2 : Elems E w B2 A2 n2 c2 l2) (hB : B2 ≤ base) (hw : base ≤ w.heap.size) : ElemsIn E (hid A w) w w.heap.size A2 n2 c2 l2 :=
  (ElemsIn.keep h2 (hid_lt A w fun a ha => Nat.le_trans hB (h.ge a ha)) (Sub.refl _ _)).more (Nat.le_trans hB hw)
/-- an append onto a row of the call's own -/
theorem OwnE.app {P : Program} (t ty : TypeId) (i : TypeInfo) (z : Value) (bytes : Nat) (ht : P.underlying t = some (.slice T)) (hi : P.info? T = some i) (hz : i.zero = some z) (hs : i.size = E.size) (hby : i.bytes = bytes) (hzs : z.cells.size = E.size)
    (h : OwnE E T w base A n c l) {n2 c2 : Nat} {A2 : Option Addr} {l2 : List α} (h2 : ElemsIn E (hid A w) w w.heap.size A2 n2 c2 l2) (h63 : n + n2 ≤ maxLen) (hbytes : (n + n2) * bytes ≤ 140737488355328) (hb : base ≤ w.heap.size) :
    ∃ A' c' w', (appSem #[t, t] ty #[.slice A n c, .slice A2 n2 c2]).run P w = .ok (.slice A' (n + n2) c') w' ∧ OwnE E T w' base A' (n + n2) c' (l ++ l2) ∧ Below base w w' ∧ w.grownBy w' ((Value.slice A 0 0).ownBlock) ∧ (A' = A ∨ ∃ a, A' = some a ∧ a.block = w.heap.size) := by
  have hgeA := h.ge
  obtain ⟨vs, h1, hr⟩ := h
  obtain ⟨vs2, hr2, hl2, hc2, hm2, hx2⟩ := h2
  have hcell : 0 < n2 → ∃ ad, A2 = some ad ∧ ∀ j v, vs2.flatten[j]? = some v → w.cell? (ad.add j) = some v := fun hp => by
    obtain ⟨b, o, e, hb, hcl⟩ := hx2 hp
    exact ⟨_, e, fun j v hv => by rw [add_none]; exact hcl j v hv⟩
  have hfl : vs2.flatten.length = n2 * E.size := by rw [hr2.flat (fun _ _ => E.len), hl2]
  have hone : ∀ v ∈ vs2.flatten, v.oneCell' = true := fun v hv => by
    obtain ⟨u, hu, hvu⟩ := List.mem_flatten.1 hv
    obtain ⟨x, hx⟩ := hr2.mem hu
    exact E.one hx v hvu
  have hown_A : ∀ k, (Value.slice A n c).ownBlock = some k → base ≤ k := own_block h1
  rcases Nat.eq_zero_or_pos n2 with h0 | h0
  · subst h0
    have e2 : vs2.flatten = [] := List.eq_nil_of_length_eq_zero (by simpa using hfl)
    have e3 : l2 = [] := List.eq_nil_of_length_eq_zero hl2
    subst e3
    refine ⟨A, c, w, ?_, ⟨vs, by simpa using h1, by simpa using hr⟩, Below.refl _ _, World.grownBy.refl w _, .inl rfl⟩
    have hl0 : ∀ a, (loadCells a 0).run P w = .ok #[] w := fun a => by simpa using run_loadCells_list (P := P) w a [] (by simp)
    unfold appSem
    rcases h1.2 with ⟨e, hn0⟩ | ⟨g, cap, cur, e, _, _, hnc, _⟩
    · cases e
      cases A2 <;> simp [Builtin.append_, run_underlying ht, sizeOf, typeInfo, hi, Builtin.lenOf, Builtin.firstCells, hl0]
    · cases e
      cases A2 <;> simp [Builtin.append_, run_underlying ht, sizeOf, typeInfo, hi, Builtin.lenOf, Builtin.firstCells, hnc, storeCells, hl0]
  · obtain ⟨ad, rfl, hnews⟩ := hcell h0
    obtain ⟨v', w', hrun, hown, hgr, _, hblk⟩ := run_append_own_at (P := P) w base t ty T i z E.size bytes ht hi hz hs hby hzs E.pos (.slice A n c) n vs.flatten h1 ad n2 c2 vs2.flatten hfl hnews hone h63 hbytes hb
    obtain ⟨A', c', rfl⟩ := own_slice hown
    have hgr' : w.grownBy w' ((Value.slice A 0 0).ownBlock) := by cases A <;> exact hgr
    have hA' : A' = A ∨ ∃ a, A' = some a ∧ a.block = w.heap.size := by
      rcases hblk with e | e
      · left
        rcases hown.2 with ⟨e1, h01⟩ | ⟨g, cap, cur, e1, _, _, _⟩
        · omega
        · cases e1
          cases A with
          | none => simp [Value.ownBlock] at e
          | some a =>
            rcases h1.2 with ⟨e2, _⟩ | ⟨g2, cap2, cur2, e2, _⟩
            · cases e2
            · cases e2
              simp [Value.ownBlock] at e
              rw [e]
      · right
        cases A' with
        | none => simp [Value.ownBlock] at e
        | some a => exact ⟨a, rfl, by simpa [Value.ownBlock] using e⟩
    refine ⟨A', c', w', hrun, ⟨vs ++ vs2, by simpa using hown, ?_⟩, (Below.refl _ w).grown hgr' hb (fun k hk => by cases A with | none => simp [Value.ownBlock] at hk | some a => exact hown_A k hk), hgr', hA'⟩
    have hsub := hid_grown hgr' hA'
    exact Rel2.append (hr2.imp fun _ _ hq => E.more hgr.size (E.sub hsub hq)) (hr.imp fun _ _ hq => E.more hgr.size (E.sub hsub hq))
end
end Go.Proofs.YtpklclnehlgcpaaGreat
end
section
namespace Go.Proofs.YtpklclnehlgcpaaGreat
open Go.RowKit
set_option linter.unusedVariables false

/-- blocks hidden -/
def hideL (w : World) : List Nat → World
  | [] => w
  | g :: bs => hide (hideL w bs) g
theorem hideL_size (w : World) : ∀ bs, (hideL w bs).heap.size = w.heap.size
  | [] => rfl
  | g :: bs => (hide_size _ g).trans (hideL_size w bs)
theorem hideL_in (w : World) (p : Addr) : ∀ bs, p.block ∈ bs → (hideL w bs).cell? p = none
  | g :: bs, h => by
    by_cases e : p.block = g
    · subst e; exact hide_none _ p
    · show (hide (hideL w bs) g).cell? p = none
      rw [hide_other _ g p e]
      exact hideL_in w p bs (by rcases List.mem_cons.1 h with h | h; exact absurd h e; exact h)
theorem hideL_out (w : World) (p : Addr) : ∀ bs, p.block ∉ bs → (hideL w bs).cell? p = w.cell? p
  | [], _ => rfl
  | g :: bs, h => by
    rw [List.mem_cons, not_or] at h
    show (hide (hideL w bs) g).cell? p = _
    rw [hide_other _ g p h.1]
    exact hideL_out w p bs h.2
theorem sub_hideL (B : Nat) (w : World) (bs : List Nat) : Sub B (hideL w bs) w := by
  intro p v hp hv
  by_cases h : p.block ∈ bs
  · rw [hideL_in w p bs h] at hv; cases hv
  · rwa [hideL_out w p bs h] at hv
theorem hideL_sub_of {B : Nat} {w w' : World} {bs bs' : List Nat} (h : ∀ k, k < B → k ∉ bs → k ∉ bs' ∧ w'.heap[k]? = w.heap[k]?) : Sub B (hideL w bs) (hideL w' bs') := by
  intro p v hp hv
  by_cases hg : p.block ∈ bs
  · rw [hideL_in w p bs hg] at hv; cases hv
  · obtain ⟨h1, h2⟩ := h _ hp hg
    rw [hideL_out w p bs hg] at hv
    rw [hideL_out w' p bs' h1, World.cell?_of_block h2]
    exact hv
theorem hideL_below {B : Nat} {w w' : World} (bs : List Nat) (h : Below B w w') : Sub B (hideL w bs) (hideL w' bs) := hideL_sub_of fun k hk hn => ⟨hn, h.block k hk⟩
/-- bytes do not hang on rows without bytes -/
theorem Bytes.hideL {w : World} {B n c : Nat} {A : Option Addr} {l : List UInt8} (h : Bytes w B A n c l) (bs : List Nat) (hn : ∀ b ∈ bs, ∃ cs, Str w b cs ∧ notU8 cs = true) : Bytes (hideL w bs) B A n c l := by
  obtain ⟨h1, h2, h3, h4⟩ := h
  refine ⟨h1, h2, h3, fun hpos => ?_⟩
  obtain ⟨b, o, e, hb, hc⟩ := h4 hpos
  refine ⟨b, o, e, hb, fun j u hu => ?_⟩
  rw [hideL_out w ⟨b, o + j, none⟩ bs]
  · exact hc j u hu
  · intro hm
    obtain ⟨cs, hs, hn1⟩ := hn b hm
    have hx := hc j u hu
    rw [hs.cell] at hx
    have hm2 : byteV u ∈ cs.toList := by
      rw [Array.mem_toList_iff]
      exact Array.mem_of_getElem? hx
    have := List.all_eq_true.1 hn1 _ hm2
    simp [byteV] at this

/-- a word on a value and what it hangs on, below a bound -/
structure MP (β : Type) where
  pred : β → World → Nat → Prop
  mono : ∀ {v w w' B B'}, Sub B w w' → B ≤ B' → pred v w B → pred v w' B'
namespace Reg
/-- nothing that was there turns, but for these blocks -/
structure KeepB (N : Nat) (b0 : List Nat) (w w' : World) : Prop where
  os : w'.os = w.os
  tape : w'.tape = w.tape
  output : w'.output = w.output
  size : w.heap.size ≤ w'.heap.size
  block : ∀ k, k < N → k ∉ b0 → w'.heap[k]? = w.heap[k]?
theorem KeepB.of {N : Nat} {b0 : List Nat} {w w' : World} (h : Below N w w') : KeepB N b0 w w' := ⟨h.os, h.tape, h.output, h.size, fun k hk _ => h.block k hk⟩
theorem KeepB.below {N M : Nat} {b0 : List Nat} {w w' : World} (h : KeepB N b0 w w') (hM : M ≤ N) (h0 : ∀ b ∈ b0, M ≤ b) : Below M w w' := ⟨h.os, h.tape, h.output, h.size, fun k hk => h.block k (by omega) (fun hm => by have := h0 k hm; omega)⟩
theorem KeepB.cell {N : Nat} {b0 : List Nat} {w w' : World} (h : KeepB N b0 w w') {p : Addr} (h1 : p.block < N) (h2 : p.block ∉ b0) : w'.cell? p = w.cell? p := World.cell?_of_block (h.block p.block h1 h2)
theorem KeepB.str {N b : Nat} {b0 : List Nat} {w w' : World} {cs : Array Value} (h : KeepB N b0 w w') (hs : Str w b cs) (h1 : b < N) (h2 : b ∉ b0) : Str w' b cs := by
  obtain ⟨t, ht⟩ := hs
  exact ⟨t, (h.block b h1 h2).trans ht⟩
def extB (N : Nat) (b0 : List Nat) : Way := ⟨fun w w' => KeepB N b0 w w', fun w => KeepB.of (Below.refl N w), fun _ _ _ h k => ⟨k.os.trans h.os, k.tape.trans h.tape, k.output.trans h.output, Nat.le_trans h.size k.size, fun i hi hb => (k.block i hi hb).trans (h.block i hi hb)⟩, fun _ => ⟨rfl, rfl, rfl, Nat.le_refl _, fun _ _ _ => rfl⟩⟩
/-- boxes (who makes it, its slot, who stores into it), what lies in them; values (who makes it, its slot); boxes that were there (slot, block, who stores) -/
structure BxS where
  K : List (Nat × Tmp × Nat)
  Z : Tmp → Array Value
  X : Tmp → MP (Array Value)
  KM : List (Nat × Tmp)
  M : Tmp → MP Value
  K0 : List (Tmp × Nat × Nat)
def BxS.b0 (S : BxS) : List Nat := S.K0.map fun k => k.2.1
/-- the hidden blocks -/
def Bs (N : Nat) (b0 : List Nat) (w : World) (bs : List Nat) : Prop := ∀ b ∈ bs, (b ∈ b0 ∨ N ≤ b) ∧ b < w.heap.size ∧ ∃ cs, Str w b cs ∧ notU8 cs = true
/-- the part on boxes -/
def BxJ (N : Nat) (S : BxS) (listed : Array Bool) (a : Act) (w : World) (bs : List Nat) : Prop :=
  Bs N S.b0 w bs ∧
  (∀ b ∈ S.K, listed.getD b.1 false = true → ∃ g, a.eval (.tmp b.2.1) = .pointer (some ⟨g, 0, none⟩) ∧ g ∈ bs ∧ N ≤ g ∧
    (listed.getD b.2.2 false = true → ∃ cs, Str w g cs ∧ (S.X b.2.1).pred cs (hideL w bs) w.heap.size) ∧ (listed.getD b.2.2 false = false → Str w g (S.Z b.2.1))) ∧
  (∀ b ∈ S.K, ∀ c ∈ S.K, b ≠ c → listed.getD b.1 false = true → listed.getD c.1 false = true → a.eval (.tmp b.2.1) ≠ a.eval (.tmp c.2.1)) ∧
  (∀ b ∈ S.K, listed.getD b.2.2 false = true → listed.getD b.1 false = true) ∧
  (∀ k ∈ S.K0, k.2.1 ∈ bs ∧ (listed.getD k.2.2 false = true → ∃ cs, Str w k.2.1 cs ∧ (S.X k.1).pred cs (hideL w bs) w.heap.size) ∧ (listed.getD k.2.2 false = false → Str w k.2.1 (S.Z k.1)))
def BJ (N : Nat) (S : BxS) : Word := fun listed a w => ∃ bs : List Nat, BxJ N S listed a w bs ∧ ∀ m ∈ S.KM, listed.getD m.1 false = true → (S.M m.2).pred (a.eval (.tmp m.2)) (hideL w bs) w.heap.size
theorem bj_zero {N : Nat} {S : BxS} {listed : Array Bool} {a : Act} {w : World} (h0 : ∀ k ∈ S.K0, Str w k.2.1 (S.Z k.1) ∧ notU8 (S.Z k.1) = true) (h : ∀ i, listed.getD i false = false) : BJ N S listed a w :=
  ⟨S.b0, ⟨fun b hb => by
      obtain ⟨k, hk, rfl⟩ := List.mem_map.1 hb
      obtain ⟨h1, h2⟩ := h0 k hk
      exact ⟨.inl hb, h1.lt, _, h1, h2⟩, fun b _ h1 => (by rw [h] at h1; cases h1), fun b _ c _ _ h1 => (by rw [h] at h1; cases h1), fun b _ h1 => (by rw [h] at h1; cases h1),
    fun k hk => ⟨List.mem_map.2 ⟨k, hk, rfl⟩, fun h1 => (by rw [h] at h1; cases h1), fun _ => (h0 k hk).1⟩⟩, fun m _ h1 => (by rw [h] at h1; cases h1)⟩
/-- all apart -/
def okS (N : Nat) (S : BxS) : Prop := okK S.K ∧ (∀ b ∈ S.K, ∀ m ∈ S.KM, b.1 ≠ m.1 ∧ b.2.2 ≠ m.1 ∧ b.2.1 ≠ m.2) ∧ (∀ m ∈ S.KM, ∀ m' ∈ S.KM, (m.1 = m'.1 ∨ m.2 = m'.2) → m = m') ∧
  (∀ k ∈ S.K0, (∀ b ∈ S.K, k.2.2 ≠ b.1 ∧ k.2.2 ≠ b.2.2) ∧ (∀ m ∈ S.KM, k.2.2 ≠ m.1)) ∧ (∀ k ∈ S.K0, ∀ k' ∈ S.K0, (k.2.2 = k'.2.2 ∨ k.2.1 = k'.2.1) → k = k') ∧ ∀ k ∈ S.K0, k.2.1 < N
section
variable {N : Nat} {S : BxS} {listed : Array Bool} {a : Act} {w w' : World} {j : Nat}
theorem Bs.next {b0 bs : List Nat} (h : Bs N b0 w bs) (hb : Below w.heap.size w w') : Bs N b0 w' bs := fun b hm => by
  obtain ⟨h1, h2, cs, h3, h4⟩ := h b hm
  exact ⟨h1, Nat.lt_of_lt_of_le h2 hb.size, cs, h3.next hb, h4⟩
/-- nothing that was there has turned; the slot is none of those -/
theorem bj_ord {d : Option Tmp} {v : Value} {bs : List Nat} (hk : ∀ b ∈ S.K, j ≠ b.1 ∧ j ≠ b.2.2 ∧ d ≠ some b.2.1) (hk0 : ∀ k ∈ S.K0, j ≠ k.2.2) (hb : Below w.heap.size w w')
    (hM : ∀ m ∈ S.KM, (listed.setIfInBounds j true).getD m.1 false = true → (S.M m.2).pred ((a.put d v).eval (.tmp m.2)) (hideL w' bs) w'.heap.size)
    (h : BxJ N S listed a w bs) : BJ N S (listed.setIfInBounds j true) (a.put d v) w' := by
  obtain ⟨h0, h1, h2, h3, h4⟩ := h
  refine ⟨bs, ⟨h0.next hb, fun b hm hl => ?_, fun b hm c hc hne hl hl' => ?_, fun b hm hl => ?_, fun k hkm => ?_⟩, hM⟩
  · obtain ⟨k1, k2, k3⟩ := hk b hm
    rw [getD_set_ne false k1] at hl
    rw [getD_set_ne false k2, eval_of (put_other a d v _ k3)]
    obtain ⟨g, e, hg, hgN, hs, hz⟩ := h1 b hm hl
    exact ⟨g, e, hg, hgN, fun hh => by
      obtain ⟨cs, hs1, hs2⟩ := hs hh
      exact ⟨cs, hs1.next hb, (S.X b.2.1).mono (hideL_below bs hb) hb.size hs2⟩, fun hh => (hz hh).next hb⟩
  · obtain ⟨k1, k2, k3⟩ := hk b hm
    obtain ⟨c1, c2, c3⟩ := hk c hc
    rw [getD_set_ne false k1] at hl
    rw [getD_set_ne false c1] at hl'
    rw [eval_of (put_other a d v _ k3), eval_of (put_other a d v _ c3)]
    exact h2 b hm c hc hne hl hl'
  · obtain ⟨k1, k2, k3⟩ := hk b hm
    rw [getD_set_ne false k2] at hl
    rw [getD_set_ne false k1]
    exact h3 b hm hl
  · obtain ⟨g1, g2, g3⟩ := h4 k hkm
    rw [getD_set_ne false (hk0 k hkm)]
    exact ⟨g1, fun hh => by
      obtain ⟨cs, c1, c2⟩ := g2 hh
      exact ⟨cs, c1.next hb, (S.X k.1).mono (hideL_below bs hb) hb.size c2⟩, fun hh => (g3 hh).next hb⟩
end
section
variable {N : Nat} {S : BxS} {P : Program} {ops : Array Oper} {Q : Exit → Act → World → Prop} {T : List (SP (extB N S.b0))} {a0 : Act} {W : World} {j : Nat} {o : Oper} {s : List (Tmp × Option Nat)}
/-- the words on the values that an operation waits for -/
def mems (S : BxS) (ops : Array Oper) (j : Nat) (a : Act) (w : World) (B : Nat) : Prop := ∀ m ∈ S.KM, waits ops j m.1 = true → (S.M m.2).pred (a.eval (.tmp m.2)) w B
/-- an operation whose value hangs on nothing -/
theorem oblB_ord (hg : o.guard = none) (hN : N = W.heap.size) (hk : ∀ b ∈ S.K, j ≠ b.1 ∧ j ≠ b.2.2 ∧ o.dst ≠ some b.2.1) (hm : ∀ m ∈ S.KM, j ≠ m.1 ∧ o.dst ≠ some m.2) (hk0 : ∀ k ∈ S.K0, j ≠ k.2.2)
    (h : ∀ a w, KeepB W.heap.size S.b0 W w → sights T a0 a w s → mems S ops j a w w.heap.size → o.wp P a w (DoneB T j o a w) Q) : OblJ P ops Q T (BJ N S) a0 W j o s := by
  intro listed a w hx hs _ _ _ hwt hJ
  subst hN
  obtain ⟨bs, h0, hM⟩ := hJ
  refine free hg (Oper.wp_mono (fun a' w' ⟨v, e, hz, hp, hb⟩ => ?_) (h a w hx hs fun m hmm hw => (S.M m.2).mono (sub_hideL _ w bs) (Nat.le_refl _) (hM m hmm (hwt m.1 hw))))
  subst e
  refine ⟨⟨v, rfl, hz, hp, KeepB.of (hb.mono (KeepB.size hx))⟩, bj_ord hk hk0 hb (fun m hmm hl => ?_) h0⟩
  obtain ⟨k1, k2⟩ := hm m hmm
  rw [getD_set_ne false k1] at hl
  rw [eval_of (put_other a o.dst v _ k2)]
  exact (S.M m.2).mono (hideL_below bs hb) hb.size (hM m hmm hl)
/-- what such an operation leaves -/
structure DoneM (S : BxS) (t : Tmp) (bs : List Nat) (a : Act) (w : World) (a' : Act) (w' : World) : Prop where
  out : ∃ v, a' = a.put (some t) v ∧ Below w.heap.size w w' ∧ (S.M t).pred v (hideL w' bs) w'.heap.size
/-- an operation whose value hangs on memory -/
theorem oblB_mem {t : Tmp} (hg : o.guard = none) (hN : N = W.heap.size) (hS : okS N S) (hd : o.dst = some t) (hmt : (j, t) ∈ S.KM) (ht : t < a0.tmps.size) (hj : j < ops.size) (hT : ∀ v w, predAt T j v w)
    (h : ∀ a w bs, KeepB W.heap.size S.b0 W w → Bs W.heap.size S.b0 w bs → sights T a0 a w s → mems S ops j a (hideL w bs) w.heap.size → o.wp P a w (DoneM S t bs a w) Q) : OblJ P ops Q T (BJ N S) a0 W j o s := by
  intro listed a w hx hs hls has hun hwt hJ
  subst hN
  obtain ⟨bs, h0, hM⟩ := hJ
  refine free hg (Oper.wp_mono (fun a' w' hdn => ?_) (h a w bs hx h0.1 hs fun m hmm hw => hM m hmm (hwt m.1 hw)))
  obtain ⟨v, e, hb, hp⟩ := hdn.out
  subst e
  refine ⟨⟨v, by rw [hd], (fun hh => by rw [hd] at hh; cases hh), hT _ _, KeepB.of (hb.mono (KeepB.size hx))⟩, bj_ord (fun b hbm => ?_) (fun k hkm e => (hS.2.2.2.1 k hkm).2 (j, t) hmt e.symm) hb (fun m hmm hl => ?_) h0⟩
  · obtain ⟨e1, e2, e3⟩ := hS.2.1 b hbm (j, t) hmt
    exact ⟨fun e => e1 e.symm, fun e => e2 e.symm, fun e => e3 (Option.some.inj e).symm⟩
  · by_cases e : m = (j, t)
    · subst e
      rw [eval_put_same (by rw [has]; exact ht)]
      exact hp
    · have k1 : j ≠ m.1 := fun e1 => e (hS.2.2.1 m hmm (j, t) hmt (.inl e1.symm))
      have k2 : (some t : Option Tmp) ≠ some m.2 := fun e1 => e (hS.2.2.1 m hmm (j, t) hmt (.inr (Option.some.inj e1).symm))
      rw [getD_set_ne false k1] at hl
      rw [eval_of (put_other a (some t) v _ k2)]
      exact (S.M m.2).mono (hideL_below bs hb) hb.size (hM m hmm hl)
/-- a box is made -/
theorem oblB_alloc {t : Tmp} {js : Nat} (hg : o.guard = none) (hN : N = W.heap.size) (hS : okS N S) (hm : (j, t, js) ∈ S.K) (hd : o.dst = some t) (ht : t < a0.tmps.size) (hj : j < ops.size) (hT : ∀ v w, predAt T j v w) (hZ : notU8 (S.Z t) = true)
    (h : ∀ a w, KeepB W.heap.size S.b0 W w → o.wp P a w (fun a' w' => ∃ ty, a' = a.put o.dst (.pointer (some ⟨w.heap.size, 0, none⟩)) ∧ w' = w.alloc (.cells (S.Z t) ty)) Q) : OblJ P ops Q T (BJ N S) a0 W j o s := by
  intro listed a w hx _ hls has hun _ hJ
  subst hN
  obtain ⟨bs, ⟨h0, h1, h2, h3, h4⟩, hM⟩ := hJ
  have hsz : W.heap.size ≤ w.heap.size := KeepB.size hx
  refine free hg (Oper.wp_mono (fun a' w' ⟨ty, e, e'⟩ => ?_) (h a w hx))
  subst e
  subst e'
  refine ⟨⟨_, rfl, fun h => (by rw [hd] at h; cases h), hT _ _, KeepB.of (Below.alloc (Below.refl _ w) hsz _)⟩, ?_⟩
  rw [hd]
  have hba : Below w.heap.size w (w.alloc (.cells (S.Z t) ty)) := balloc (bsame w) _
  have hsub : Sub w.heap.size (hideL w bs) (hideL (w.alloc (.cells (S.Z t) ty)) (w.heap.size :: bs)) := hideL_sub_of fun k hk hn => ⟨by rw [List.mem_cons, not_or]; exact ⟨by omega, hn⟩, hba.block k hk⟩
  have hK := hS.1
  have hn : ∀ b ∈ S.K, b ≠ (j, t, js) → j ≠ b.1 ∧ (some t : Option Tmp) ≠ some b.2.1 := fun b hbm hne =>
    ⟨fun e => hne ((hK (j, t, js) hm b hbm).1 (.inl e)).symm, fun e => hne ((hK (j, t, js) hm b hbm).1 (.inr (.inl (Option.some.inj e)))).symm⟩
  have hs : ∀ b ∈ S.K, j ≠ b.2.2 := fun b hbm => (hK (j, t, js) hm b hbm).2
  have hold : ∀ b ∈ S.K, b ≠ (j, t, js) → listed.getD b.1 false = true → (a.put (some t) (.pointer (some ⟨w.heap.size, 0, none⟩))).eval (.tmp b.2.1) ≠ .pointer (some ⟨w.heap.size, 0, none⟩) := fun b hbm hne hl => by
    rw [eval_of (put_other a _ _ _ (hn b hbm hne).2)]
    obtain ⟨g, e, hg, _⟩ := h1 b hbm hl
    have := (h0 g hg).2.1
    rw [e]
    intro e2
    injection e2 with e3
    injection e3 with e4
    injection e4 with e5
    omega
  refine ⟨w.heap.size :: bs, ⟨fun b hb => ?_, fun b hbm hl => ?_, fun b hbm c hc hne hl hl' => ?_, fun b hbm hl => ?_, fun k hkm => ?_⟩, fun m hmm hl => ?_⟩
  · rcases List.mem_cons.1 hb with rfl | hb
    · exact ⟨.inr hsz, by simp, _, Str.new w _ ty, hZ⟩
    · exact h0.next hba b hb
  · by_cases hb : b = (j, t, js)
    · subst hb
      refine ⟨w.heap.size, eval_put_same (by rw [has]; exact ht), by simp, hsz, fun hh => ?_, fun _ => Str.new w _ ty⟩
      exfalso
      rw [getD_set_ne false (hs _ hm)] at hh
      have := h3 _ hm hh
      rw [getD_ft hun] at this
      cases this
    · rw [getD_set_ne false (hn b hbm hb).1] at hl
      rw [getD_set_ne false (hs b hbm), eval_of (put_other a _ _ _ (hn b hbm hb).2)]
      obtain ⟨g, e, hg, hgN, hs1, hz1⟩ := h1 b hbm hl
      exact ⟨g, e, List.mem_cons_of_mem _ hg, hgN, fun hh => by
        obtain ⟨cs, c1, c2⟩ := hs1 hh
        exact ⟨cs, c1.alloc _, (S.X b.2.1).mono hsub (by simp) c2⟩, fun hh => (hz1 hh).alloc _⟩
  · by_cases hb : b = (j, t, js)
    · subst hb
      have hcb : c ≠ (j, t, js) := fun e => hne e.symm
      rw [getD_set_ne false (hn c hc hcb).1] at hl'
      rw [eval_put_same (by rw [has]; exact ht)]
      exact (hold c hc hcb hl').symm
    · rw [getD_set_ne false (hn b hbm hb).1] at hl
      by_cases hcb : c = (j, t, js)
      · subst hcb
        rw [eval_put_same (by rw [has]; exact ht)]
        exact hold b hbm hb hl
      · rw [getD_set_ne false (hn c hc hcb).1] at hl'
        rw [eval_of (put_other a _ _ _ (hn b hbm hb).2), eval_of (put_other a _ _ _ (hn c hc hcb).2)]
        exact h2 b hbm c hc hne hl hl'
  · rw [getD_set_ne false (hs b hbm)] at hl
    exact getD_set_true (h3 b hbm hl)
  · obtain ⟨g1, g2, g3⟩ := h4 k hkm
    rw [getD_set_ne false (Ne.symm ((hS.2.2.2.1 k hkm).1 _ hm).1)]
    exact ⟨List.mem_cons_of_mem _ g1, fun hh => by
      obtain ⟨cs, c1, c2⟩ := g2 hh
      exact ⟨cs, c1.alloc _, (S.X k.1).mono hsub (by simp) c2⟩, fun hh => (g3 hh).alloc _⟩
  · obtain ⟨e1, e2, e3⟩ := hS.2.1 (j, t, js) hm m hmm
    rw [getD_set_ne false e1] at hl
    rw [eval_of (put_other a _ _ _ (fun e => e3 (Option.some.inj e)))]
    exact (S.M m.2).mono hsub (by simp) (hM m hmm hl)
/-- what a store into a box leaves -/
structure StoredB (S : BxS) (t : Tmp) (g : Nat) (bs : List Nat) (a : Act) (w : World) (a' : Act) (w' : World) : Prop where
  out : a' = a ∧ ∃ cs, w' = w.setRow g cs ∧ notU8 cs = true ∧ (S.X t).pred cs (hideL w bs) w.heap.size
/-- a box is stored into -/
theorem oblB_store {t : Tmp} {ja : Nat} (hg : o.guard = none) (hN : N = W.heap.size) (hS : okS N S) (hm : (ja, t, j) ∈ S.K) (hd : o.dst = none) (hj : j < ops.size) (hw : waits ops j ja = true) (hT : ∀ v w, predAt T j v w)
    (h : ∀ a w bs g, KeepB W.heap.size S.b0 W w → Bs W.heap.size S.b0 w bs → sights T a0 a w s → mems S ops j a (hideL w bs) w.heap.size → a.eval (.tmp t) = .pointer (some ⟨g, 0, none⟩) → Str w g (S.Z t) → o.wp P a w (StoredB S t g bs a w) Q) : OblJ P ops Q T (BJ N S) a0 W j o s := by
  intro listed a w hx hs hls has hun hwt hJ
  subst hN
  obtain ⟨bs, ⟨h0, h1, h2, h3, h4⟩, hM⟩ := hJ
  obtain ⟨g, e, hg', hgN, hS1, hS0⟩ := h1 _ hm (hwt ja hw)
  have hSz := hS0 (getD_ft hun)
  refine free hg (Oper.wp_mono (fun a' w' hst => ?_) (h a w bs g hx h0 hs (fun m hmm hw => hM m hmm (hwt m.1 hw)) e hSz))
  obtain ⟨e1, cs, e2, hn1, hp⟩ := hst.out
  subst e1
  subst e2
  obtain ⟨_, hgl, _⟩ := h0 g hg'
  have hK := hS.1
  have hsz : (w.setRow g cs).heap.size = w.heap.size := by simp [World.setRow]
  have hsub : Sub w.heap.size (hideL w bs) (hideL (w.setRow g cs) bs) := hideL_sub_of fun k hk hn => ⟨hn, setRow_other w g k cs (fun e => hn (by rw [e]; exact hg'))⟩
  have hjl : j < listed.size := by omega
  have hs' : ∀ b ∈ S.K, j ≠ b.1 := fun b hbm => Ne.symm (hK b hbm (ja, t, j) hm).2
  refine ⟨⟨undef, by rw [hd]; rfl, fun _ => rfl, hT _ _, KeepB.of (below_setRow (Below.refl _ w) hgN _)⟩, bs, ⟨fun b hb => ?_, fun b hbm hl => ?_, fun b hbm c hc hne hl hl' => ?_, fun b hbm hl => ?_, fun k hkm => ?_⟩, fun m hmm hl => ?_⟩
  · obtain ⟨b1, b2, cs', b3, b4⟩ := h0 b hb
    by_cases e : b = g
    · subst e
      exact ⟨b1, by rw [hsz]; exact b2, cs, b3.setRow, hn1⟩
    · exact ⟨b1, by rw [hsz]; exact b2, cs', b3.setRow_other e, b4⟩
  · rw [getD_set_ne false (hs' b hbm)] at hl
    obtain ⟨g', e', hg2, hgN2, hs1, hz1⟩ := h1 b hbm hl
    by_cases hb : b = (ja, t, j)
    · subst hb
      rw [e] at e'
      injection e' with e3
      injection e3 with e4
      injection e4 with e5
      subst e5
      refine ⟨g, e, hg2, hgN, fun _ => ⟨cs, hSz.setRow, ?_⟩, fun hh => by rw [getD_set_self hjl] at hh; cases hh⟩
      rw [hsz]
      exact (S.X _).mono hsub (Nat.le_refl _) hp
    · have hjb : j ≠ b.2.2 := fun e => hb ((hK (ja, t, j) hm b hbm).1 (.inr (.inr e))).symm
      have hgg : g' ≠ g := fun e5 => h2 b hbm _ hm hb hl (hwt ja hw) (by rw [e', e, e5])
      refine ⟨g', e', hg2, hgN2, fun hh => ?_, fun hh => ?_⟩
      · rw [getD_set_ne false hjb] at hh
        obtain ⟨cs', c1, c2⟩ := hs1 hh
        refine ⟨cs', c1.setRow_other hgg, ?_⟩
        rw [hsz]
        exact (S.X _).mono hsub (Nat.le_refl _) c2
      · rw [getD_set_ne false hjb] at hh
        exact (hz1 hh).setRow_other hgg
  · rw [getD_set_ne false (hs' b hbm)] at hl
    rw [getD_set_ne false (hs' c hc)] at hl'
    exact h2 b hbm c hc hne hl hl'
  · rw [getD_set_ne false (hs' b hbm)]
    by_cases hb : b = (ja, t, j)
    · subst hb
      exact hwt ja hw
    · rw [getD_set_ne false (fun e => hb ((hK (ja, t, j) hm b hbm).1 (.inr (.inr e))).symm)] at hl
      exact h3 b hbm hl
  · obtain ⟨g1, g2, g3⟩ := h4 k hkm
    have hgg : k.2.1 ≠ g := by have := hS.2.2.2.2.2 k hkm; omega
    rw [getD_set_ne false (Ne.symm ((hS.2.2.2.1 k hkm).1 _ hm).2)]
    exact ⟨g1, fun hh => by
      obtain ⟨cs', c1, c2⟩ := g2 hh
      exact ⟨cs', c1.setRow_other hgg, by rw [hsz]; exact (S.X k.1).mono hsub (Nat.le_refl _) c2⟩, fun hh => (g3 hh).setRow_other hgg⟩
  · obtain ⟨e1, e2, e3⟩ := hS.2.1 (ja, t, j) hm m hmm
    rw [getD_set_ne false e2] at hl
    rw [hsz]
    exact (S.M m.2).mono hsub (Nat.le_refl _) (hM m hmm hl)
/-- a box that was there is stored into -/
theorem oblB_store0 {t : Tmp} {g : Nat} (hg : o.guard = none) (hN : N = W.heap.size) (hS : okS N S) (hm : (t, g, j) ∈ S.K0) (hd : o.dst = none) (hj : j < ops.size) (hT : ∀ v w, predAt T j v w)
    (h : ∀ a w bs, KeepB W.heap.size S.b0 W w → Bs W.heap.size S.b0 w bs → sights T a0 a w s → mems S ops j a (hideL w bs) w.heap.size → Str w g (S.Z t) → o.wp P a w (StoredB S t g bs a w) Q) : OblJ P ops Q T (BJ N S) a0 W j o s := by
  intro listed a w hx hs hls has hun hwt hJ
  subst hN
  obtain ⟨bs, ⟨h0, h1, h2, h3, h4⟩, hM⟩ := hJ
  obtain ⟨hg', hS1, hS0⟩ := h4 _ hm
  have hSz := hS0 (getD_ft hun)
  refine free hg (Oper.wp_mono (fun a' w' hst => ?_) (h a w bs hx h0 hs (fun m hmm hw => hM m hmm (hwt m.1 hw)) hSz))
  obtain ⟨e1, cs, e2, hn1, hp⟩ := hst.out
  subst e1
  subst e2
  dsimp only at hg' hS1 hS0 hSz
  have hgl := (h0 g hg').2.1
  have hgN : g < W.heap.size := hS.2.2.2.2.2 _ hm
  have hsz : (w.setRow g cs).heap.size = w.heap.size := by simp [World.setRow]
  have hsub : Sub w.heap.size (hideL w bs) (hideL (w.setRow g cs) bs) := hideL_sub_of fun k hk hn => ⟨hn, setRow_other w g k cs (fun e => hn (by rw [e]; exact hg'))⟩
  have hjl : j < listed.size := by omega
  obtain ⟨hs1', hs2'⟩ := hS.2.2.2.1 _ hm
  have hs' : ∀ b ∈ S.K, j ≠ b.1 ∧ j ≠ b.2.2 := fun b hbm => hs1' b hbm
  refine ⟨⟨undef, by rw [hd]; rfl, fun _ => rfl, hT _ _, ⟨rfl, rfl, rfl, by rw [hsz]; exact Nat.le_refl _, fun k _ hk => setRow_other w g k cs (fun e => hk (by rw [e]; exact List.mem_map.2 ⟨_, hm, rfl⟩))⟩⟩, bs, ⟨fun b hb => ?_, fun b hbm hl => ?_, fun b hbm c hc hne hl hl' => ?_, fun b hbm hl => ?_, fun k hkm => ?_⟩, fun m hmm hl => ?_⟩
  · obtain ⟨b1, b2, cs', b3, b4⟩ := h0 b hb
    by_cases e : b = g
    · subst e
      exact ⟨b1, by rw [hsz]; exact b2, cs, b3.setRow, hn1⟩
    · exact ⟨b1, by rw [hsz]; exact b2, cs', b3.setRow_other e, b4⟩
  · obtain ⟨n1, n2⟩ := hs' b hbm
    rw [getD_set_ne false n1] at hl
    obtain ⟨g', e', hg2, hgN2, hs1, hz1⟩ := h1 b hbm hl
    have hgg : g' ≠ g := by omega
    refine ⟨g', e', hg2, hgN2, fun hh => ?_, fun hh => ?_⟩
    · rw [getD_set_ne false n2] at hh
      obtain ⟨cs', c1, c2⟩ := hs1 hh
      refine ⟨cs', c1.setRow_other hgg, ?_⟩
      rw [hsz]
      exact (S.X _).mono hsub (Nat.le_refl _) c2
    · rw [getD_set_ne false n2] at hh
      exact (hz1 hh).setRow_other hgg
  · rw [getD_set_ne false (hs' b hbm).1] at hl
    rw [getD_set_ne false (hs' c hc).1] at hl'
    exact h2 b hbm c hc hne hl hl'
  · rw [getD_set_ne false (hs' b hbm).2] at hl
    rw [getD_set_ne false (hs' b hbm).1]
    exact h3 b hbm hl
  · obtain ⟨g1, g2, g3⟩ := h4 k hkm
    by_cases e : k = (t, g, j)
    · subst e
      refine ⟨hg', fun _ => ⟨cs, hSz.setRow, ?_⟩, fun hh => by rw [getD_set_self hjl] at hh; cases hh⟩
      rw [hsz]
      exact (S.X _).mono hsub (Nat.le_refl _) hp
    · have n1 : j ≠ k.2.2 := fun e1 => e (hS.2.2.2.2.1 k hkm _ hm (.inl e1.symm))
      have n2 : k.2.1 ≠ g := fun e1 => e (hS.2.2.2.2.1 k hkm _ hm (.inr e1))
      rw [getD_set_ne false n1]
      exact ⟨g1, fun hh => by
        obtain ⟨cs', c1, c2⟩ := g2 hh
        exact ⟨cs', c1.setRow_other n2, by rw [hsz]; exact (S.X k.1).mono hsub (Nat.le_refl _) c2⟩, fun hh => (g3 hh).setRow_other n2⟩
  · rw [getD_set_ne false (hs2' m hmm)] at hl
    rw [hsz]
    exact (S.M m.2).mono hsub (Nat.le_refl _) (hM m hmm hl)
/-- what is known behind the region -/
theorem bj_end {listed : Array Bool} {a : Act} {w : World} {n : Nat} (hall : ∀ i, i < n → listed.getD i false = true) (hK : ∀ b ∈ S.K, b.1 < n ∧ b.2.2 < n) (hKM : ∀ m ∈ S.KM, m.1 < n) (hK0 : ∀ k ∈ S.K0.map (fun k => k.2.2), k < n) (h : BJ N S listed a w) :
    (∀ m ∈ S.KM, (S.M m.2).pred (a.eval (.tmp m.2)) w w.heap.size) ∧
    (∀ b ∈ S.K, ∃ g cs, a.eval (.tmp b.2.1) = .pointer (some ⟨g, 0, none⟩) ∧ N ≤ g ∧ Str w g cs ∧ (S.X b.2.1).pred cs w w.heap.size) ∧
    (∀ b ∈ S.K, ∀ c ∈ S.K, b ≠ c → a.eval (.tmp b.2.1) ≠ a.eval (.tmp c.2.1)) ∧
    (∀ k ∈ S.K0, ∃ cs, Str w k.2.1 cs ∧ (S.X k.1).pred cs w w.heap.size) := by
  obtain ⟨bs, ⟨h0, h1, h2, h3, h4⟩, hM⟩ := h
  refine ⟨fun m hm => (S.M m.2).mono (sub_hideL _ w bs) (Nat.le_refl _) (hM m hm (hall _ (hKM m hm))), fun b hb => ?_, fun b hb c hc hne => h2 b hb c hc hne (hall _ (hK b hb).1) (hall _ (hK c hc).1), fun k hk => ?_⟩
  · obtain ⟨g, e, hg, hgN, hs, -⟩ := h1 b hb (hall _ (hK b hb).1)
    obtain ⟨cs, c1, c2⟩ := hs (hall _ (hK b hb).2)
    exact ⟨g, cs, e, hgN, c1, (S.X b.2.1).mono (sub_hideL _ w bs) (Nat.le_refl _) c2⟩
  · obtain ⟨g1, g2, -⟩ := h4 k hk
    obtain ⟨cs, c1, c2⟩ := g2 (hall _ (hK0 _ (List.mem_map.2 ⟨k, hk, rfl⟩)))
    exact ⟨cs, c1, (S.X k.1).mono (sub_hideL _ w bs) (Nat.le_refl _) c2⟩
end
section
variable {R : Way} {P : Program} {ops : Array Oper} {Q : Exit → Act → World → Prop} {T : List (SP R)} {a0 a : Act} {W w : World}
/-- THE LAW beside a word that holds at the region's head -/
theorem wp_region_box {id : Nat} (J : Word) (T : List (SP R)) (n : Nat) (L : List (List (Tmp × Option Nat))) (hn : a0.tmps.size = n) (hm : P.follows .mixedOrders = true) (hc : checkB ops n = true) (hJ0 : ∀ listed, (∀ i, listed.getD i false = false) → J listed a0 W.drew) (hL : lookAll ops 0 ops.toList = L) (hobl : OblsJ P ops Q T J a0 W 0 ops.toList L)
    (D : List (Option Tmp)) (hD : ops.toList.map (·.dst) = D) (hfin : ∀ w' listed, R.rel W w' → (∀ i, i < ops.size → listed.getD i false = true) → Fin (fun a w => J listed a w → Q .normal a w) w' D T a0) : (Code.region id ops true).wp P Q a0 W := by
  subst hn
  subst hL
  subst hD
  refine wp_region_any hm (wpAny_J (form_of hc) hobl hfin _ _ _ _ (by simp) ⟨R.drew W, rfl, rfl, by simp, fun _ _ => rfl, fun i o ho hl => ?_, fun i o ho hl e he hb => ?_⟩ (hJ0 _ fun i => ?_))
  · have hlt := (Array.getElem?_eq_some_iff.1 ho).1
    simp [hlt] at hl
  · have hlt := (Array.getElem?_eq_some_iff.1 ho).1
    simp [hlt] at hl
  · rw [Array.getD_eq_getD_getElem?]
    by_cases hi : i < ops.size
    · simp [hi]
    · simp [hi]
end
/-! what is seen by reckoning alone -/
def okB (K : List (Nat × Tmp × Nat)) (KM : List (Nat × Tmp)) (K0 : List (Tmp × Nat)) : Bool :=
  (K.all fun b => K.all fun c => (!(b.1 == c.1 || (b.2.1 == c.2.1 || b.2.2 == c.2.2)) || b == c) && b.1 != c.2.2) &&
  (K.all fun b => KM.all fun m => b.1 != m.1 && (b.2.2 != m.1 && b.2.1 != m.2)) && (KM.all fun m => KM.all fun m' => !(m.1 == m'.1 || m.2 == m'.2) || m == m') &&
  (K0.all fun k => (K.all fun b => k.2 != b.1 && k.2 != b.2.2) && KM.all fun m => k.2 != m.1)
theorem okS_of {N : Nat} {S : BxS} (h : okB S.K S.KM (S.K0.map fun k => (k.1, k.2.2)) = true) (h4 : S.K0.Pairwise fun k k' => k.2.2 ≠ k'.2.2 ∧ k.2.1 ≠ k'.2.1) (h5 : ∀ k ∈ S.K0, k.2.1 < N) : okS N S := by
  unfold okB at h
  simp only [Bool.and_eq_true, List.all_eq_true] at h
  obtain ⟨⟨⟨h1, h2⟩, h3⟩, h6⟩ := h
  refine ⟨fun b hb c hc => ?_, fun b hb m hm => ?_, fun m hm m' hm' => ?_, fun k hk => ?_, fun k hk k' hk' he => ?_, h5⟩
  · obtain ⟨e1, e2⟩ := h1 b hb c hc
    refine ⟨fun he => ?_, by simpa using e2⟩
    simp only [Bool.or_eq_true, Bool.not_eq_true', Bool.or_eq_false_iff, beq_eq_false_iff_ne, beq_iff_eq] at e1
    rcases e1 with ⟨n1, n2, n3⟩ | e1
    · rcases he with he | he | he
      · exact absurd he n1
      · exact absurd he n2
      · exact absurd he n3
    · exact e1
  · have := h2 b hb m hm
    simpa using this
  · intro he
    have := h3 m hm m' hm'
    simp only [Bool.or_eq_true, Bool.not_eq_true', Bool.or_eq_false_iff, beq_eq_false_iff_ne, beq_iff_eq] at this
    rcases this with ⟨n1, n2⟩ | e
    · rcases he with he | he
      · exact absurd he n1
      · exact absurd he n2
    · exact e
  · obtain ⟨g1, g2⟩ := h6 (k.1, k.2.2) (List.mem_map.2 ⟨k, hk, rfl⟩)
    exact ⟨fun b hb => by have := g1 b hb; simpa using this, fun m hm => by have := g2 m hm; simpa using this⟩
  · obtain ⟨i, hi, rfl⟩ := List.getElem_of_mem hk
    obtain ⟨i', hi', rfl⟩ := List.getElem_of_mem hk'
    rw [List.pairwise_iff_getElem] at h4
    rcases Nat.lt_trichotomy i i' with hlt | heq | hgt
    · have := h4 i i' hi hi' hlt
      rcases he with he | he
      · exact absurd he this.1
      · exact absurd he this.2
    · subst heq; rfl
    · have := h4 i' i hi' hi hgt
      rcases he with he | he
      · exact absurd he.symm this.1
      · exact absurd he.symm this.2
def ordB (K : List (Nat × Tmp × Nat)) (KM : List (Nat × Tmp)) (K0 : List (Tmp × Nat)) (j : Nat) (d : Option Tmp) : Bool :=
  (K.all fun b => j != b.1 && (j != b.2.2 && d != some b.2.1)) && (KM.all fun m => j != m.1 && d != some m.2) && K0.all fun k => j != k.2
section
variable {N : Nat} {S : BxS} {P : Program} {ops : Array Oper} {Q : Exit → Act → World → Prop} {T : List (SP (extB N S.b0))} {a0 a : Act} {W w : World} {j : Nat} {o : Oper} {s : List (Tmp × Option Nat)} {t : Tmp} {bs : List Nat}
theorem oblB_pure (hg : o.guard = none) (hN : N = W.heap.size) (ho : ordB S.K S.KM (S.K0.map fun k => (k.1, k.2.2)) j o.dst = true)
    (h : ∀ a w, KeepB W.heap.size S.b0 W w → sights T a0 a w s → mems S ops j a w w.heap.size → o.wp P a w (DoneB T j o a w) Q) : OblJ P ops Q T (BJ N S) a0 W j o s := by
  unfold ordB at ho
  simp only [Bool.and_eq_true, List.all_eq_true] at ho
  exact oblB_ord hg hN (fun b hb => by have := ho.1.1 b hb; simpa using this) (fun m hm => by have := ho.1.2 m hm; simpa using this) (fun k hk => by have := ho.2 _ (List.mem_map.2 ⟨k, hk, rfl⟩); simpa using this) h
/-- a value that is there -/
theorem mv_mem {v : Value} (hd : o.dst = some t) (h : (execOp a.eval o).run P w = .ok (.value v) w) (hp : (S.M t).pred v (hideL w bs) w.heap.size) : o.wp P a w (DoneM S t bs a w) Q := by
  unfold Oper.wp
  rw [h]
  exact ⟨v, by rw [hd], bsame w, hp⟩
theorem run_mv {x : Operand} {v : Value} (ho : o.op = .move x ∨ o.op = .assign x) (hx : a.eval x = v) : (execOp a.eval o).run P w = .ok (.value v) w := by
  unfold execOp
  rcases ho with ho | ho <;> (rw [ho]; simp [hx])
theorem run_ex {x : Operand} {vs : Array Value} {v : Value} {k : Nat} (ho : o.op = .extract x k) (hx : a.eval x = .tuple vs) (hv : vs[k]? = some v) : (execOp a.eval o).run P w = .ok (.value v) w := by
  unfold execOp
  rw [ho]
  simp [hx, Instr.extract, hv]
theorem run_ix {ty : TypeId} {x y : Operand} {vx vy v : Value} (ho : o.op = .index ty x y) (hx : a.eval x = vx) (hy : a.eval y = vy) (h : (Instr.index ty vx vy).run P w = .ok v w) : (execOp a.eval o).run P w = .ok (.value v) w := by
  unfold execOp
  rw [ho]
  simp [hx, hy, h]
/-- a struct's box is made -/
theorem al_box {ty : TypeId} {Z : Array Value} (ho : o.op = .alloc ty) (hi : (P.info? ty).map (fun i => (i.zero, i.size)) = some (some (.agg Z), Z.size)) : o.wp P a w (fun a' w' => ∃ ty, a' = a.put o.dst (.pointer (some ⟨w.heap.size, 0, none⟩)) ∧ w' = w.alloc (.cells Z ty)) Q := by
  obtain ⟨hz, _⟩ := zero_of_info hi
  unfold Oper.wp execOp
  rw [ho]
  simp only [Instr.alloc, newVar, newRow, Sem.run_bind, hz, Result.andThen_ok]
  exact ⟨ty, rfl, rfl⟩
/-- a struct's box is stored into -/
theorem run_st_box {ty : TypeId} {x y : Operand} {g : Nat} {Z cs : Array Value} (ho : o.op = .store ty x y) (hx : a.eval x = .pointer (some ⟨g, 0, none⟩)) (hy : a.eval y = .agg cs) (hs : Str w g Z) (hz : Z.size = cs.size) (hi : (P.info? ty).map (·.size) = some cs.size) (h1' : cs.toList.all (·.oneCell') = true) :
    (execOp a.eval o).run P w = .ok .skip (w.setRow g cs) := by
  obtain ⟨t', hg⟩ := hs
  have h1 : cs.all (·.oneCell') = true := by rw [← Array.all_toList]; exact h1'
  unfold execOp
  rw [ho]
  simp only [hx, hy, Instr.storeAt, Instr.sureAddr, Sem.run_bind, Sem.run_pure, Result.andThen_ok]
  rw [run_storeVar_row w g t' ty Z cs hg hi hz h1]
  rfl
theorem st_box {g : Nat} {cs : Array Value} (hd : o.dst = none) (h : (execOp a.eval o).run P w = .ok .skip (w.setRow g cs)) (hn : notU8 cs = true) (hp : (S.X t).pred cs (hideL w bs) w.heap.size) : o.wp P a w (StoredB S t g bs a w) Q := by
  unfold Oper.wp
  rw [h]
  exact ⟨by simp [hd, Act.put], cs, rfl, hn, hp⟩
end
/-- two values -/
def twoM (p q : MP Value) : MP Value := ⟨fun v w B => ∃ x y, v = .tuple #[x, y] ∧ p.pred x w B ∧ q.pred y w B, fun hs hb ⟨x, y, e, h1, h2⟩ => ⟨x, y, e, p.mono hs hb h1, q.mono hs hb h2⟩⟩
/-- a value that is known -/
def eqM (c : Value) : MP Value := ⟨fun v _ _ => v = c, fun _ _ h => h⟩
def rowM (p : MP Value) : MP (Array Value) := ⟨fun cs w B => p.pred (.agg cs) w B, fun hs hb h => p.mono hs hb h⟩
end Reg
theorem hideL_append (w : World) (bs : List Nat) : ∀ obs, hideL w (obs ++ bs) = hideL (hideL w bs) obs
  | [] => rfl
  | g :: obs => congrArg (fun x => hide x g) (hideL_append w bs obs)
theorem hideL_mono {B : Nat} {w w' : World} (obs : List Nat) (h : Sub B w w') : Sub B (hideL w obs) (hideL w' obs) := by
  intro p v hp hv
  by_cases hg : p.block ∈ obs
  · rw [hideL_in w p obs hg] at hv; cases hv
  · rw [hideL_out w p obs hg] at hv
    rw [hideL_out w' p obs hg]
    exact h p v hp hv
theorem Bytes.keepB {w w' : World} {B n c : Nat} {b0 : List Nat} {A : Option Addr} {l : List UInt8} (h : Bytes w B A n c l) (hB : B ≤ w.heap.size) (hn : ∀ b ∈ b0, ∃ cs, Str w b cs ∧ notU8 cs = true) (hk : Reg.KeepB w.heap.size b0 w w') : Bytes w' B A n c l :=
  (h.hideL b0 hn).sub fun p v hp hv => by
    by_cases hm : p.block ∈ b0
    · rw [hideL_in w p b0 hm] at hv; cases hv
    · rw [hideL_out w p b0 hm] at hv
      rw [hk.cell (by omega) hm]
      exact hv
/-- bytes that hang on none of these blocks -/
def BytesH (bs : List Nat) (w : World) (A : Option Addr) (n c : Nat) (l : List UInt8) : Prop := Bytes (hideL w bs) w.heap.size A n c l
theorem BytesH.keepB {bs : List Nat} {w w' : World} {n c : Nat} {b0 : List Nat} {A : Option Addr} {l : List UInt8} (h : BytesH bs w A n c l) (hn : ∀ b ∈ b0, ∃ cs, Str w b cs ∧ notU8 cs = true) (hk : Reg.KeepB w.heap.size b0 w w') : BytesH bs w' A n c l := by
  refine Bytes.more (w := Go.Proofs.YtpklclnehlgcpaaGreat.hideL w' bs) (Bytes.sub (w := Go.Proofs.YtpklclnehlgcpaaGreat.hideL w (bs ++ b0)) (B := w.heap.size) ?_ ?_) hk.size
  · rw [hideL_append]
    obtain ⟨h1, h2, h3, h4⟩ := h
    refine ⟨h1, h2, h3, fun hpos => ?_⟩
    obtain ⟨b, o, e, hb, hc⟩ := h4 hpos
    refine ⟨b, o, e, hb, fun j u hu => ?_⟩
    have hx := hc j u hu
    have hnb : b ∉ bs := fun hm => by
      have h0 : (Go.Proofs.YtpklclnehlgcpaaGreat.hideL w bs).cell? ⟨b, o + j, none⟩ = none := hideL_in w ⟨b, o + j, none⟩ bs hm
      rw [h0] at hx; cases hx
    rw [hideL_out w ⟨b, o + j, none⟩ bs hnb] at hx
    rw [hideL_out _ ⟨b, o + j, none⟩ bs hnb, hideL_out w ⟨b, o + j, none⟩ b0]
    · exact hx
    · intro hm
      obtain ⟨cs, hs, hn1⟩ := hn b hm
      rw [hs.cell] at hx
      have hm2 : byteV u ∈ cs.toList := by
        rw [Array.mem_toList_iff]
        exact Array.mem_of_getElem? hx
      have := List.all_eq_true.1 hn1 _ hm2
      simp [byteV] at this
  · rw [hideL_append]
    refine hideL_mono bs fun p v hp hv => ?_
    by_cases hm : p.block ∈ b0
    · rw [hideL_in w p b0 hm] at hv; cases hv
    · rw [hideL_out w p b0 hm] at hv
      rw [hk.cell hp hm]
      exact hv
namespace Reg
/-- bytes in a value, that hang on none of these blocks -/
def byH (obs : List Nat) (V : Option Addr → Nat → Nat → Value) (l : List UInt8) : MP Value := ⟨fun v w B => ∃ A n c, v = V A n c ∧ Bytes (hideL w obs) B A n c l, fun hs hb ⟨A, n, c, e, h⟩ => ⟨A, n, c, e, (h.sub (hideL_mono obs hs)).more hb⟩⟩
end Reg
end Go.Proofs.YtpklclnehlgcpaaGreat
end
