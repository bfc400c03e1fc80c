/-
  Parts of the proof of PlanGrows.
-/
import Derived.Test.YtpklclnehlgcpaaGreatPlanG1
import Derived.Lib.BufferWrite
import Derived.Test.YtpklclnehlgcpaaGreatPlanG0
import Derived.Laws.Slices
import Derived.Maps.AppendAt
import Derived.Deep.OwnRows
section
namespace Go.Proofs.YtpklclnehlgcpaaGreat
open Go.RowKit
namespace Reg

/-- nothing below N turns -/
def extN (N : Nat) : Way := ⟨fun w w' => Below N w w', Below.refl N, fun _ _ _ h k => h.trans k, fun _ => ⟨rfl, rfl, rfl, Nat.le_refl _, fun _ _ => rfl⟩⟩

/-- a word on what has come up, the slots and the world -/
abbrev Word := Array Bool → Act → World → Prop
/-- what is to be shown of an operation, beside such a word -/
def OblJ {R : Way} (P : Program) (ops : Array Oper) (Q : Exit → Act → World → Prop) (T : List (SP R)) (J : Word) (a0 : Act) (W : World) (j : Nat) (o : Oper) (s : List (Tmp × Option Nat)) : Prop :=
  ∀ (listed : Array Bool) (a : Act) (w : World), R.rel W w → sights T a0 a w s → listed.size = ops.size → a.tmps.size = a0.tmps.size → listed.getD j true = false → (∀ i, waits ops j i = true → listed.getD i false = true) → J listed a w →
    (Region.wanted o (yielded ops a.tmps) = true → o.wp P a w (fun a' w' => Done T j o a w a' w' ∧ J (listed.setIfInBounds j true) a' w') Q) ∧
    (Region.wanted o (yielded ops a.tmps) = false → predAt T j undef w ∧ J (listed.setIfInBounds j true) (a.put o.dst undef) w)
def OblsJ {R : Way} (P : Program) (ops : Array Oper) (Q : Exit → Act → World → Prop) (T : List (SP R)) (J : Word) (a0 : Act) (W : World) : Nat → List Oper → List (List (Tmp × Option Nat)) → Prop
  | _, [], _ => True
  | j, o :: l, [] => OblJ P ops Q T J a0 W j o [] ∧ OblsJ P ops Q T J a0 W (j + 1) l []
  | j, o :: l, s :: L => OblJ P ops Q T J a0 W j o s ∧ OblsJ P ops Q T J a0 W (j + 1) l L

section
variable {R : Way} {P : Program} {ops : Array Oper} {Q : Exit → Act → World → Prop} {T : List (SP R)} {J : Word} {a0 a : Act} {W w : World}
theorem oblsJ_at : ∀ (l : List Oper) (k i : Nat) (o : Oper), OblsJ P ops Q T J a0 W k l (lookAll ops k l) → l[i]? = some o → OblJ P ops Q T J a0 W (k + i) o (look1 ops (k + i) o)
  | [], _, _, _, _, h => by simp at h
  | _ :: _, _, 0, _, hO, h => by
    simp at h
    subst h
    exact hO.1
  | _ :: l, k, i + 1, o, hO, h => by
    have := oblsJ_at l (k + 1) i o hO.2 (by simpa using h)
    rwa [show k + 1 + i = k + (i + 1) by omega] at this

theorem wpAny_J (hf : Form ops a0.tmps.size) (hobl : OblsJ P ops Q T J a0 W 0 ops.toList (lookAll ops 0 ops.toList)) (hfin : ∀ w' listed, R.rel W w' → (∀ i, i < ops.size → listed.getD i false = true) → Fin (fun a w => J listed a w → Q .normal a w) w' (ops.toList.map (·.dst)) T a0) :
    ∀ (fuel : Nat) (listed : Array Bool) (a : Act) (w : World), listed.toList.count false = fuel → Inv ops T a0 W listed a w → J listed a w → wpAny P .any ops Q fuel listed a w := by
  have hend : ∀ (listed : Array Bool) (a : Act) (w : World), Inv ops T a0 W listed a w → J listed a w → Region.ready .any ops listed = [] → Q .normal a w := by
    intro listed a w hI hJ hr
    have hall := all_listed hf hI.lsize hr
    have h1 := fin_of (fun a w => J listed a w → Q .normal a w) a ops.toList T a0 (hfin w listed hI.ext hall) (fun i o ho => by
      have ho' : ops[i]? = some o := by simpa using ho
      exact hI.vals i o ho' (hall i (Array.getElem?_eq_some_iff.1 ho').1))
    rw [foldl_put a ops.toList a0 hI.size.symm hI.defers.symm (fun t ht => (hI.other t fun i hi => by
      obtain ⟨o, ho, hd⟩ := writer_some hi
      exact absurd hd (ht o (by rw [Array.mem_toList_iff]; exact Array.mem_of_getElem? ho))).symm)] at h1
    exact h1 hJ
  intro fuel
  induction fuel with
  | zero =>
    intro listed a w hc hI hJ
    have hr : Region.ready .any ops listed = [] := by
      rw [List.eq_nil_iff_forall_not_mem]
      intro j hj
      have h1 := (mem_ready.1 hj).1
      rw [Array.getD_eq_getD_getElem?] at h1
      cases hx : listed[j]? with
      | none => rw [hx] at h1; cases h1
      | some b =>
        rw [hx] at h1
        have h2 : b = false := h1
        subst h2
        have h3 : false ∈ listed.toList := by rw [Array.mem_toList_iff]; exact Array.mem_of_getElem? hx
        have := List.count_pos_iff.2 h3
        omega
    exact ⟨hr, hend _ _ _ hI hJ hr⟩
  | succ fuel ih =>
    intro listed a w hc hI hJ
    refine ⟨hend _ _ _ hI hJ, fun j hj => ?_⟩
    obtain ⟨hun, o, ho, hall⟩ := mem_ready.1 hj
    have hO := oblsJ_at ops.toList 0 j o hobl (by simpa using ho)
    rw [Nat.zero_add] at hO
    obtain ⟨hy, hn⟩ := hO listed a w hI.ext (sights_mk j _ fun t ht => hI.sight hf ho hun hall ht) hI.lsize hI.size hun (fun i hi => by
      obtain ⟨o', ho', e, he, hb, rfl⟩ := waits_edge hi
      rw [ho] at ho'
      cases ho'
      exact hall e he hb) hJ
    have hcnt : (listed.setIfInBounds j true).toList.count false = fuel := by
      have hjl : j < listed.size := by rw [hI.lsize]; exact (Array.getElem?_eq_some_iff.1 ho).1
      have hx : listed.toList[j]? = some false := by
        rw [Array.getD_eq_getD_getElem?, Array.getElem?_eq_getElem hjl] at hun
        have h2 : listed[j] = false := hun
        simp [hjl, h2]
      have := count_set listed.toList j hx
      rw [Array.toList_setIfInBounds]
      omega
    unfold wpOp
    rw [ho]
    dsimp only
    split
    · rename_i hw
      exact .inl (Oper.wp_mono (fun a' w' ⟨⟨v, e, hz, hp, hb⟩, hJ'⟩ => by
        subst e
        exact ih _ _ _ hcnt (hI.step hf ho hun hall hp hz hb) hJ') (hy hw))
    · rename_i hw
      have h2 := hn (by simpa using hw)
      exact ih _ _ _ hcnt (hI.step hf ho hun hall h2.1 (fun _ => rfl) (R.refl w)) h2.2

end
/-- boxes that the region makes (who makes it, its slot, who stores into it): what lies in them, and that they are apart -/
def Bx (N : Nat) (Z : Array Value) (X : Tmp → Array Value) (K : List (Nat × Tmp × Nat)) : Word := fun listed a w =>
  (∀ b ∈ K, listed.getD b.1 false = true → ∃ g, a.eval (.tmp b.2.1) = .pointer (some ⟨g, 0, none⟩) ∧ N ≤ g ∧ Str w g (if listed.getD b.2.2 false = true then X b.2.1 else Z)) ∧
  (∀ b ∈ K, ∀ c ∈ K, b ≠ c → listed.getD b.1 false = true → listed.getD c.1 false = true → a.eval (.tmp b.2.1) ≠ a.eval (.tmp c.2.1)) ∧
  (∀ b ∈ K, listed.getD b.2.2 false = true → listed.getD b.1 false = true)
def okK (K : List (Nat × Tmp × Nat)) : Prop := ∀ b ∈ K, ∀ c ∈ K, ((b.1 = c.1 ∨ b.2.1 = c.2.1 ∨ b.2.2 = c.2.2) → b = c) ∧ b.1 ≠ c.2.2
section
variable {N : Nat} {Z : Array Value} {X : Tmp → Array Value} {K : List (Nat × Tmp × Nat)} {listed : Array Bool} {a : Act} {w w' : World} {j : Nat}
end
/-- what an operation leaves that turns nothing that is there -/
def DoneB {R : Way} (T : List (SP R)) (j : Nat) (o : Oper) (a : Act) (w : World) (a' : Act) (w' : World) : Prop := ∃ v, a' = a.put o.dst v ∧ (o.dst = none → v = undef) ∧ predAt T j v w' ∧ Below w.heap.size w w'
section
variable {N : Nat} {Z : Array Value} {X : Tmp → Array Value} {K : List (Nat × Tmp × Nat)} {P : Program} {ops : Array Oper} {Q : Exit → Act → World → Prop} {T : List (SP (extN N))} {a0 : Act} {W : World} {j : Nat} {o : Oper} {s : List (Tmp × Option Nat)}
theorem wp_eqvB {R : Way} {T : List (SP R)} {a : Act} {w : World} {c : Value} (hd : o.dst ≠ none) (h : (execOp a.eval o).run P w = .ok (.value c) w) (hT : predAt T j c w) : o.wp P a w (DoneB T j o a w) Q := by
  unfold Oper.wp
  rw [h]
  exact ⟨c, rfl, fun h => absurd h hd, hT, bsame w⟩
theorem free {p q : Prop} {a : Act} (hg : o.guard = none) (h : p) : (Region.wanted o (yielded ops a.tmps) = true → p) ∧ (Region.wanted o (yielded ops a.tmps) = false → q) :=
  ⟨fun _ => h, fun hw => by simp [Region.wanted, hg] at hw⟩
end
end Reg
end Go.Proofs.YtpklclnehlgcpaaGreat
end
section
namespace Go.Proofs.YtpklclnehlgcpaaGreat
open Go.RowKit

/-- no byte among these -/
def notU8 (cs : Array Value) : Bool := cs.toList.all fun v => match v with | .int .u8 _ => false | _ => true
theorem grown_set {w w1 : World} {g : Nat} (h : w.grownBy w1 (some g)) (i : Nat) (v : Value) : w.grownBy (w1.setCell ⟨g, i, none⟩ v) (some g) := h.trans (Lib.grownBy_setCell w1 g i v)
theorem grown_refl (w : World) (g : Nat) : w.grownBy w (some g) := World.grownBy.refl w _
/-- bytes do not lie in a box without bytes -/
theorem Bytes.grown {w w1 : World} {B n c g : Nat} {A : Option Addr} {l : List UInt8} {cs : Array Value} (h : Bytes w B A n c l) (hB : B ≤ w.heap.size) (hs : Str w g cs) (hn : notU8 cs = true) (hg : w.grownBy w1 (some g)) : Bytes w1 B A n c l := by
  obtain ⟨h1, h2, h3, h4⟩ := h
  refine ⟨h1, h2, h3, fun hpos => ?_⟩
  obtain ⟨b, o, e, hb, hc⟩ := h4 hpos
  refine ⟨b, o, e, hb, fun j u hu => ?_⟩
  have hne : b ≠ g := by
    intro hbg
    subst hbg
    have h0 : l[0]? = some (l[0]'(by omega)) := List.getElem?_eq_getElem _
    have hx := hc 0 _ h0
    rw [hs.cell] at hx
    have hm : byteV (l[0]'(by omega)) ∈ cs.toList := by
      rw [Array.mem_toList_iff]
      exact Array.mem_of_getElem? hx
    have := List.all_eq_true.1 hn _ hm
    simp [byteV] at this
  have := hc j u hu
  rw [← this]
  exact World.cell?_of_block (a := ⟨b, o + j, none⟩) (hg.block b (by omega) (by intro e2; injection e2 with e2; exact hne e2))
end Go.Proofs.YtpklclnehlgcpaaGreat
end
section
namespace Go.Proofs.YtpklclnehlgcpaaGreat
open Go.RowKit

/-- the address of a part, under a name that the walk does not look behind -/
def cutA (a : Option Addr) (l m s : Nat) : Option Addr := if m = l then a else a.map (·.add (l * s))
theorem cut_fold (a : Option Addr) (l h m s : Nat) : sliced a l h m s = .slice (cutA a l m s) (h - l) (m - l) := rfl

theorem Bytes.cut {w : World} {B n c : Nat} {A : Option Addr} {l : List UInt8} (h : Bytes w B A n c l) (lo hi m : Nat) (h1 : lo ≤ hi) (h2 : hi ≤ n) (h3 : hi ≤ m) (h4 : m ≤ c) :
    Bytes w B (cutA A lo m 1) (hi - lo) (m - lo) ((l.drop lo).take (hi - lo)) := by
  obtain ⟨hl, hc, hm, hx⟩ := h
  refine ⟨by simp; omega, by omega, by omega, fun hn => ?_⟩
  obtain ⟨b, o, rfl, hb, hcell⟩ := hx (by omega)
  unfold cutA
  rw [if_neg (by omega)]
  refine ⟨b, o + lo, by simp [add_none], hb, fun j u hu => ?_⟩
  rw [List.getElem?_take] at hu
  split at hu
  · rw [List.getElem?_drop] at hu
    rw [Nat.add_assoc]
    exact hcell _ u hu
  · cases hu
end Go.Proofs.YtpklclnehlgcpaaGreat
end
section
namespace Go.Proofs.YtpklclnehlgcpaaGreat
open Go.RowKit
set_option linter.unusedVariables false

/-- what reads below B in the one world reads so in the other -/
def Sub (B : Nat) (w w' : World) : Prop := ∀ (p : Addr) (v : Value), p.block < B → w.cell? p = some v → w'.cell? p = some v
theorem Sub.refl (B : Nat) (w : World) : Sub B w w := fun _ _ _ h => h
theorem Sub.trans {B : Nat} {a b c : World} (h : Sub B a b) (k : Sub B b c) : Sub B a c := fun p v hp hv => k p v hp (h p v hp hv)
theorem Sub.less {B B' : Nat} {a b : World} (h : Sub B a b) (hB : B' ≤ B) : Sub B' a b := fun p v hp hv => h p v (by omega) hv
theorem sub_below {B : Nat} {w w' : World} (h : Below B w w') : Sub B w w' := fun p v hp hv => (h.cell hp).trans hv
theorem Bytes.sub {w w' : World} {B n c : Nat} {A : Option Addr} {l : List UInt8} (h : Bytes w B A n c l) (hs : Sub B w w') : Bytes w' B A n c l :=
  ⟨h.1, h.2.1, h.2.2.1, fun hn => by
    obtain ⟨b, o, e, hb, hc⟩ := h.2.2.2 hn
    exact ⟨b, o, e, hb, fun j u hu => hs _ _ hb (hc j u hu)⟩⟩

/-- a world in which a block is empty -/
def hide (w : World) (g : Nat) : World := w.setRow g #[]
theorem hide_size (w : World) (g : Nat) : (hide w g).heap.size = w.heap.size := by simp [hide, World.setRow]
theorem hide_other (w : World) (g : Nat) (p : Addr) (h : p.block ≠ g) : (hide w g).cell? p = w.cell? p := World.cell?_of_block (setRow_other w g p.block #[] h)
theorem hide_none (w : World) (p : Addr) : (hide w p.block).cell? p = none := by
  unfold hide World.setRow World.cell?
  simp only [Array.getElem?_modify, if_true]
  cases hx : w.heap[p.block]? with
  | none => simp
  | some o => cases o <;> simp
theorem sub_hide (B : Nat) (w : World) (g : Nat) : Sub B (hide w g) w := by
  intro p v hp hv
  by_cases h : p.block = g
  · subst h; rw [hide_none] at hv; cases hv
  · rwa [hide_other w g p h] at hv
/-- what lies below a block does not hang on it -/
theorem sub_hide_lt {B g : Nat} (w : World) (h : B ≤ g) : Sub B w (hide w g) := fun p v hp hv => by rw [hide_other w g p (by omega)]; exact hv
theorem hide_sub_of {B g : Nat} {w w' : World} (h : ∀ k, k < B → k ≠ g → w'.heap[k]? = w.heap[k]?) : Sub B (hide w g) (hide w' g) := by
  intro p v hp hv
  by_cases hg : p.block = g
  · subst hg; rw [hide_none] at hv; cases hv
  · rw [hide_other w g p hg] at hv
    rw [hide_other w' g p hg, World.cell?_of_block (h p.block hp hg)]
    exact hv
/-- the row of a slice hidden -/
def hid (A : Option Addr) (w : World) : World := match A with
  | some a => hide w a.block
  | none => w
theorem sub_hid (B : Nat) (A : Option Addr) (w : World) : Sub B (hid A w) w := by
  cases A with
  | none => exact Sub.refl _ _
  | some a => exact sub_hide B w a.block
theorem hid_below {B : Nat} {w w' : World} (A : Option Addr) (h : Below B w w') : Sub B (hid A w) (hid A w') := by
  cases A with
  | none => exact sub_below h
  | some a => exact hide_sub_of fun k hk _ => h.block k hk
theorem hid_lt {B : Nat} (A : Option Addr) (w : World) (h : ∀ a, A = some a → B ≤ a.block) : Sub B w (hid A w) := by
  cases A with
  | none => exact Sub.refl _ _
  | some a => exact sub_hide_lt w (h a rfl)
theorem hid_grown {w w' : World} {A A' : Option Addr} (hg : w.grownBy w' ((Value.slice A 0 0).ownBlock)) (h : A' = A ∨ ∃ a, A' = some a ∧ a.block = w.heap.size) : Sub w.heap.size (hid A w) (hid A' w') := by
  rcases h with rfl | ⟨a, rfl, ha⟩
  · cases A' with
    | none => exact fun p v hp hv => (World.cell?_of_block (hg.block p.block hp (by simp [Value.ownBlock]))).trans hv
    | some a => exact hide_sub_of fun k hk hne => hg.block k hk (by simpa [Value.ownBlock] using hne)
  · intro p v hp hv
    show (hide w' a.block).cell? p = some v
    rw [hide_other w' a.block p (by omega)]
    cases A with
    | none => exact (World.cell?_of_block (hg.block p.block hp (by simp [Value.ownBlock]))).trans hv
    | some a0 =>
      by_cases h0 : p.block = a0.block
      · have : (hide w a0.block).cell? p = none := by rw [← h0]; exact hide_none w p
        change (hide w a0.block).cell? p = some v at hv
        rw [this] at hv
        cases hv
      · change (hide w a0.block).cell? p = some v at hv
        rw [hide_other w a0.block p h0] at hv
        exact (World.cell?_of_block (hg.block p.block hp (by simpa [Value.ownBlock] using h0))).trans hv

/-- how an element lies in memory -/
structure El (α : Type) where
  size : Nat
  pos : 0 < size
  rel : World → Nat → List Value → α → Prop
  len : ∀ {w B vs x}, rel w B vs x → vs.length = size
  one : ∀ {w B vs x}, rel w B vs x → ∀ v ∈ vs, v.oneCell' = true
  sub : ∀ {w w' B vs x}, Sub B w w' → rel w B vs x → rel w' B vs x
  more : ∀ {w B B' vs x}, B ≤ B' → rel w B vs x → rel w B' vs x

/-- side by side -/
def Rel2 {α : Type} (R : List Value → α → Prop) : List (List Value) → List α → Prop
  | [], [] => True
  | v :: vs, x :: xs => R v x ∧ Rel2 R vs xs
  | _, _ => False
section
variable {α : Type} {R R' : List Value → α → Prop}
theorem Rel2.length : ∀ {vs : List (List Value)} {xs : List α}, Rel2 R vs xs → vs.length = xs.length
  | [], [], _ => rfl
  | _ :: vs, _ :: xs, h => by simp [Rel2.length h.2]
  | [], _ :: _, h => h.elim
  | _ :: _, [], h => h.elim
theorem Rel2.imp (hi : ∀ v x, R v x → R' v x) : ∀ {vs : List (List Value)} {xs : List α}, Rel2 R vs xs → Rel2 R' vs xs
  | [], [], _ => trivial
  | _ :: vs, _ :: xs, h => ⟨hi _ _ h.1, Rel2.imp hi h.2⟩
  | [], _ :: _, h => h.elim
  | _ :: _, [], h => h.elim
theorem Rel2.append {vs2 : List (List Value)} {xs2 : List α} (h2 : Rel2 R vs2 xs2) : ∀ {vs : List (List Value)} {xs : List α}, Rel2 R vs xs → Rel2 R (vs ++ vs2) (xs ++ xs2)
  | [], [], _ => h2
  | _ :: vs, _ :: xs, h => ⟨h.1, Rel2.append h2 h.2⟩
  | [], _ :: _, h => h.elim
  | _ :: _, [], h => h.elim
theorem Rel2.take : ∀ (k : Nat) {vs : List (List Value)} {xs : List α}, Rel2 R vs xs → Rel2 R (vs.take k) (xs.take k)
  | 0, _, _, _ => by simp [Rel2]
  | _ + 1, [], [], _ => trivial
  | k + 1, _ :: vs, _ :: xs, h => ⟨h.1, Rel2.take k h.2⟩
  | _ + 1, [], _ :: _, h => h.elim
  | _ + 1, _ :: _, [], h => h.elim
theorem Rel2.drop : ∀ (k : Nat) {vs : List (List Value)} {xs : List α}, Rel2 R vs xs → Rel2 R (vs.drop k) (xs.drop k)
  | 0, _, _, h => by simpa using h
  | _ + 1, [], [], _ => trivial
  | k + 1, _ :: vs, _ :: xs, h => Rel2.drop k h.2
  | _ + 1, [], _ :: _, h => h.elim
  | _ + 1, _ :: _, [], h => h.elim
theorem Rel2.get : ∀ {vs : List (List Value)} {xs : List α} {j : Nat} {x : α}, Rel2 R vs xs → xs[j]? = some x → ∃ v, vs[j]? = some v ∧ R v x
  | v :: vs, y :: xs, 0, x, h, hx => by
    simp at hx; subst hx; exact ⟨v, rfl, h.1⟩
  | v :: vs, y :: xs, j + 1, x, h, hx => by
    obtain ⟨u, hu, hr⟩ := Rel2.get h.2 (by simpa using hx)
    exact ⟨u, by simpa using hu, hr⟩
  | [], [], j, x, h, hx => by simp at hx
  | [], _ :: _, _, _, h, _ => h.elim
  | _ :: _, [], _, _, h, _ => h.elim
theorem Rel2.set {v : List Value} {x : α} (hr : R v x) : ∀ {vs : List (List Value)} {xs : List α} (j : Nat), Rel2 R vs xs → Rel2 R (vs.set j v) (xs.set j x)
  | [], [], _, _ => by simp [Rel2]
  | _ :: vs, _ :: xs, 0, h => ⟨hr, h.2⟩
  | _ :: vs, _ :: xs, j + 1, h => ⟨h.1, Rel2.set hr j h.2⟩
  | [], _ :: _, _, h => h.elim
  | _ :: _, [], _, h => h.elim
theorem Rel2.flat {size : Nat} (hl : ∀ v x, R v x → v.length = size) : ∀ {vs : List (List Value)} {xs : List α}, Rel2 R vs xs → vs.flatten.length = xs.length * size
  | [], [], _ => by simp
  | v :: vs, _ :: xs, h => by
    rw [List.flatten_cons, List.length_append, hl _ _ h.1, Rel2.flat hl h.2, List.length_cons, Nat.add_mul]; omega
  | [], _ :: _, h => h.elim
  | _ :: _, [], h => h.elim
theorem Rel2.mem {v : List Value} : ∀ {vs : List (List Value)} {xs : List α}, Rel2 R vs xs → v ∈ vs → ∃ x, R v x
  | [], [], _, hm => by cases hm
  | u :: vs, x :: xs, h, hm => by
    rcases List.mem_cons.1 hm with rfl | hm
    · exact ⟨x, h.1⟩
    · exact Rel2.mem h.2 hm
  | [], _ :: _, h, _ => h.elim
  | _ :: _, [], h, _ => h.elim
end
/-- where an element's cells stand among all -/
theorem flat_at {size : Nat} : ∀ (vs : List (List Value)), (∀ v ∈ vs, v.length = size) → ∀ (j : Nat) (v : List Value) (i : Nat) (u : Value), vs[j]? = some v → v[i]? = some u → vs.flatten[j * size + i]? = some u
  | [], _, j, v, i, u, h, _ => by simp at h
  | v0 :: vs, hl, 0, v, i, u, h, hu => by
    simp at h; subst h
    have hi : i < v0.length := (List.getElem?_eq_some_iff.1 hu).1
    rw [List.flatten_cons, Nat.zero_mul, Nat.zero_add, List.getElem?_append_left hi]
    exact hu
  | v0 :: vs, hl, j + 1, v, i, u, h, hu => by
    have h0 := hl v0 (by simp)
    have := flat_at vs (fun x hx => hl x (by simp [hx])) j v i u (by simpa using h) hu
    rw [List.flatten_cons, List.getElem?_append_right (by rw [h0, Nat.add_mul]; omega), h0, show (j + 1) * size + i - size = j * size + i by rw [Nat.add_mul]; omega]
    exact this
theorem flat_take {size : Nat} : ∀ (vs : List (List Value)), (∀ v ∈ vs, v.length = size) → ∀ k, (vs.take k).flatten = vs.flatten.take (k * size)
  | [], _, k => by simp
  | v0 :: vs, hl, 0 => by simp
  | v0 :: vs, hl, k + 1 => by
    have h0 := hl v0 (by simp)
    rw [List.take_succ_cons, List.flatten_cons, List.flatten_cons, flat_take vs (fun x hx => hl x (by simp [hx])) k, List.take_append, h0, List.take_of_length_le (l := v0) (by rw [h0, Nat.add_mul]; omega), show (k + 1) * size - size = k * size by rw [Nat.add_mul]; omega]
theorem flat_drop {size : Nat} : ∀ (vs : List (List Value)), (∀ v ∈ vs, v.length = size) → ∀ k, (vs.drop k).flatten = vs.flatten.drop (k * size)
  | [], _, k => by simp
  | v0 :: vs, hl, 0 => by simp
  | v0 :: vs, hl, k + 1 => by
    have h0 := hl v0 (by simp)
    rw [List.drop_succ_cons, List.flatten_cons, flat_drop vs (fun x hx => hl x (by simp [hx])) k, List.drop_append, h0, List.drop_of_length_le (l := v0) (by rw [h0, Nat.add_mul]; omega), show (k + 1) * size - size = k * size by rw [Nat.add_mul]; omega, List.nil_append]

section
variable {α : Type} {E : El α} {w w' wr wr' : World} {B B' n c : Nat} {A : Option Addr} {l : List α}
/-- the slice (A, n, c) has its cells in w; what they read as is told by wr -/
def ElemsIn (E : El α) (wr w : World) (B : Nat) (A : Option Addr) (n c : Nat) (l : List α) : Prop :=
  ∃ vs, Rel2 (E.rel wr B) vs l ∧ l.length = n ∧ n ≤ c ∧ c ≤ maxLen ∧ (0 < n → ∃ b o, A = some ⟨b, o, none⟩ ∧ b < B ∧ ∀ j v, vs.flatten[j]? = some v → w.cell? ⟨b, o + j, none⟩ = some v)
/-- the slice (A, n, c) reads as l -/
def Elems (E : El α) (w : World) (B : Nat) (A : Option Addr) (n c : Nat) (l : List α) : Prop := ElemsIn E w w B A n c l
theorem ElemsIn.len (h : ElemsIn E wr w B A n c l) : l.length = n := by obtain ⟨_, _, h, _⟩ := h; exact h
theorem ElemsIn.cap (h : ElemsIn E wr w B A n c l) : n ≤ c ∧ c ≤ maxLen := by obtain ⟨_, _, _, h, h2, _⟩ := h; exact ⟨h, h2⟩
theorem ElemsIn.keep (h : ElemsIn E wr w B A n c l) (h1 : Sub B wr wr') (h2 : Sub B w w') : ElemsIn E wr' w' B A n c l := by
  obtain ⟨vs, hr, hl, hc, hm, hx⟩ := h
  refine ⟨vs, hr.imp fun _ _ => E.sub h1, hl, hc, hm, fun hn => ?_⟩
  obtain ⟨b, o, e, hb, hcell⟩ := hx hn
  exact ⟨b, o, e, hb, fun j v hv => h2 _ _ hb (hcell j v hv)⟩
theorem ElemsIn.more (h : ElemsIn E wr w B A n c l) (hB : B ≤ B') : ElemsIn E wr w B' A n c l := by
  obtain ⟨vs, hr, hl, hc, hm, hx⟩ := h
  refine ⟨vs, hr.imp fun _ _ => E.more hB, hl, hc, hm, fun hn => ?_⟩
  obtain ⟨b, o, e, hb, hcell⟩ := hx hn
  exact ⟨b, o, e, by omega, hcell⟩
theorem Elems.len (h : Elems E w B A n c l) : l.length = n := ElemsIn.len h
theorem Elems.cap (h : Elems E w B A n c l) : n ≤ c ∧ c ≤ maxLen := ElemsIn.cap h
theorem Elems.sub (h : Elems E w B A n c l) (hs : Sub B w w') : Elems E w' B A n c l := ElemsIn.keep h hs hs
theorem Elems.below (h : Elems E w B A n c l) (hb : Below B w w') : Elems E w' B A n c l := h.sub (sub_below hb)
theorem Elems.more (h : Elems E w B A n c l) (hB : B ≤ B') : Elems E w B' A n c l := ElemsIn.more h hB
theorem Elems.next (h : Elems E w w.heap.size A n c l) (hb : Below w.heap.size w w') : Elems E w' w'.heap.size A n c l := (h.below hb).more hb.size
theorem Elems.none_ (E : El α) (w : World) (B : Nat) : Elems E w B none 0 0 [] := ⟨[], trivial, rfl, Nat.le_refl _, by unfold maxLen; omega, fun h => absurd h (by omega)⟩
theorem ElemsIn.at_ {k : Nat} (h : ElemsIn E wr w B A n c l) (hk : k < n) : ∃ b o vs, A = some ⟨b, o, none⟩ ∧ b < B ∧ E.rel wr B vs (l[k]'(by rw [h.len]; exact hk)) ∧ ∀ i v, vs[i]? = some v → w.cell? ⟨b, o + k * E.size + i, none⟩ = some v := by
  obtain ⟨vss, hr, hl, hc, hm, hx⟩ := h
  obtain ⟨b, o, e, hb, hcell⟩ := hx (by omega)
  obtain ⟨vs, hvs, hrel⟩ := hr.get (List.getElem?_eq_getElem (by omega : k < l.length))
  refine ⟨b, o, vs, e, hb, hrel, fun i v hv => ?_⟩
  rw [Nat.add_assoc]
  exact hcell _ v (flat_at vss (fun x hx => by obtain ⟨y, hy⟩ := hr.mem hx; exact E.len hy) k vs i v hvs hv)
theorem Elems.at_ {k : Nat} (h : Elems E w B A n c l) (hk : k < n) : ∃ b o vs, A = some ⟨b, o, none⟩ ∧ b < B ∧ E.rel w B vs (l[k]'(by rw [h.len]; exact hk)) ∧ ∀ i v, vs[i]? = some v → w.cell? ⟨b, o + k * E.size + i, none⟩ = some v := ElemsIn.at_ h hk
theorem ElemsIn.cut (h : ElemsIn E wr w B A n c l) (lo hi m : Nat) (h1 : lo ≤ hi) (h2 : hi ≤ n) (h3 : hi ≤ m) (h4 : m ≤ c) :
    ElemsIn E wr w B (cutA A lo m E.size) (hi - lo) (m - lo) ((l.drop lo).take (hi - lo)) := by
  obtain ⟨vss, hr, hl, hc, hm, hx⟩ := h
  refine ⟨_, (hr.drop lo).take (hi - lo), by simp; omega, by omega, by omega, fun hn => ?_⟩
  obtain ⟨b, o, rfl, hb, hcell⟩ := hx (by omega)
  unfold cutA
  rw [if_neg (by omega)]
  refine ⟨b, o + lo * E.size, by simp [add_none], hb, fun j v hv => ?_⟩
  have hall : ∀ v ∈ vss, v.length = E.size := fun x hx => by obtain ⟨y, hy⟩ := hr.mem hx; exact E.len hy
  rw [flat_take _ (fun v hv => hall v (List.mem_of_mem_drop hv)), flat_drop _ hall, List.getElem?_take] at hv
  split at hv
  · rw [List.getElem?_drop] at hv
    rw [Nat.add_assoc]
    exact hcell _ v hv
  · cases hv
theorem Elems.cut (h : Elems E w B A n c l) (lo hi m : Nat) (h1 : lo ≤ hi) (h2 : hi ≤ n) (h3 : hi ≤ m) (h4 : m ≤ c) :
    Elems E w B (cutA A lo m E.size) (hi - lo) (m - lo) ((l.drop lo).take (hi - lo)) := ElemsIn.cut h lo hi m h1 h2 h3 h4

/-- a row of the call's own: what its elements read as does not hang on the row -/
def OwnE (E : El α) (T : TypeId) (w : World) (base : Nat) (A : Option Addr) (n c : Nat) (l : List α) : Prop :=
  ∃ vs, w.ownsRow base T E.size (.slice A n c) n vs.flatten ∧ Rel2 (E.rel (hid A w) w.heap.size) vs l
variable {T : TypeId} {base : Nat}
theorem OwnE.len (h : OwnE E T w base A n c l) : l.length = n := by
  obtain ⟨vs, h1, h2⟩ := h
  have e1 := h1.1
  rw [h2.flat (fun _ _ => E.len)] at e1
  exact Nat.eq_of_mul_eq_mul_right E.pos e1
theorem OwnE.none_ (E : El α) (T : TypeId) (w : World) (base : Nat) : OwnE E T w base none 0 0 [] := ⟨[], World.ownsRow_nil _ _ _ _, trivial⟩
theorem OwnE.next (h : OwnE E T w base A n c l) (hb : Below w.heap.size w w') : OwnE E T w' base A n c l := by
  obtain ⟨vs, h1, h2⟩ := h
  exact ⟨vs, own_next h1 hb, h2.imp fun _ _ hr => E.more hb.size (E.sub (hid_below A hb) hr)⟩
theorem OwnE.elemsIn (h : OwnE E T w base A n c l) : ElemsIn E (hid A w) w w.heap.size A n c l := by
  have hl := h.len
  obtain ⟨vs, h1, h2⟩ := h
  rcases h1.2 with ⟨e, h0⟩ | ⟨g, cap, cur, e, hg, hh, hnc, hm, hc, hx⟩
  · cases e
    exact ⟨vs, h2, hl, Nat.le_refl _, by unfold maxLen; omega, fun hp => absurd hp (by omega)⟩
  · cases e
    refine ⟨vs, h2, hl, hnc, hm, fun _ => ⟨g, 0, rfl, (Array.getElem?_eq_some_iff.1 hh).1, fun j u hu => ?_⟩⟩
    rw [← hx, List.getElem?_take] at hu
    split at hu
    · simp only [World.cell?, hh, Nat.zero_add]
      simpa using hu
    · cases hu
theorem OwnE.elems (h : OwnE E T w base A n c l) : Elems E w w.heap.size A n c l := h.elemsIn.keep (sub_hid _ A w) (Sub.refl _ _)
theorem OwnE.less {base' : Nat} (h : OwnE E T w base A n c l) (hb : base' ≤ base) : OwnE E T w base' A n c l := by
  obtain ⟨vs, h1, h2⟩ := h
  exact ⟨vs, ⟨h1.1, h1.2.imp id fun ⟨g, cap, cur, e1, hg, r⟩ => ⟨g, cap, cur, e1, Nat.le_trans hb hg, r⟩⟩, h2⟩
theorem OwnE.ge (h : OwnE E T w base A n c l) : ∀ a, A = some a → base ≤ a.block := by
  obtain ⟨vs, h1, h2⟩ := h
  rcases h1.2 with ⟨e, h0⟩ | ⟨g, cap, cur, e, hg, hh, hnc, hm, hc, hx⟩
  · cases e; intro a ha; cases ha
  · cases e; intro a ha; cases ha; exact hg
/-- a source that lies below the row -/
theorem OwnE.src {B2 n2 c2 : Nat} {A2 : Option Addr} {l2 : List α} (h : OwnE E T w base A n c l) (h2 : Elems E w B2 A2 n2 c2 l2) (hB : B2 ≤ base) (hw : base ≤ w.heap.size) : ElemsIn E (hid A w) w w.heap.size A2 n2 c2 l2 :=
  (ElemsIn.keep h2 (hid_lt A w fun a ha => Nat.le_trans hB (h.ge a ha)) (Sub.refl _ _)).more (Nat.le_trans hB hw)
/-- an append onto a row of the call's own -/
theorem OwnE.app {P : Program} (t ty : TypeId) (i : TypeInfo) (z : Value) (bytes : Nat) (ht : P.underlying t = some (.slice T)) (hi : P.info? T = some i) (hz : i.zero = some z) (hs : i.size = E.size) (hby : i.bytes = bytes) (hzs : z.cells.size = E.size)
    (h : OwnE E T w base A n c l) {n2 c2 : Nat} {A2 : Option Addr} {l2 : List α} (h2 : ElemsIn E (hid A w) w w.heap.size A2 n2 c2 l2) (h63 : n + n2 ≤ maxLen) (hbytes : (n + n2) * bytes ≤ 140737488355328) (hb : base ≤ w.heap.size) :
    ∃ A' c' w', (appSem #[t, t] ty #[.slice A n c, .slice A2 n2 c2]).run P w = .ok (.slice A' (n + n2) c') w' ∧ OwnE E T w' base A' (n + n2) c' (l ++ l2) ∧ Below base w w' ∧ w.grownBy w' ((Value.slice A 0 0).ownBlock) ∧ (A' = A ∨ ∃ a, A' = some a ∧ a.block = w.heap.size) := by
  have hgeA := h.ge
  obtain ⟨vs, h1, hr⟩ := h
  obtain ⟨vs2, hr2, hl2, hc2, hm2, hx2⟩ := h2
  have hcell : 0 < n2 → ∃ ad, A2 = some ad ∧ ∀ j v, vs2.flatten[j]? = some v → w.cell? (ad.add j) = some v := fun hp => by
    obtain ⟨b, o, e, hb, hcl⟩ := hx2 hp
    exact ⟨_, e, fun j v hv => by rw [add_none]; exact hcl j v hv⟩
  have hfl : vs2.flatten.length = n2 * E.size := by rw [hr2.flat (fun _ _ => E.len), hl2]
  have hone : ∀ v ∈ vs2.flatten, v.oneCell' = true := fun v hv => by
    obtain ⟨u, hu, hvu⟩ := List.mem_flatten.1 hv
    obtain ⟨x, hx⟩ := hr2.mem hu
    exact E.one hx v hvu
  have hown_A : ∀ k, (Value.slice A n c).ownBlock = some k → base ≤ k := own_block h1
  rcases Nat.eq_zero_or_pos n2 with h0 | h0
  · subst h0
    have e2 : vs2.flatten = [] := List.eq_nil_of_length_eq_zero (by simpa using hfl)
    have e3 : l2 = [] := List.eq_nil_of_length_eq_zero hl2
    subst e3
    refine ⟨A, c, w, ?_, ⟨vs, by simpa using h1, by simpa using hr⟩, Below.refl _ _, World.grownBy.refl w _, .inl rfl⟩
    have hl0 : ∀ a, (loadCells a 0).run P w = .ok #[] w := fun a => by simpa using run_loadCells_list (P := P) w a [] (by simp)
    unfold appSem
    rcases h1.2 with ⟨e, hn0⟩ | ⟨g, cap, cur, e, _, _, hnc, _⟩
    · cases e
      cases A2 <;> simp [Builtin.append_, run_underlying ht, sizeOf, typeInfo, hi, Builtin.lenOf, Builtin.firstCells, hl0]
    · cases e
      cases A2 <;> simp [Builtin.append_, run_underlying ht, sizeOf, typeInfo, hi, Builtin.lenOf, Builtin.firstCells, hnc, storeCells, hl0]
  · obtain ⟨ad, rfl, hnews⟩ := hcell h0
    obtain ⟨v', w', hrun, hown, hgr, _, hblk⟩ := run_append_own_at (P := P) w base t ty T i z E.size bytes ht hi hz hs hby hzs E.pos (.slice A n c) n vs.flatten h1 ad n2 c2 vs2.flatten hfl hnews hone h63 hbytes hb
    obtain ⟨A', c', rfl⟩ := own_slice hown
    have hgr' : w.grownBy w' ((Value.slice A 0 0).ownBlock) := by cases A <;> exact hgr
    have hA' : A' = A ∨ ∃ a, A' = some a ∧ a.block = w.heap.size := by
      rcases hblk with e | e
      · left
        rcases hown.2 with ⟨e1, h01⟩ | ⟨g, cap, cur, e1, _, _, _⟩
        · omega
        · cases e1
          cases A with
          | none => simp [Value.ownBlock] at e
          | some a =>
            rcases h1.2 with ⟨e2, _⟩ | ⟨g2, cap2, cur2, e2, _⟩
            · cases e2
            · cases e2
              simp [Value.ownBlock] at e
              rw [e]
      · right
        cases A' with
        | none => simp [Value.ownBlock] at e
        | some a => exact ⟨a, rfl, by simpa [Value.ownBlock] using e⟩
    refine ⟨A', c', w', hrun, ⟨vs ++ vs2, by simpa using hown, ?_⟩, (Below.refl _ w).grown hgr' hb (fun k hk => by cases A with | none => simp [Value.ownBlock] at hk | some a => exact hown_A k hk), hgr', hA'⟩
    have hsub := hid_grown hgr' hA'
    exact Rel2.append (hr2.imp fun _ _ hq => E.more hgr.size (E.sub hsub hq)) (hr.imp fun _ _ hq => E.more hgr.size (E.sub hsub hq))
end
end Go.Proofs.YtpklclnehlgcpaaGreat
end
