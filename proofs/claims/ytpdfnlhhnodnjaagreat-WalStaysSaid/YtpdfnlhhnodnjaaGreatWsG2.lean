/-
  Parts of the proof of WalStays.
-/
import Derived.Test.YtpdfnlhhnodnjaaGreatWsG0
import Derived.Orders
import Derived.Test.YtpdfnlhhnodnjaaGreatWsG1
import Derived.Laws.Externs
section
namespace Go.Proofs.YtpdfnlhhnodnjaaGreat
open Go.RowKit

/-- how worlds may follow one another -/
structure Way where
  rel : World → World → Prop
  refl : ∀ w, rel w w
  trans : ∀ a b c, rel a b → rel b c → rel a c
  drew : ∀ w, rel w w.drew
/-- a word on a value that stays true -/
structure SP (R : Way) where
  pred : Value → World → Prop
  st : ∀ (v : Value) (w w' : World), R.rel w w' → pred v w → pred v w'
/-- nothing that was there turns -/
def ext : Way := ⟨fun w w' => Below w.heap.size w w', bsame, fun _ _ _ h k => bstep h k, fun _ => ⟨rfl, rfl, rfl, Nat.le_refl _, fun _ _ => rfl⟩⟩

namespace Reg

/-- who writes a slot -/
def writer (ops : Array Oper) (t : Tmp) : Option Nat := ops.toList.findIdx? fun o => o.dst == some t
/-- does the one wait for the other? -/
def waits (ops : Array Oper) (j i : Nat) : Bool := match ops[j]? with
  | some o => o.after.any fun e => Region.binds .any e && e.on == i
  | none => false
/-- whose value of a slot does operation j see? -/
def seer (ops : Array Oper) (j : Nat) (t : Tmp) : Option Nat := match writer ops t with
  | some i => if waits ops j i then some i else none
  | none => none
/-- the region's form: all that is looked at has been written, or is written later -/
def checkB (ops : Array Oper) (n : Nat) : Bool :=
  (List.range ops.size).all fun j => match ops[j]? with
    | none => false
    | some o => (o.after.all fun e => !Region.binds .any e || decide (e.on < j)) &&
        ((o.looksAt ops).all fun t => match writer ops t with | none => true | some i => waits ops j i || i == j || waits ops i j) &&
        (match o.dst with | none => true | some d => writer ops d == some j && decide (d < n))

def predAt {R : Way} (T : List (SP R)) (i : Nat) (v : Value) (w : World) : Prop := match T[i]? with
  | some p => p.pred v w
  | none => True
/-- what an operation looks at: the slots, and who wrote them -/
def look1 (ops : Array Oper) (j : Nat) (o : Oper) : List (Tmp × Option Nat) := (o.looksAt ops).map fun t => (t, seer ops j t)
def lookAll (ops : Array Oper) : Nat → List Oper → List (List (Tmp × Option Nat))
  | _, [] => []
  | j, o :: l => look1 ops j o :: lookAll ops (j + 1) l
/-- what an operation knows of the slots that it looks at -/
def sights {R : Way} (T : List (SP R)) (a0 : Act) (a : Act) (w : World) : List (Tmp × Option Nat) → Prop
  | [] => True
  | (t, some i) :: l => predAt T i (a.eval (.tmp t)) w ∧ sights T a0 a w l
  | (t, none) :: l => a.eval (.tmp t) = a0.eval (.tmp t) ∧ sights T a0 a w l
/-- what an operation leaves -/
def Done {R : Way} (T : List (SP R)) (j : Nat) (o : Oper) (a : Act) (w : World) (a' : Act) (w' : World) : Prop := ∃ v, a' = a.put o.dst v ∧ (o.dst = none → v = undef) ∧ predAt T j v w' ∧ R.rel w w'
/-- what lies in an operation's slot -/
def got (o : Oper) (a : Act) : Value := match o.dst with | some d => a.eval (.tmp d) | none => undef
/-- what is to be shown of an operation -/
def Obl {R : Way} (P : Program) (ops : Array Oper) (Q : Exit → Act → World → Prop) (T : List (SP R)) (a0 : Act) (W : World) (j : Nat) (o : Oper) (s : List (Tmp × Option Nat)) : Prop :=
  ∀ (a : Act) (w : World), R.rel W w → sights T a0 a w s →
    (Region.wanted o (yielded ops a.tmps) = true → o.wp P a w (Done T j o a w) Q) ∧ (Region.wanted o (yielded ops a.tmps) = false → predAt T j undef w)
def Obls {R : Way} (P : Program) (ops : Array Oper) (Q : Exit → Act → World → Prop) (T : List (SP R)) (a0 : Act) (W : World) : Nat → List Oper → List (List (Tmp × Option Nat)) → Prop
  | _, [], _ => True
  | j, o :: l, [] => Obl P ops Q T a0 W j o [] ∧ Obls P ops Q T a0 W (j + 1) l []
  | j, o :: l, s :: L => Obl P ops Q T a0 W j o s ∧ Obls P ops Q T a0 W (j + 1) l L
/-- what stands behind it -/
def Fin {R : Way} (K : Act → World → Prop) (w : World) : List (Option Tmp) → List (SP R) → Act → Prop
  | [], _, a => K a w
  | d :: l, [], a => ∀ v, Fin (R := R) K w l [] (a.put d v)
  | d :: l, p :: T, a => ∀ v, p.pred v w → Fin K w l T (a.put d v)

section
variable {R : Way} {P : Program} {ops : Array Oper} {Q : Exit → Act → World → Prop} {T : List (SP R)} {a0 a : Act} {W w : World}

theorem writer_some {t : Tmp} {i : Nat} (h : writer ops t = some i) : ∃ o, ops[i]? = some o ∧ o.dst = some t := by
  unfold writer at h
  rw [List.findIdx?_eq_some_iff_getElem] at h
  obtain ⟨hl, hp, _⟩ := h
  exact ⟨_, by rw [Array.getElem?_eq_getElem (by simpa using hl)], by simpa using hp⟩
theorem predAt_st {i : Nat} {v : Value} {w' : World} (hb : R.rel w w') (h : predAt T i v w) : predAt T i v w' := by
  unfold predAt at *
  split
  · rename_i p hp
    rw [hp] at h
    exact p.st _ _ _ hb h
  · trivial
def sight {R : Way} (ops : Array Oper) (T : List (SP R)) (a0 : Act) (j : Nat) (a : Act) (w : World) (t : Tmp) : Prop := match seer ops j t with
  | some i => predAt T i (a.eval (.tmp t)) w
  | none => a.eval (.tmp t) = a0.eval (.tmp t)
theorem sights_mk (j : Nat) : ∀ l : List Tmp, (∀ t ∈ l, sight ops T a0 j a w t) → sights T a0 a w (l.map fun t => (t, seer ops j t))
  | [], _ => trivial
  | t :: l, h => by
    have h1 := h t (by simp)
    have h2 := sights_mk j l fun u hu => h u (by simp [hu])
    unfold sight at h1
    rw [List.map_cons]
    cases hs : seer ops j t with
    | none =>
      rw [hs] at h1
      exact ⟨h1, h2⟩
    | some i =>
      rw [hs] at h1
      exact ⟨h1, h2⟩
theorem obls_at : ∀ (l : List Oper) (k i : Nat) (o : Oper), Obls P ops Q T a0 W k l (lookAll ops k l) → l[i]? = some o → Obl P ops Q T a0 W (k + i) o (look1 ops (k + i) o)
  | [], _, _, _, _, h => by simp at h
  | _ :: _, _, 0, _, hO, h => by
    simp at h
    subst h
    exact hO.1
  | _ :: l, k, i + 1, o, hO, h => by
    have := obls_at l (k + 1) i o hO.2 (by simpa using h)
    rwa [show k + 1 + i = k + (i + 1) by omega] at this

/-- what holds when some have come up -/
structure Inv {R : Way} (ops : Array Oper) (T : List (SP R)) (a0 : Act) (W : World) (listed : Array Bool) (a : Act) (w : World) : Prop where
  ext : R.rel W w
  size : a.tmps.size = a0.tmps.size
  defers : a.defers = a0.defers
  lsize : listed.size = ops.size
  other : ∀ t, (∀ i, writer ops t = some i → listed.getD i true = false) → a.tmps[t]? = a0.tmps[t]?
  vals : ∀ i o, ops[i]? = some o → listed.getD i false = true → predAt T i (got o a) w
  closed : ∀ i o, ops[i]? = some o → listed.getD i false = true → ∀ e ∈ o.after, Region.binds .any e = true → listed.getD e.on false = true

theorem count_set : ∀ (l : List Bool) (j : Nat), l[j]? = some false → (l.set j true).count false + 1 = l.count false
  | [], _, h => by simp at h
  | b :: l, 0, h => by
    simp at h
    subst h
    simp
  | b :: l, j + 1, h => by
    have := count_set l j (by simpa using h)
    simp only [List.set_cons_succ, List.count_cons]
    omega

theorem eval_put_same {d : Tmp} {v : Value} (h : d < a.tmps.size) : (a.put (some d) v).eval (.tmp d) = v := by
  simp [Act.put, Act.eval, h]
theorem eval_of {t : Tmp} {b : Act} (h : a.tmps[t]? = b.tmps[t]?) : a.eval (.tmp t) = b.eval (.tmp t) := by
  simp only [Act.eval, Array.getD_eq_getD_getElem?, h]
theorem getD_ft {l : Array Bool} {i : Nat} (h : l.getD i true = false) : l.getD i false = false := by
  rw [Array.getD_eq_getD_getElem?] at h ⊢
  cases hx : l[i]? with
  | none => rfl
  | some b => rw [hx] at h; exact h
theorem getD_set_self {l : Array Bool} {i : Nat} (h : i < l.size) (d : Bool) : (l.setIfInBounds i true).getD i d = true := by
  simp [h]
theorem put_size (a : Act) (d : Option Tmp) (v : Value) : (a.put d v).tmps.size = a.tmps.size := by cases d <;> simp [Act.put]
theorem put_defers' (a : Act) (d : Option Tmp) (v : Value) : (a.put d v).defers = a.defers := by cases d <;> rfl
theorem put_other (a : Act) (d : Option Tmp) (v : Value) (t : Tmp) (h : d ≠ some t) : (a.put d v).tmps[t]? = a.tmps[t]? := by
  cases d with
  | none => rfl
  | some d => simp [Act.put, Array.getElem?_setIfInBounds_ne (fun e => h (by rw [e]) : d ≠ t)]

structure Form (ops : Array Oper) (n : Nat) : Prop where
  edge : ∀ j o, ops[j]? = some o → ∀ e ∈ o.after, Region.binds .any e = true → e.on < j
  look : ∀ j o, ops[j]? = some o → ∀ t ∈ o.looksAt ops, ∀ i, writer ops t = some i → waits ops j i = true ∨ i = j ∨ waits ops i j = true
  dst : ∀ j o d, ops[j]? = some o → o.dst = some d → writer ops d = some j ∧ d < n
theorem form_of {n : Nat} (h : checkB ops n = true) : Form ops n := by
  unfold checkB at h
  rw [List.all_eq_true] at h
  have hj : ∀ (j : Nat) (o : Oper), ops[j]? = some o → ((o.after.all fun e => !Region.binds .any e || decide (e.on < j)) &&
        ((o.looksAt ops).all fun t => match writer ops t with | none => true | some i => waits ops j i || i == j || waits ops i j) &&
        (match o.dst with | none => true | some d => writer ops d == some j && decide (d < n))) = true := fun j o ho => by
    have := h j (List.mem_range.2 (Array.getElem?_eq_some_iff.1 ho).1)
    rw [ho] at this
    exact this
  refine ⟨fun j o ho e he hb => ?_, fun j o ho t ht i hi => ?_, fun j o d ho hd => ?_⟩
  · have := hj j o ho
    simp only [Bool.and_eq_true, Array.all_eq_true_iff_forall_mem] at this
    have := this.1.1 e he
    simpa [hb] using this
  · have := hj j o ho
    simp only [Bool.and_eq_true, List.all_eq_true] at this
    have := this.1.2 t ht
    rw [hi] at this
    simp only [Bool.or_eq_true, beq_iff_eq] at this
    rcases this with (h1 | h1) | h1
    · exact .inl h1
    · exact .inr (.inl h1)
    · exact .inr (.inr h1)
  · have := hj j o ho
    simp only [Bool.and_eq_true] at this
    have := this.2
    rw [hd] at this
    simpa using this

theorem waits_edge {j i : Nat} (h : waits ops j i = true) : ∃ o, ops[j]? = some o ∧ ∃ e ∈ o.after, Region.binds .any e = true ∧ e.on = i := by
  unfold waits at h
  split at h
  · rename_i o ho
    obtain ⟨e, he, hb⟩ := Array.any_eq_true'.1 h
    simp only [Bool.and_eq_true, beq_iff_eq] at hb
    exact ⟨o, ho, e, he, hb⟩
  · cases h

theorem Inv.sight {n : Nat} {listed : Array Bool} {j : Nat} {o : Oper} (hf : Form ops n) (h : Inv ops T a0 W listed a w) (ho : ops[j]? = some o) (hun : listed.getD j true = false)
    (hall : ∀ e ∈ o.after, Region.binds .any e = true → listed.getD e.on false = true) {t : Tmp} (ht : t ∈ o.looksAt ops) : sight ops T a0 j a w t := by
  unfold Reg.sight seer
  cases hw : writer ops t with
  | none => exact eval_of (h.other t fun i hi => by rw [hw] at hi; cases hi)
  | some i =>
    dsimp only
    obtain ⟨oi, hoi, hd⟩ := writer_some hw
    cases hwt : waits ops j i with
    | true =>
      rw [if_pos rfl]
      obtain ⟨o', ho', e, he, hb, rfl⟩ := waits_edge hwt
      rw [ho] at ho'
      cases ho'
      have := h.vals _ oi hoi (hall e he hb)
      unfold got at this
      rw [hd] at this
      exact this
    | false =>
      rw [if_neg (by simp)]
      refine eval_of (h.other t fun i' hi' => ?_)
      rw [hw] at hi'
      cases hi'
      rcases hf.look j o ho t ht i hw with h1 | h1 | h1
      · rw [hwt] at h1; cases h1
      · subst h1; exact hun
      · obtain ⟨o', ho', e, he, hb, rfl⟩ := waits_edge h1
        rw [hoi] at ho'
        cases ho'
        cases hli : listed.getD i true with
        | false => rfl
        | true =>
          have hli' : listed.getD i false = true := by
            have hlt : i < listed.size := by rw [h.lsize]; exact (Array.getElem?_eq_some_iff.1 hoi).1
            rw [Array.getD_eq_getD_getElem?, Array.getElem?_eq_getElem hlt] at hli ⊢
            exact hli
          have := h.closed i oi hoi hli' e he hb
          rw [getD_ft hun] at this
          cases this

theorem Inv.step {listed : Array Bool} {j : Nat} {o : Oper} {w' : World} {v : Value} (hf : Form ops a0.tmps.size) (h : Inv ops T a0 W listed a w) (ho : ops[j]? = some o) (hun : listed.getD j true = false)
    (hall : ∀ e ∈ o.after, Region.binds .any e = true → listed.getD e.on false = true) (hp : predAt T j v w') (hz : o.dst = none → v = undef) (hb : R.rel w w') : Inv ops T a0 W (listed.setIfInBounds j true) (a.put o.dst v) w' := by
  have hjl : j < listed.size := by rw [h.lsize]; exact (Array.getElem?_eq_some_iff.1 ho).1
  refine ⟨R.trans _ _ _ h.ext hb, by rw [put_size]; exact h.size, by rw [put_defers']; exact h.defers, by simpa using h.lsize, fun t ht => ?_, fun i oi hoi hl => ?_, fun i oi hoi hl e he hbd => ?_⟩
  · have hne : o.dst ≠ some t := fun hd => by
      have := ht j (hf.dst j o t ho hd).1
      rw [getD_set_self hjl] at this
      cases this
    rw [put_other _ _ _ _ hne]
    refine h.other t fun i hi => ?_
    have h1 := ht i hi
    by_cases hij : j = i
    · subst hij; exact hun
    · rwa [getD_set_ne true hij] at h1
  · by_cases hij : j = i
    · subst hij
      rw [ho] at hoi
      cases hoi
      unfold got
      cases hd : o.dst with
      | none =>
        dsimp only
        rw [← hz hd]
        exact hp
      | some d =>
        dsimp only
        rw [eval_put_same (by rw [h.size]; exact (hf.dst j o d ho hd).2)]
        exact hp
    · rw [getD_set_ne false hij] at hl
      have h3 := predAt_st hb (h.vals i oi hoi hl)
      unfold got at h3 ⊢
      cases hd : oi.dst with
      | none =>
        rw [hd] at h3
        exact h3
      | some d =>
        rw [hd] at h3
        have hne : o.dst ≠ some d := fun he => by
          have h1 := (hf.dst j o d ho he).1
          have h2 := (hf.dst i oi d hoi hd).1
          rw [h1] at h2
          exact hij (Option.some.inj h2)
        dsimp only
        rw [eval_of (put_other a _ v d hne)]
        exact h3
  · by_cases hij : j = i
    · subst hij
      rw [ho] at hoi
      cases hoi
      exact getD_set_true (hall e he hbd)
    · rw [getD_set_ne false hij] at hl
      exact getD_set_true (h.closed i oi hoi hl e he hbd)

theorem all_listed {n : Nat} {listed : Array Bool} (hf : Form ops n) (hl : listed.size = ops.size) (hr : Region.ready .any ops listed = []) : ∀ i, i < ops.size → listed.getD i false = true := by
  intro i
  induction i using Nat.strongRecOn with
  | _ i ih =>
    intro hi
    cases hx : listed.getD i false with
    | true => rfl
    | false =>
      exfalso
      have hx' : listed.getD i true = false := by
        rw [Array.getD_eq_getD_getElem?, Array.getElem?_eq_getElem (by omega : i < listed.size)] at hx ⊢
        exact hx
      have hm : i ∈ Region.ready .any ops listed := mem_ready.2 ⟨hx', ops[i], Array.getElem?_eq_getElem hi, fun e he hb => by
        have h1 := hf.edge i _ (Array.getElem?_eq_getElem hi) e he hb
        exact ih _ h1 (by omega)⟩
      rw [hr] at hm
      cases hm

theorem fin_of (K : Act → World → Prop) (b : Act) : ∀ (l : List Oper) (T : List (SP R)) (a : Act), Fin K w (l.map (·.dst)) T a → (∀ (i : Nat) (o : Oper), l[i]? = some o → predAt T i (got o b) w) →
    K (l.foldl (fun a o => a.put o.dst (got o b)) a) w
  | [], _, _, h, _ => h
  | o :: l, [], a, h, h1 => fin_of K b l [] _ (h _) (fun i o ho => trivial)
  | o :: l, p :: T, a, h, h1 => fin_of K b l T _ (h _ (h1 0 o rfl)) (fun i o ho => h1 (i + 1) o (by simpa using ho))

theorem fin_mono {K K' : Act → World → Prop} (h : ∀ a w, K a w → K' a w) : ∀ (l : List (Option Tmp)) (T : List (SP R)) (a : Act), Fin K w l T a → Fin K' w l T a
  | [], _, _, hf => h _ _ hf
  | _ :: l, [], _, hf => fun v => fin_mono h l [] _ (hf v)
  | _ :: l, _ :: T, _, hf => fun v hv => fin_mono h l T _ (hf v hv)

theorem foldl_put (b : Act) : ∀ (l : List Oper) (a : Act), a.tmps.size = b.tmps.size → a.defers = b.defers →
    (∀ t, (∀ o ∈ l, o.dst ≠ some t) → a.tmps[t]? = b.tmps[t]?) → l.foldl (fun a o => a.put o.dst (got o b)) a = b
  | [], a, h1, h2, h3 => by
    obtain ⟨ta, da⟩ := a
    obtain ⟨tb, db⟩ := b
    simp only [List.foldl_nil]
    have : ta = tb := Array.ext_getElem? fun t => h3 t (by simp)
    subst this
    dsimp only at h2
    subst h2
    rfl
  | o :: l, a, h1, h2, h3 => by
    rw [List.foldl_cons]
    refine foldl_put b l _ (by rw [put_size]; exact h1) (by rw [put_defers']; exact h2) (fun t ht => ?_)
    by_cases hd : o.dst = some t
    · have hg : got o b = b.eval (.tmp t) := by unfold got; rw [hd]
      rw [hg, hd]
      by_cases hlt : t < a.tmps.size
      · have hlt2 : t < b.tmps.size := by rw [← h1]; exact hlt
        have : (a.put (some t) (b.eval (.tmp t))).tmps[t]? = some (b.eval (.tmp t)) := by simp [Act.put, hlt]
        rw [this, Array.getElem?_eq_getElem hlt2]
        simp [Act.eval, hlt2]
      · have h4 : (a.put (some t) (b.eval (.tmp t))).tmps[t]? = none := Array.getElem?_eq_none (by rw [put_size]; exact Nat.le_of_not_lt hlt)
        rw [h4, Array.getElem?_eq_none (by rw [← h1]; exact Nat.le_of_not_lt hlt)]
    · rw [put_other _ _ _ _ hd]
      exact h3 t fun o' ho' => by
        rcases List.mem_cons.1 ho' with rfl | h
        · exact hd
        · exact ht o' h

theorem wpAny_vals (hf : Form ops a0.tmps.size) (hobl : Obls P ops Q T a0 W 0 ops.toList (lookAll ops 0 ops.toList)) (hfin : ∀ w', R.rel W w' → Fin (Q .normal) w' (ops.toList.map (·.dst)) T a0) :
    ∀ (fuel : Nat) (listed : Array Bool) (a : Act) (w : World), listed.toList.count false = fuel → Inv ops T a0 W listed a w → wpAny P .any ops Q fuel listed a w := by
  have hend : ∀ (listed : Array Bool) (a : Act) (w : World), Inv ops T a0 W listed a w → Region.ready .any ops listed = [] → Q .normal a w := by
    intro listed a w hI hr
    have hall := all_listed hf hI.lsize hr
    have h1 := fin_of (Q .normal) a ops.toList T a0 (hfin w hI.ext) (fun i o ho => by
      have ho' : ops[i]? = some o := by simpa using ho
      exact hI.vals i o ho' (hall i (Array.getElem?_eq_some_iff.1 ho').1))
    rwa [foldl_put a ops.toList a0 hI.size.symm hI.defers.symm (fun t ht => (hI.other t fun i hi => by
      obtain ⟨o, ho, hd⟩ := writer_some hi
      exact absurd hd (ht o (by rw [Array.mem_toList_iff]; exact Array.mem_of_getElem? ho))).symm)] at h1
  intro fuel
  induction fuel with
  | zero =>
    intro listed a w hc hI
    have hr : Region.ready .any ops listed = [] := by
      rw [List.eq_nil_iff_forall_not_mem]
      intro j hj
      have h1 := (mem_ready.1 hj).1
      rw [Array.getD_eq_getD_getElem?] at h1
      cases hx : listed[j]? with
      | none => rw [hx] at h1; cases h1
      | some b =>
        rw [hx] at h1
        have h2 : b = false := h1
        subst h2
        have h3 : false ∈ listed.toList := by rw [Array.mem_toList_iff]; exact Array.mem_of_getElem? hx
        have := List.count_pos_iff.2 h3
        omega
    exact ⟨hr, hend _ _ _ hI hr⟩
  | succ fuel ih =>
    intro listed a w hc hI
    refine ⟨hend _ _ _ hI, fun j hj => ?_⟩
    obtain ⟨hun, o, ho, hall⟩ := mem_ready.1 hj
    have hO := obls_at ops.toList 0 j o hobl (by simpa using ho)
    rw [Nat.zero_add] at hO
    obtain ⟨hy, hn⟩ := hO a w hI.ext (sights_mk j _ fun t ht => hI.sight hf ho hun hall ht)
    have hcnt : (listed.setIfInBounds j true).toList.count false = fuel := by
      have hjl : j < listed.size := by rw [hI.lsize]; exact (Array.getElem?_eq_some_iff.1 ho).1
      have hx : listed.toList[j]? = some false := by
        rw [Array.getD_eq_getD_getElem?, Array.getElem?_eq_getElem hjl] at hun
        have h2 : listed[j] = false := hun
        simp [hjl, h2]
      have := count_set listed.toList j hx
      rw [Array.toList_setIfInBounds]
      omega
    unfold wpOp
    rw [ho]
    dsimp only
    split
    · rename_i hw
      exact .inl (Oper.wp_mono (fun a' w' ⟨v, e, hz, hp, hb⟩ => by
        subst e
        exact ih _ _ _ hcnt (hI.step hf ho hun hall hp hz hb)) (hy hw))
    · rename_i hw
      exact ih _ _ _ hcnt (hI.step hf ho hun hall (hn (by simpa using hw)) (fun _ => rfl) (R.refl w))

/-- THE LAW -/
theorem wp_region_vals {id : Nat} (T : List (SP R)) (n : Nat) (L : List (List (Tmp × Option Nat))) (hn : a0.tmps.size = n) (hm : P.follows .mixedOrders = true) (hc : checkB ops n = true) (hL : lookAll ops 0 ops.toList = L) (hobl : Obls P ops Q T a0 W 0 ops.toList L)
    (D : List (Option Tmp)) (hD : ops.toList.map (·.dst) = D) (hfin : ∀ w', R.rel W w' → Fin (Q .normal) w' D T a0) : (Code.region id ops true).wp P Q a0 W := by
  subst hn
  subst hL
  subst hD
  refine wp_region_any hm (wpAny_vals (form_of hc) hobl hfin _ _ _ _ (by simp) ⟨R.drew W, rfl, rfl, by simp, fun _ _ => rfl, fun i o ho hl => ?_, fun i o ho hl e he hb => ?_⟩)
  · have hlt := (Array.getElem?_eq_some_iff.1 ho).1
    simp [hlt] at hl
  · have hlt := (Array.getElem?_eq_some_iff.1 ho).1
    simp [hlt] at hl

/-- all others come up ahead of the last one -/
def tailB (ops : Array Oper) : Bool := (List.range (ops.size - 1)).all fun i => (List.range ops.size).any fun j => decide (i < j) && waits ops j i
theorem tail_listed {listed : Array Bool} {k : Nat} {o : Oper} (ht : tailB ops = true) (hk : ops.size = k + 1) (ho : ops[k]? = some o) (hI : Inv ops T a0 W listed a w)
    (hall : ∀ e ∈ o.after, Region.binds .any e = true → listed.getD e.on false = true) : ∀ i, i < k → listed.getD i false = true := by
  have hw : ∀ i, i < k → ∃ j, i < j ∧ j ≤ k ∧ waits ops j i = true := by
    intro i hi
    unfold tailB at ht
    rw [List.all_eq_true] at ht
    have := ht i (by rw [List.mem_range, hk]; omega)
    rw [List.any_eq_true] at this
    obtain ⟨j, hj, h2⟩ := this
    rw [List.mem_range, hk] at hj
    simp only [Bool.and_eq_true, decide_eq_true_eq] at h2
    exact ⟨j, h2.1, by omega, h2.2⟩
  have hmain : ∀ m i, i < k → k - i ≤ m → listed.getD i false = true := by
    intro m
    induction m with
    | zero => intro i hi hm; omega
    | succ m ih =>
      intro i hi hm
      obtain ⟨j, hij, hjk, hwt⟩ := hw i hi
      obtain ⟨oj, hoj, e, he, hb, rfl⟩ := waits_edge hwt
      by_cases hjk' : j = k
      · subst hjk'
        rw [ho] at hoj
        cases hoj
        exact hall e he hb
      · exact hI.closed j oj hoj (ih j (by omega) (by omega)) e he hb
  intro i hi
  exact hmain k i hi (by omega)

theorem wpAny_tail {k : Nat} {last : Oper} (hf : Form ops a0.tmps.size) (ht : tailB ops = true) (hk : ops.size = k + 1) (hlast : ops[k]? = some last) (hlg : last.guard = none) (hobl : Obls P ops Q T a0 W 0 (ops.toList.take k) (lookAll ops 0 (ops.toList.take k)))
    (hfin : ∀ w', R.rel W w' → Fin (fun a w => last.wp P a w (Q .normal) Q) w' ((ops.toList.take k).map (·.dst)) T a0) :
    ∀ (fuel : Nat) (listed : Array Bool) (a : Act) (w : World), listed.toList.count false = fuel + 1 → listed.getD k true = false → Inv ops T a0 W listed a w → wpAny P .any ops Q (fuel + 1) listed a w := by
  have hlk : ∀ (fuel : Nat) (listed : Array Bool) (a : Act) (w : World), listed.getD k true = false → Inv ops T a0 W listed a w → (∀ e ∈ last.after, Region.binds .any e = true → listed.getD e.on false = true) →
      wpOp P ops Q k (wpAny P .any ops Q fuel (listed.setIfInBounds k true)) a w := by
    intro fuel listed a w hkl hI hall
    have hli := tail_listed ht hk hlast hI hall
    have h1 := fin_of (fun a w => last.wp P a w (Q .normal) Q) a (ops.toList.take k) T a0 (hfin w hI.ext) (fun i o ho => by
      rw [List.getElem?_take] at ho
      split at ho
      · rename_i hik
        exact hI.vals i o (by simpa using ho) (hli i hik)
      · cases ho)
    rw [foldl_put a (ops.toList.take k) a0 hI.size.symm hI.defers.symm (fun t htt => (hI.other t fun i hi => by
      obtain ⟨o, ho, hd⟩ := writer_some hi
      by_cases hik : i < k
      · refine absurd hd (htt o ?_)
        rw [List.mem_iff_getElem?]
        exact ⟨i, by rw [List.getElem?_take, if_pos hik]; simpa using ho⟩
      · have h2 := (Array.getElem?_eq_some_iff.1 ho).1
        have h3 : i = k := by omega
        rw [h3]
        exact hkl).symm)] at h1
    unfold wpOp
    rw [hlast]
    dsimp only
    have hw : Region.wanted last (yielded ops a.tmps) = true := by simp [Region.wanted, hlg]
    rw [if_pos hw]
    refine .inl (Oper.wp_mono (fun a' w' hq => wpAny_done ?_ hq fuel) h1)
    rw [List.eq_nil_iff_forall_not_mem]
    intro j hj
    obtain ⟨hun, o, ho, -⟩ := mem_ready.1 hj
    have hjs := (Array.getElem?_eq_some_iff.1 ho).1
    by_cases hjk : k = j
    · subst hjk
      rw [getD_set_self (by rw [hI.lsize]; omega)] at hun
      cases hun
    · rw [getD_set_ne true hjk] at hun
      have := hli j (by omega)
      rw [getD_ft hun] at this
      cases this
  have hst : ∀ (fuel : Nat) (listed : Array Bool) (a : Act) (w : World) (j : Nat) (o : Oper), listed.toList.count false = fuel + 1 + 1 → listed.getD k true = false → Inv ops T a0 W listed a w → ops[j]? = some o → listed.getD j true = false → j ≠ k →
      (∀ e ∈ o.after, Region.binds .any e = true → listed.getD e.on false = true) → (∀ (listed : Array Bool) (a : Act) (w : World), listed.toList.count false = fuel + 1 → listed.getD k true = false → Inv ops T a0 W listed a w → wpAny P .any ops Q (fuel + 1) listed a w) →
      wpOp P ops Q j (wpAny P .any ops Q (fuel + 1) (listed.setIfInBounds j true)) a w := by
    intro fuel listed a w j o hc hkl hI ho hun hjk hall ih
    have hjs := (Array.getElem?_eq_some_iff.1 ho).1
    have hO := obls_at (ops.toList.take k) 0 j o hobl (by rw [List.getElem?_take, if_pos (by omega)]; simpa using ho)
    rw [Nat.zero_add] at hO
    obtain ⟨hy, hn⟩ := hO a w hI.ext (sights_mk j _ fun t ht => hI.sight hf ho hun hall ht)
    have hcnt : (listed.setIfInBounds j true).toList.count false = fuel + 1 := by
      have hjl : j < listed.size := by rw [hI.lsize]; exact hjs
      have hx : listed.toList[j]? = some false := by
        rw [Array.getD_eq_getD_getElem?, Array.getElem?_eq_getElem hjl] at hun
        have h2 : listed[j] = false := hun
        simp [hjl, h2]
      have := count_set listed.toList j hx
      rw [Array.toList_setIfInBounds]
      omega
    have hkl' : (listed.setIfInBounds j true).getD k true = false := by rw [getD_set_ne true hjk]; exact hkl
    unfold wpOp
    rw [ho]
    dsimp only
    split
    · rename_i hw
      exact .inl (Oper.wp_mono (fun a' w' ⟨v, e, hz, hp, hb⟩ => by
        subst e
        exact ih _ _ _ hcnt hkl' (hI.step hf ho hun hall hp hz hb)) (hy hw))
    · rename_i hw
      exact ih _ _ _ hcnt hkl' (hI.step hf ho hun hall (hn (by simpa using hw)) (fun _ => rfl) (R.refl w))
  have hnil : ∀ (listed : Array Bool) (a : Act) (w : World), listed.getD k true = false → Inv ops T a0 W listed a w → Region.ready .any ops listed ≠ [] := by
    intro listed a w hkl hI hr
    have := all_listed hf hI.lsize hr k (by omega)
    rw [getD_ft hkl] at this
    cases this
  intro fuel
  induction fuel with
  | zero =>
    intro listed a w hc hkl hI
    refine ⟨fun hr => absurd hr (hnil listed a w hkl hI), fun j hj => ?_⟩
    obtain ⟨hun, o, ho, hall⟩ := mem_ready.1 hj
    by_cases hjk : j = k
    · subst hjk
      rw [hlast] at ho
      cases ho
      exact hlk 0 listed a w hkl hI hall
    · exfalso
      have hjs := (Array.getElem?_eq_some_iff.1 ho).1
      have hx : ∀ i, i < ops.size → listed.getD i true = false → listed.toList[i]? = some false := fun i hi hu => by
        have hjl : i < listed.size := by rw [hI.lsize]; exact hi
        rw [Array.getD_eq_getD_getElem?, Array.getElem?_eq_getElem hjl] at hu
        have h2 : listed[i] = false := hu
        simp [hjl, h2]
      have h1 := count_set listed.toList j (hx j hjs hun)
      have h2 : (listed.toList.set j true)[k]? = some false := by
        rw [List.getElem?_set_ne hjk]
        exact hx k (by omega) hkl
      have := count_set _ k h2
      omega
  | succ fuel ih =>
    intro listed a w hc hkl hI
    refine ⟨fun hr => absurd hr (hnil listed a w hkl hI), fun j hj => ?_⟩
    obtain ⟨hun, o, ho, hall⟩ := mem_ready.1 hj
    by_cases hjk : j = k
    · subst hjk
      rw [hlast] at ho
      cases ho
      exact hlk (fuel + 1) listed a w hkl hI hall
    · exact hst fuel listed a w j o hc hkl hI ho hun hjk hall ih

/-- a goal that no tactic looks behind -/
structure Goal (p : Prop) : Prop where
  out : p
/-- THE LAW where the last operation writes: it comes up last -/
theorem wp_region_tail {id : Nat} (T : List (SP R)) (n k : Nat) (last : Oper) (L : List (List (Tmp × Option Nat))) (hn : a0.tmps.size = n) (hm : P.follows .mixedOrders = true) (hc : (checkB ops n && tailB ops) = true) (hk : ops.size = k + 1) (hlast : ops[k]? = some last) (hlg : last.guard = none) (hL : lookAll ops 0 (ops.toList.take k) = L)
    (hobl : Obls P ops Q T a0 W 0 (ops.toList.take k) L) (D : List (Option Tmp)) (hD : (ops.toList.take k).map (·.dst) = D) (hfin : ∀ w', R.rel W w' → Fin (fun a w => Goal (last.wp P a w (Q .normal) Q)) w' D T a0) : (Code.region id ops true).wp P Q a0 W := by
  subst hn
  subst hL
  subst hD
  rw [Bool.and_eq_true] at hc
  refine wp_region_any hm ?_
  rw [hk]
  refine wpAny_tail (form_of hc.1) hc.2 hk hlast hlg hobl (fun w' hw => fin_mono (fun _ _ h => h.out) _ _ _ (hfin w' hw)) k _ _ _ (by simp) (by simp) ⟨R.drew W, rfl, rfl, by simp [hk], fun _ _ => rfl, fun i o ho hl => ?_, fun i o ho hl e he hb => ?_⟩
  · have hlt := (Array.getElem?_eq_some_iff.1 ho).1
    simp [← hk, hlt] at hl
  · have hlt := (Array.getElem?_eq_some_iff.1 ho).1
    simp [← hk, hlt] at hl

/-! what serves at an operation -/
variable {j : Nat} {o : Oper}
theorem obl_free (hg : o.guard = none) (h : o.wp P a w (Done T j o a w) Q) :
    (Region.wanted o (yielded ops a.tmps) = true → o.wp P a w (Done T j o a w) Q) ∧ (Region.wanted o (yielded ops a.tmps) = false → predAt T j undef w) :=
  ⟨fun _ => h, fun hw => by simp [Region.wanted, hg] at hw⟩
theorem yields_of {g d : Nat} {b : Bool} (hd : (ops[g]?).bind (·.dst) = some d) (he : a.eval (.tmp d) = .bool b) : yielded ops a.tmps g = some b := by
  unfold yielded
  rw [hd]
  simp only [Act.eval, Array.getD_eq_getD_getElem?] at he
  simp only [Option.bind_some]
  cases hx : a.tmps[d]? with
  | none => rw [hx] at he; cases he
  | some v =>
    rw [hx] at he
    have h2 : v = .bool b := he
    subst h2
    rfl
theorem obl_want {g d : Nat} {b : Bool} (hg : o.guard = some (g, b)) (hd : (ops[g]?).bind (·.dst) = some d) (he : a.eval (.tmp d) = .bool b) (h : o.wp P a w (Done T j o a w) Q) :
    (Region.wanted o (yielded ops a.tmps) = true → o.wp P a w (Done T j o a w) Q) ∧ (Region.wanted o (yielded ops a.tmps) = false → predAt T j undef w) :=
  ⟨fun _ => h, fun hw => by simp [Region.wanted, hg, yields_of hd he] at hw⟩
theorem obl_skip {g d : Nat} {b c : Bool} (hg : o.guard = some (g, b)) (hd : (ops[g]?).bind (·.dst) = some d) (he : a.eval (.tmp d) = .bool c) (hne : (c == b) = false) (h : predAt T j undef w) :
    (Region.wanted o (yielded ops a.tmps) = true → o.wp P a w (Done T j o a w) Q) ∧ (Region.wanted o (yielded ops a.tmps) = false → predAt T j undef w) :=
  ⟨fun hw => by
    simp [Region.wanted, hg, yields_of hd he] at hw
    subst hw
    simp at hne, fun _ => h⟩
theorem ev {t : Tmp} {v : Value} (h : a.eval (.tmp t) = v) : a.tmps[t]?.getD undef = v := by simpa [Act.eval] using h
theorem wp_val {v : Value} {w' : World} (hd : o.dst ≠ none) (h : (execOp a.eval o).run P w = .ok (.value v) w') (hb : R.rel w w') (hp : predAt T j v w') : o.wp P a w (Done T j o a w) Q := by
  unfold Oper.wp
  rw [h]
  exact ⟨v, rfl, fun h => absurd h hd, hp, hb⟩
theorem wp_same {v : Value} (hd : o.dst ≠ none) (h : (execOp a.eval o).run P w = .ok (.value v) w) (hp : predAt T j v w) : o.wp P a w (Done T j o a w) Q := wp_val hd h (R.refl w) hp
theorem done {v : Value} {w' : World} (hd : o.dst ≠ none) (hp : predAt T j v w') (hb : R.rel w w') : Done T j o a w (a.put o.dst v) w' := ⟨v, rfl, fun h => absurd h hd, hp, hb⟩
theorem wp_eqv {c : Value} (hd : o.dst ≠ none) (h : (execOp a.eval o).run P w = .ok (.value c) w) (hT : predAt T j c w) : o.wp P a w (Done T j o a w) Q := wp_same hd h hT
end

/-- the slot is just this -/
def eqv {R : Way} (c : Value) : SP R := ⟨fun v _ => v = c, fun _ _ _ _ h => h⟩
/-- whatever it is -/
def any {R : Way} : SP R := ⟨fun _ _ => True, fun _ _ _ _ _ => trivial⟩
/-- bytes -/
def bytes (l : List UInt8) : SP ext := ⟨fun v w => ∃ A n c, v = .slice A n c ∧ Bytes w w.heap.size A n c l, fun _ _ _ hb ⟨A, n, c, e, h⟩ => ⟨A, n, c, e, h.next hb⟩⟩
end Reg
end Go.Proofs.YtpdfnlhhnodnjaaGreat
end
section
namespace Go.Proofs.YtpdfnlhhnodnjaaGreat.WideP
def hi (x : Int) : Int := x / 18446744073709551616
def lo (x : Int) : Int := x % 18446744073709551616
/-- a number of 64 bits? -/
def fits (x : Int) : Bool := decide (-9223372036854775808 ≤ x) && decide (x ≤ 9223372036854775807)
def num (x : Int) : Int := if fits x then x else 0
end Go.Proofs.YtpdfnlhhnodnjaaGreat.WideP
namespace Go.Proofs.YtpdfnlhhnodnjaaGreat.WideW
open Go.RowKit

end Go.Proofs.YtpdfnlhhnodnjaaGreat.WideW
end
section
namespace Go.Proofs.YtpdfnlhhnodnjaaGreat
theorem key_inj {a b : ByteArray} (h : a.toList = b.toList) : a = b := by
  rw [Lib.toList_data, Lib.toList_data] at h
  exact ByteArray.ext (Array.ext' h)
theorem key_ne {a b : ByteArray} (h : ¬ a = b) : (a.toList == b.toList) = false := by
  rw [beq_eq_false_iff_ne]
  exact fun e => h (key_inj e)
end Go.Proofs.YtpdfnlhhnodnjaaGreat
namespace Go.Proofs.YtpdfnlhhnodnjaaGreat.UndoP
def none : Undo := ⟨0, ByteArray.empty, SlotP.none, 0⟩
/-- does the slot stand for this key? -/
def stands (x : Item) (k : ByteArray) : Prop := (x.state = 1 ∨ x.state = 2) ∧ x.key = k
/-- how an operation is taken back -/
noncomputable def of (x : OpX) (was thn : Item) : Undo := by
  classical
  exact if x.act = 4 then ⟨3, x.key, SlotP.none, x.n⟩ else if x.act = 5 then ⟨2, x.key, SlotP.none, x.n⟩ else
    if x.act = 1 ∨ x.act = 2 ∨ x.act = 3 then (if stands was x.key then ⟨1, x.key, was, 0⟩ else ⟨1, x.key, ⟨2, thn.key, thn.cell⟩, 0⟩) else none
/-- the sum, or the difference -/
def sum (u : Undo) (now : Item) : Int := if u.act = 3 then now.cell.val - u.n else now.cell.val + u.n
/-- what a slot becomes -/
noncomputable def apply (u : Undo) (now : Item) : Item × Int := by
  classical
  exact if u.act = 1 then (u.item, 0) else if u.act = 2 ∨ u.act = 3 then
    (if now.state = 1 ∧ now.key = u.key then
      (if now.cell.kind = 2 ∧ CellP.right now.cell = true then
        (if sum u now < now.cell.lo ∨ now.cell.hi < sum u now then (SlotP.none, 8) else (⟨1, now.key, ⟨2, [], now.cell.lo, now.cell.hi, sum u now⟩⟩, 0)) else (SlotP.none, 6)) else (SlotP.none, 5)) else (SlotP.none, 1)
/-- are all fields the same? -/
def same (a b : Undo) : Bool := a.act == b.act && (a.key.toList == b.key.toList && (a.n == b.n && SlotP.same a.item b.item))
end Go.Proofs.YtpdfnlhhnodnjaaGreat.UndoP
namespace Go.Proofs.YtpdfnlhhnodnjaaGreat.UndoP
/-- may it be? -/
def right (u : Undo) : Bool :=
  if u.act = 0 then same u none
  else if u.act = 1 then KeyP.right u.key.data.toList && ((u.item.state == 1 || u.item.state == 2) && (SlotP.right u.item && (u.item.key.toList == u.key.toList && u.n == 0)))
  else if u.act = 2 ∨ u.act = 3 then KeyP.right u.key.data.toList && (decide (0 ≤ u.n) && SlotP.same u.item SlotP.none) else false
/-- its bytes, if it may be -/
def bytes (u : Undo) : List UInt8 :=
  if right u = true then (if u.act = 0 then [0] else [UInt8.ofNat u.act.toNat, UInt8.ofNat u.key.size] ++ (u.key.data.toList ++ (if u.act = 1 then SlotP.bytes u.item else BeP.parts 8 u.n))) else []
end Go.Proofs.YtpdfnlhhnodnjaaGreat.UndoP
end
section
namespace Go.Proofs.YtpdfnlhhnodnjaaGreat.CrcP

/-- what a bit's step makes of a sum -/
def bit (v : Nat) : Nat := if v % 2 = 1 then v / 2 ^^^ 2197175160 else v / 2
def bits : Nat → Nat → Nat
  | 0, v => v
  | k + 1, v => bits k (bit v)
/-- eight steps -/
def step8 (v : Nat) : Nat := bits 8 v
/-- a byte's round -/
def round (v : Nat) (c : UInt8) : Nat := step8 (v ^^^ c.toNat)
def more (sum : Nat) (l : List UInt8) : Nat := 4294967295 - l.foldl round (4294967295 - sum)
/-- the sum of bytes -/
def sum (l : List UInt8) : Nat := more 0 l

theorem bit_lt (v : Nat) (h : v < 4294967296) : bit v < 4294967296 := by
  unfold bit
  split
  · have : v / 2 ^^^ 2197175160 < 2 ^ 32 := Nat.xor_lt_two_pow (by omega) (by omega)
    omega
  · omega
theorem bits_lt (k v : Nat) (h : v < 4294967296) : bits k v < 4294967296 := by
  induction k generalizing v with
  | zero => exact h
  | succ k ih => exact ih _ (bit_lt v h)
theorem step8_lt (v : Nat) (h : v < 4294967296) : step8 v < 4294967296 := bits_lt 8 v h
theorem xor_byte_lt (v : Nat) (h : v < 4294967296) (c : UInt8) : v ^^^ c.toNat < 4294967296 := by
  have hc := c.toNat_lt
  have : v ^^^ c.toNat < 2 ^ 32 := Nat.xor_lt_two_pow (by omega) (by omega)
  omega
theorem round_lt (v : Nat) (h : v < 4294967296) (c : UInt8) : round v c < 4294967296 := step8_lt _ (xor_byte_lt v h c)
theorem fold_lt (l : List UInt8) (v : Nat) (h : v < 4294967296) : l.foldl round v < 4294967296 := by
  induction l generalizing v with
  | nil => exact h
  | cons c l ih => exact ih _ (round_lt v h c)

theorem xor_div2 (a b : Nat) : (a ^^^ b) / 2 = a / 2 ^^^ b / 2 := by
  have := Nat.shiftRight_xor_distrib (a := a) (b := b) (i := 1)
  simpa [Nat.shiftRight_eq_div_pow] using this
theorem xor_mod2 (a b : Nat) : (a ^^^ b) % 2 = (a + b) % 2 := by
  have h : (a ^^^ b) % 2 = a % 2 ^^^ b % 2 := by
    have := Nat.xor_mod_two_pow (a := a) (b := b) (n := 1)
    simpa using this
  rw [h]
  have ha : a % 2 = 0 ∨ a % 2 = 1 := by omega
  have hb : b % 2 = 0 ∨ b % 2 = 1 := by omega
  rcases ha with ha | ha <;> rcases hb with hb | hb <;> rw [ha, hb] <;> simp <;> omega
/-- a step is linear -/
theorem bit_xor (a b : Nat) : bit (a ^^^ b) = bit a ^^^ bit b := by
  unfold bit
  rw [xor_div2, xor_mod2]
  generalize a / 2 = x
  generalize b / 2 = y
  have ha : a % 2 = 0 ∨ a % 2 = 1 := by omega
  have hb : b % 2 = 0 ∨ b % 2 = 1 := by omega
  rcases ha with ha | ha <;> rcases hb with hb | hb
  · rw [if_neg (by omega), if_neg (by omega), if_neg (by omega)]
  · rw [if_pos (by omega), if_neg (by omega), if_pos (by omega), Nat.xor_assoc]
  · rw [if_pos (by omega), if_pos (by omega), if_neg (by omega), Nat.xor_assoc, Nat.xor_assoc, Nat.xor_comm y]
  · rw [if_neg (by omega), if_pos (by omega), if_pos (by omega), Nat.xor_assoc, Nat.xor_comm 2197175160, Nat.xor_assoc, Nat.xor_self, Nat.xor_zero]
theorem bits_xor (k a b : Nat) : bits k (a ^^^ b) = bits k a ^^^ bits k b := by
  induction k generalizing a b with
  | zero => rfl
  | succ k ih => show bits k (bit (a ^^^ b)) = _; rw [bit_xor, ih]; rfl
theorem step8_xor (a b : Nat) : step8 (a ^^^ b) = step8 a ^^^ step8 b := bits_xor 8 a b
theorem bit_double (v : Nat) : bit (2 * v) = v := by
  unfold bit
  rw [if_neg (by omega)]
  omega
theorem step8_shift (v : Nat) : step8 (256 * v) = v := by
  show bit (bit (bit (bit (bit (bit (bit (bit (256 * v)))))))) = v
  rw [show 256 * v = 2 * (2 * (2 * (2 * (2 * (2 * (2 * (2 * v))))))) by omega, bit_double, bit_double, bit_double, bit_double, bit_double, bit_double, bit_double, bit_double]
theorem split_low (v : Nat) : v = 256 * (v / 256) ^^^ v % 256 := by
  have h : 2 ^ 8 * (v / 2 ^ 8) + v % 2 ^ 8 = 2 ^ 8 * (v / 2 ^ 8) ^^^ v % 2 ^ 8 := by
    apply Nat.eq_of_testBit_eq
    intro i
    rw [Nat.testBit_two_pow_mul_add _ (Nat.mod_lt _ (by decide)), Nat.testBit_xor, Nat.testBit_two_pow_mul]
    by_cases hi : i < 8
    · have h8 : ¬ 8 ≤ i := by omega
      simp [hi, h8]
    · have h0 : (v % 2 ^ 8).testBit i = false := Nat.testBit_lt_two_pow (Nat.lt_of_lt_of_le (Nat.mod_lt _ (by decide)) (Nat.pow_le_pow_right (by decide) (by omega)))
      simp [hi, h0]
      omega
  have h2 := Nat.div_add_mod v (2 ^ 8)
  have h3 : (2 : Nat) ^ 8 = 256 := by decide
  rw [h3] at h h2
  omega
/-- a round by a table -/
theorem round_table (v : Nat) (c : UInt8) : round v c = v / 256 ^^^ step8 (v % 256 ^^^ c.toNat) := by
  unfold round
  have hv := split_low v
  conv => lhs; rw [hv, Nat.xor_assoc, step8_xor, step8_shift]
theorem sum_lt (l : List UInt8) : sum l < 4294967296 := by
  unfold sum more
  omega
end Go.Proofs.YtpdfnlhhnodnjaaGreat.CrcP
end
