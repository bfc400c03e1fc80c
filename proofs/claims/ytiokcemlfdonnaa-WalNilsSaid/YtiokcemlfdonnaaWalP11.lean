/-
  Parts of the proof of WalNils.
-/
import Derived.Test.YtiokcemlfdonnaaWalP0
import Derived.Maps.OwnSet
import Derived.Maps.RangeWalk
import Derived.Test.YtiokcemlfdonnaaWalP5
import Derived.Test.YtiokcemlfdonnaaWalP1
import Derived.Test.YtiokcemlfdonnaaWalP2
import Derived.Test.YtiokcemlfdonnaaWalP10
section
namespace Go.Proofs.Ytiokcemlfdonnaa
open Go.RowKit Go.Maps
set_option linter.unusedVariables false
set_option linter.unusedSectionVars false
/-- how keys stand in the model -/
structure KeyS (K : Type) [DecidableEq K] where
  val : K → Value
  lit : K → Lit
  same : ∀ a b, (lit a).sameKey (lit b) = decide (a = b)
/-- how elements stand in the model -/
structure ElS (α : Type) where
  val : α → Value
  inv : Value → Option α
  inv_val : ∀ a, inv (val a) = some a
  val_inv : ∀ {v a}, inv v = some a → v = val a
namespace MapP
variable {K α : Type} [DecidableEq K]
abbrev T (K α : Type) := List (K × α)
def del (L : T K α) (k : K) : T K α := L.filter fun p => decide (p.1 ≠ k)
def has (L : T K α) (k : K) : Bool := L.any fun p => decide (p.1 = k)
def get (L : T K α) (k : K) : Option α := (L.find? fun p => decide (p.1 = k)).map (·.2)
def ins (lt : K → K → Bool) (p : K × α) : T K α → T K α
  | [] => [p]
  | y :: r => if lt p.1 y.1 then p :: y :: r else y :: ins lt p r
def put (lt : K → K → Bool) (L : T K α) (k : K) (v : α) : T K α := ins lt (k, v) (del L k)
variable {lt : K → K → Bool}
theorem mem_ins {p y : K × α} : ∀ {L : T K α}, y ∈ ins lt p L ↔ y = p ∨ y ∈ L
  | [] => by simp [ins]
  | z :: r => by
    unfold ins
    split
    · simp
    · simp only [List.mem_cons, mem_ins (L := r)]
      constructor
      · rintro (h | h | h)
        · exact .inr (.inl h)
        · exact .inl h
        · exact .inr (.inr h)
      · rintro (h | h | h)
        · exact .inr (.inl h)
        · exact .inl h
        · exact .inr (.inr h)
theorem mem_del {L : T K α} {k : K} {y : K × α} : y ∈ del L k ↔ y ∈ L ∧ y.1 ≠ k := by simp [del]
def Nd (L : T K α) : Prop := (L.map (·.1)).Nodup
theorem nd_del {L : T K α} (h : Nd L) (k : K) : Nd (del L k) := List.Sublist.nodup (List.Sublist.map _ List.filter_sublist) h
theorem perm_ins (p : K × α) : ∀ L : T K α, (ins lt p L).Perm (p :: L)
  | [] => List.Perm.refl _
  | y :: r => by
    unfold ins
    split
    · exact List.Perm.refl _
    · exact ((perm_ins p r).cons y).trans (List.Perm.swap p y r)
theorem nd_put {L : T K α} (h : Nd L) (k : K) (v : α) : Nd (put lt L k v) := by
  unfold Nd put
  rw [((perm_ins (lt := lt) (k, v) (del L k)).map _).nodup_iff]
  refine List.nodup_cons.2 ⟨fun hm => ?_, nd_del h k⟩
  obtain ⟨p, hp, e⟩ := List.mem_map.1 hm
  exact (mem_del.1 hp).2 e
/-! ### as a map's datum -/
def ent (S : KeyS K) (p : K × α) : Lit × DataW α := (S.lit p.1, .held p.2)
def dat (S : KeyS K) (L : T K α) : DataW α := .map (L.map (ent S))
/-- how a map's elements read -/
def rdE (E : ElS α) (v : Value) : Option (DataW α × List MemPlace) := (E.inv v).map fun a => (.held a, [])
variable (S : KeyS K) (E : ElS α)
theorem rd_val (a : α) : rdE E (E.val a) = some (.held a, []) := by simp [rdE, E.inv_val]
theorem rd_inv {v : Value} {y : DataW α × List MemPlace} (h : rdE E v = some y) : ∃ a, v = E.val a ∧ y = (.held a, []) := by
  unfold rdE at h
  rw [Option.map_eq_some_iff] at h
  obtain ⟨a, h1, rfl⟩ := h
  exact ⟨a, E.val_inv h1, rfl⟩
theorem find_dat (L : T K α) (k : K) : (L.map (ent S)).find? (fun p => p.1.sameKey (S.lit k)) = (L.find? fun y => decide (y.1 = k)).map (ent S) := by
  induction L with
  | nil => rfl
  | cons y r ih =>
    rw [List.map_cons, List.find?_cons, List.find?_cons]
    have e : (ent S y).1.sameKey (S.lit k) = decide (y.1 = k) := S.same y.1 k
    rw [e]
    split
    · rfl
    · exact ih
theorem at_dat (L : T K α) (k : K) (z : α) : (dat S L).atKey (S.lit k) (.held z) = .held ((get L k).getD z) := by
  unfold dat DataW.atKey get
  dsimp only
  rw [find_dat]
  cases L.find? (fun y => decide (y.1 = k)) <;> rfl
theorem filter_dat (L : T K α) (k : K) : (L.map (ent S)).filter (fun p => !p.1.sameKey (S.lit k)) = (del L k).map (ent S) := by
  unfold del
  induction L with
  | nil => rfl
  | cons y r ih =>
    rw [List.map_cons, List.filter_cons, List.filter_cons, ih]
    have e : (ent S y).1.sameKey (S.lit k) = decide (y.1 = k) := S.same y.1 k
    rw [e]
    by_cases h : y.1 = k
    · simp [h]
    · simp [h]
def ltK (S : KeyS K) (a b : K) : Bool := (S.lit a).before (S.lit b)
theorem ins_dat (p : K × α) : ∀ L : T K α, DataW.insert (ent S p) (L.map (ent S)) = (ins (MapP.ltK S) p L).map (ent S)
  | [] => rfl
  | y :: r => by
    rw [List.map_cons]
    unfold DataW.insert ins
    have e : (ent S p).1.before (ent S y).1 = MapP.ltK S p.1 y.1 := rfl
    rw [e]
    by_cases h : MapP.ltK S p.1 y.1 = true
    · simp [h]
    · simp [h, ins_dat p r]
theorem del_dat (L : T K α) (k : K) : (dat S L).del (S.lit k) = dat S (del L k) := by
  unfold dat DataW.del
  dsimp only
  rw [filter_dat]
theorem put_dat (L : T K α) (k : K) (v : α) : (dat S L).put (S.lit k) (.held v) = dat S (put (MapP.ltK S) L k v) := by
  unfold dat DataW.put put
  dsimp only
  rw [filter_dat]
  exact congrArg DataW.map (ins_dat S (k, v) _)
theorem size_dat (L : T K α) : Maps.size (dat S L) = L.length := by simp [dat, Maps.size]
end MapP
/-- a map in memory: its keys' type, its block, at most n entries -/
structure MapM {K α : Type} [DecidableEq K] (P : Program) (S : KeyS K) (E : ElS α) (kt : TypeId) (w : World) (b n : Nat) (L : MapP.T K α) : Prop where
  own : w.ownsMap P kt (MapP.rdE E) b n (MapP.dat S L)
  nd : MapP.Nd L
namespace MapM
variable {K α : Type} [DecidableEq K] {P : Program} {S : KeyS K} {E : ElS α} {kt et t : TypeId} {w w' : World} {b n : Nat} {L : MapP.T K α}
theorem lt (h : MapM P S E kt w b n L) : b < w.heap.size := h.own.lt
theorem at_ (h : MapM P S E kt w b n L) (hb : w'.heap[b]? = w.heap[b]?) : MapM P S E kt w' b n L := by
  obtain ⟨es, clock, hh, r⟩ := h.own
  exact ⟨⟨es, clock, hb.trans hh, r⟩, h.nd⟩
theorem made (w : World) : MapM P S E kt (w.alloc (.map #[] 0)) w.heap.size 0 [] := ⟨World.ownsMap_made w P kt _, List.nodup_nil⟩
theorem mono (h : MapM P S E kt w b n L) {m : Nat} (hm : n ≤ m) : MapM P S E kt w b m L := ⟨h.own.mono hm, h.nd⟩
theorem look (h : MapM P S E kt w b n L) (Kd : Keyed P kt) (ht : P.underlying t = some (.map kt et)) {z : α} (hz : (zeroValue et).run P w = .ok (E.val z) w) {k : K} (hk : keyOf P kt (S.val k) = some (S.lit k)) :
    (Instr.lookup t (.map (some b)) (S.val k) false).run P w = .ok (E.val ((MapP.get L k).getD z)) w := by
  obtain ⟨v, ps, hrun, hv⟩ := h.own.lookup Kd ht hz (MapP.rd_val E z) hk
  rw [MapP.at_dat] at hv
  obtain ⟨a, rfl, e⟩ := MapP.rd_inv E hv
  simp only [Prod.mk.injEq, DataW.held.injEq] at e
  rw [e.1, hrun]
theorem store (h : MapM P S E kt w b n L) (Kd : Keyed P kt) (ht : P.underlying t = some (.map kt et)) (hn : n < maxLen) {k : K} (hk : keyOf P kt (S.val k) = some (S.lit k)) (v : α) :
    ∃ w', (Instr.mapUpdate t (.map (some b)) (S.val k) (E.val v)).run P w = .ok () w' ∧ MapM P S E kt w' b (n + 1) (MapP.put (MapP.ltK S) L k v) ∧ w.mapTurned w' b := by
  obtain ⟨w', h1, h2, h3⟩ := h.own.store Kd ht hn hk (MapP.rd_val E v)
  rw [MapP.put_dat] at h2
  exact ⟨w', h1, ⟨h2, MapP.nd_put h.nd k v⟩, h3⟩
theorem drop (h : MapM P S E kt w b n L) (Kd : Keyed P kt) (ht : P.underlying t = some (.map kt et)) {k : K} (hk : keyOf P kt (S.val k) = some (S.lit k)) (ty : TypeId) :
    ∃ w', (Builtin.delete_ #[t, kt] ty #[.map (some b), S.val k]).run P w = .ok (.tuple #[]) w' ∧ MapM P S E kt w' b n (MapP.del L k) ∧ w.mapTurned w' b := by
  obtain ⟨w', h1, h2, h3⟩ := h.own.drop Kd ht hk ty
  rw [MapP.del_dat] at h2
  exact ⟨w', h1, ⟨h2, MapP.nd_del h.nd k⟩, h3⟩
theorem len (h : MapM P S E kt w b n L) (ht : P.underlying t = some (.map kt et)) (ty : TypeId) : (Builtin.len_ #[t] ty #[.map (some b)]).run P w = .ok (.int .i64 (L.length : Nat)) w := by
  rw [h.own.len ht ty, MapP.size_dat]
theorem turned_keep {b : Nat} (h : w.mapTurned w' b) : w.grownBy w' (some b) := h.grown
/-- all is taken out -/
theorem clear (h : MapM P S E kt w b n L) (ht : P.underlying t = some (.map kt et)) (ty : TypeId) :
    ∃ w', (Builtin.clear_ #[t] ty #[.map (some b)]).run P w = .ok (.tuple #[]) w' ∧ MapM P S E kt w' b 0 [] ∧ w.mapTurned w' b := by
  obtain ⟨es, clock, hb, F, hs, hD⟩ := h.own
  refine ⟨Go.ChangeMaps.setBlock w b (.map #[] clock), ?_, ⟨⟨#[], clock, Go.ChangeMaps.heap_setBlock_same hb _, ⟨by simp, MapKept.stamped_empty clock, by simp⟩, Nat.le_refl _, rfl⟩, List.nodup_nil⟩, ⟨es, clock, #[], clock, hb, rfl⟩⟩
  unfold Builtin.clear_
  simp [run_underlying ht, MapKept.run_getObj_map hb, MapKept.run_setObj_map _ hb, Go.ChangeMaps.setBlock]
end MapM
/-- numbers as keys -/
def intK : KeyS Int where
  val k := .int .i64 k
  lit k := .int .i64 k
  same a b := by simp [Lit.sameKey]
end Go.Proofs.Ytiokcemlfdonnaa
end
section
namespace Go.Proofs.Ytiokcemlfdonnaa
open Go.RowKit
namespace Reg

/-- nothing below N turns -/
def extN (N : Nat) : Way := ⟨fun w w' => Below N w w', Below.refl N, fun _ _ _ h k => h.trans k, fun _ => ⟨rfl, rfl, rfl, Nat.le_refl _, fun _ _ => rfl⟩⟩

/-- a word on what has come up, the slots and the world -/
abbrev Word := Array Bool → Act → World → Prop
/-- what is to be shown of an operation, beside such a word -/
def OblJ {R : Way} (P : Program) (ops : Array Oper) (Q : Exit → Act → World → Prop) (T : List (SP R)) (J : Word) (a0 : Act) (W : World) (j : Nat) (o : Oper) (s : List (Tmp × Option Nat)) : Prop :=
  ∀ (listed : Array Bool) (a : Act) (w : World), R.rel W w → sights T a0 a w s → listed.size = ops.size → a.tmps.size = a0.tmps.size → listed.getD j true = false → (∀ i, waits ops j i = true → listed.getD i false = true) → J listed a w →
    (Region.wanted o (yielded ops a.tmps) = true → o.wp P a w (fun a' w' => Done T j o a w a' w' ∧ J (listed.setIfInBounds j true) a' w') Q) ∧
    (Region.wanted o (yielded ops a.tmps) = false → predAt T j undef w ∧ J (listed.setIfInBounds j true) (a.put o.dst undef) w)
def OblsJ {R : Way} (P : Program) (ops : Array Oper) (Q : Exit → Act → World → Prop) (T : List (SP R)) (J : Word) (a0 : Act) (W : World) : Nat → List Oper → List (List (Tmp × Option Nat)) → Prop
  | _, [], _ => True
  | j, o :: l, [] => OblJ P ops Q T J a0 W j o [] ∧ OblsJ P ops Q T J a0 W (j + 1) l []
  | j, o :: l, s :: L => OblJ P ops Q T J a0 W j o s ∧ OblsJ P ops Q T J a0 W (j + 1) l L

section
variable {R : Way} {P : Program} {ops : Array Oper} {Q : Exit → Act → World → Prop} {T : List (SP R)} {J : Word} {a0 a : Act} {W w : World}
theorem oblsJ_at : ∀ (l : List Oper) (k i : Nat) (o : Oper), OblsJ P ops Q T J a0 W k l (lookAll ops k l) → l[i]? = some o → OblJ P ops Q T J a0 W (k + i) o (look1 ops (k + i) o)
  | [], _, _, _, _, h => by simp at h
  | _ :: _, _, 0, _, hO, h => by
    simp at h
    subst h
    exact hO.1
  | _ :: l, k, i + 1, o, hO, h => by
    have := oblsJ_at l (k + 1) i o hO.2 (by simpa using h)
    rwa [show k + 1 + i = k + (i + 1) by omega] at this

theorem wpAny_J (hf : Form ops a0.tmps.size) (hobl : OblsJ P ops Q T J a0 W 0 ops.toList (lookAll ops 0 ops.toList)) (hfin : ∀ w' listed, R.rel W w' → (∀ i, i < ops.size → listed.getD i false = true) → Fin (fun a w => J listed a w → Q .normal a w) w' (ops.toList.map (·.dst)) T a0) :
    ∀ (fuel : Nat) (listed : Array Bool) (a : Act) (w : World), listed.toList.count false = fuel → Inv ops T a0 W listed a w → J listed a w → wpAny P .any ops Q fuel listed a w := by
  have hend : ∀ (listed : Array Bool) (a : Act) (w : World), Inv ops T a0 W listed a w → J listed a w → Region.ready .any ops listed = [] → Q .normal a w := by
    intro listed a w hI hJ hr
    have hall := all_listed hf hI.lsize hr
    have h1 := fin_of (fun a w => J listed a w → Q .normal a w) a ops.toList T a0 (hfin w listed hI.ext hall) (fun i o ho => by
      have ho' : ops[i]? = some o := by simpa using ho
      exact hI.vals i o ho' (hall i (Array.getElem?_eq_some_iff.1 ho').1))
    rw [foldl_put a ops.toList a0 hI.size.symm hI.defers.symm (fun t ht => (hI.other t fun i hi => by
      obtain ⟨o, ho, hd⟩ := writer_some hi
      exact absurd hd (ht o (by rw [Array.mem_toList_iff]; exact Array.mem_of_getElem? ho))).symm)] at h1
    exact h1 hJ
  intro fuel
  induction fuel with
  | zero =>
    intro listed a w hc hI hJ
    have hr : Region.ready .any ops listed = [] := by
      rw [List.eq_nil_iff_forall_not_mem]
      intro j hj
      have h1 := (mem_ready.1 hj).1
      rw [Array.getD_eq_getD_getElem?] at h1
      cases hx : listed[j]? with
      | none => rw [hx] at h1; cases h1
      | some b =>
        rw [hx] at h1
        have h2 : b = false := h1
        subst h2
        have h3 : false ∈ listed.toList := by rw [Array.mem_toList_iff]; exact Array.mem_of_getElem? hx
        have := List.count_pos_iff.2 h3
        omega
    exact ⟨hr, hend _ _ _ hI hJ hr⟩
  | succ fuel ih =>
    intro listed a w hc hI hJ
    refine ⟨hend _ _ _ hI hJ, fun j hj => ?_⟩
    obtain ⟨hun, o, ho, hall⟩ := mem_ready.1 hj
    have hO := oblsJ_at ops.toList 0 j o hobl (by simpa using ho)
    rw [Nat.zero_add] at hO
    obtain ⟨hy, hn⟩ := hO listed a w hI.ext (sights_mk j _ fun t ht => hI.sight hf ho hun hall ht) hI.lsize hI.size hun (fun i hi => by
      obtain ⟨o', ho', e, he, hb, rfl⟩ := waits_edge hi
      rw [ho] at ho'
      cases ho'
      exact hall e he hb) hJ
    have hcnt : (listed.setIfInBounds j true).toList.count false = fuel := by
      have hjl : j < listed.size := by rw [hI.lsize]; exact (Array.getElem?_eq_some_iff.1 ho).1
      have hx : listed.toList[j]? = some false := by
        rw [Array.getD_eq_getD_getElem?, Array.getElem?_eq_getElem hjl] at hun
        have h2 : listed[j] = false := hun
        simp [hjl, h2]
      have := count_set listed.toList j hx
      rw [Array.toList_setIfInBounds]
      omega
    unfold wpOp
    rw [ho]
    dsimp only
    split
    · rename_i hw
      exact .inl (Oper.wp_mono (fun a' w' ⟨⟨v, e, hz, hp, hb⟩, hJ'⟩ => by
        subst e
        exact ih _ _ _ hcnt (hI.step hf ho hun hall hp hz hb) hJ') (hy hw))
    · rename_i hw
      have h2 := hn (by simpa using hw)
      exact ih _ _ _ hcnt (hI.step hf ho hun hall h2.1 (fun _ => rfl) (R.refl w)) h2.2

end
section
variable {N : Nat} {Z : Array Value} {X : Tmp → Array Value} {K : List (Nat × Tmp × Nat)} {listed : Array Bool} {a : Act} {w w' : World} {j : Nat}
end
/-- what an operation leaves that turns nothing that is there -/
def DoneB {R : Way} (T : List (SP R)) (j : Nat) (o : Oper) (a : Act) (w : World) (a' : Act) (w' : World) : Prop := ∃ v, a' = a.put o.dst v ∧ (o.dst = none → v = undef) ∧ predAt T j v w' ∧ Below w.heap.size w w'
section
variable {N : Nat} {Z : Array Value} {X : Tmp → Array Value} {K : List (Nat × Tmp × Nat)} {P : Program} {ops : Array Oper} {Q : Exit → Act → World → Prop} {T : List (SP (extN N))} {a0 : Act} {W : World} {j : Nat} {o : Oper} {s : List (Tmp × Option Nat)}
theorem wp_eqvB {R : Way} {T : List (SP R)} {a : Act} {w : World} {c : Value} (hd : o.dst ≠ none) (h : (execOp a.eval o).run P w = .ok (.value c) w) (hT : predAt T j c w) : o.wp P a w (DoneB T j o a w) Q := by
  unfold Oper.wp
  rw [h]
  exact ⟨c, rfl, fun h => absurd h hd, hT, bsame w⟩
theorem free {p q : Prop} {a : Act} (hg : o.guard = none) (h : p) : (Region.wanted o (yielded ops a.tmps) = true → p) ∧ (Region.wanted o (yielded ops a.tmps) = false → q) :=
  ⟨fun _ => h, fun hw => by simp [Region.wanted, hg] at hw⟩
end
end Reg
end Go.Proofs.Ytiokcemlfdonnaa
end
section
namespace Go.Proofs.Ytiokcemlfdonnaa
open Go.RowKit
set_option linter.unusedVariables false

/-- blocks hidden -/
def hideL (w : World) : List Nat → World
  | [] => w
  | g :: bs => hide (hideL w bs) g
theorem hideL_in (w : World) (p : Addr) : ∀ bs, p.block ∈ bs → (hideL w bs).cell? p = none
  | g :: bs, h => by
    by_cases e : p.block = g
    · subst e; exact hide_none _ p
    · show (hide (hideL w bs) g).cell? p = none
      rw [hide_other _ g p e]
      exact hideL_in w p bs (by rcases List.mem_cons.1 h with h | h; exact absurd h e; exact h)
theorem hideL_out (w : World) (p : Addr) : ∀ bs, p.block ∉ bs → (hideL w bs).cell? p = w.cell? p
  | [], _ => rfl
  | g :: bs, h => by
    rw [List.mem_cons, not_or] at h
    show (hide (hideL w bs) g).cell? p = _
    rw [hide_other _ g p h.1]
    exact hideL_out w p bs h.2
theorem sub_hideL (B : Nat) (w : World) (bs : List Nat) : Sub B (hideL w bs) w := by
  intro p v hp hv
  by_cases h : p.block ∈ bs
  · rw [hideL_in w p bs h] at hv; cases hv
  · rwa [hideL_out w p bs h] at hv
/-- bytes do not hang on rows without bytes -/
theorem Bytes.hideL {w : World} {B n c : Nat} {A : Option Addr} {l : List UInt8} (h : Bytes w B A n c l) (bs : List Nat) (hn : ∀ b ∈ bs, ∃ cs, Str w b cs ∧ notU8 cs = true) : Bytes (hideL w bs) B A n c l := by
  obtain ⟨h1, h2, h3, h4⟩ := h
  refine ⟨h1, h2, h3, fun hpos => ?_⟩
  obtain ⟨b, o, e, hb, hc⟩ := h4 hpos
  refine ⟨b, o, e, hb, fun j u hu => ?_⟩
  rw [hideL_out w ⟨b, o + j, none⟩ bs]
  · exact hc j u hu
  · intro hm
    obtain ⟨cs, hs, hn1⟩ := hn b hm
    have hx := hc j u hu
    rw [hs.cell] at hx
    have hm2 : byteV u ∈ cs.toList := by
      rw [Array.mem_toList_iff]
      exact Array.mem_of_getElem? hx
    have := List.all_eq_true.1 hn1 _ hm2
    simp [byteV] at this

/-- a word on a value and what it hangs on, below a bound -/
structure MP (β : Type) where
  pred : β → World → Nat → Prop
  mono : ∀ {v w w' B B'}, Sub B w w' → B ≤ B' → pred v w B → pred v w' B'
namespace Reg
/-- nothing that was there turns, but for these blocks -/
structure KeepB (N : Nat) (b0 : List Nat) (w w' : World) : Prop where
  os : w'.os = w.os
  tape : w'.tape = w.tape
  output : w'.output = w.output
  size : w.heap.size ≤ w'.heap.size
  block : ∀ k, k < N → k ∉ b0 → w'.heap[k]? = w.heap[k]?
theorem KeepB.of {N : Nat} {b0 : List Nat} {w w' : World} (h : Below N w w') : KeepB N b0 w w' := ⟨h.os, h.tape, h.output, h.size, fun k hk _ => h.block k hk⟩
theorem KeepB.below {N M : Nat} {b0 : List Nat} {w w' : World} (h : KeepB N b0 w w') (hM : M ≤ N) (h0 : ∀ b ∈ b0, M ≤ b) : Below M w w' := ⟨h.os, h.tape, h.output, h.size, fun k hk => h.block k (by omega) (fun hm => by have := h0 k hm; omega)⟩
theorem KeepB.cell {N : Nat} {b0 : List Nat} {w w' : World} (h : KeepB N b0 w w') {p : Addr} (h1 : p.block < N) (h2 : p.block ∉ b0) : w'.cell? p = w.cell? p := World.cell?_of_block (h.block p.block h1 h2)
theorem KeepB.str {N b : Nat} {b0 : List Nat} {w w' : World} {cs : Array Value} (h : KeepB N b0 w w') (hs : Str w b cs) (h1 : b < N) (h2 : b ∉ b0) : Str w' b cs := by
  obtain ⟨t, ht⟩ := hs
  exact ⟨t, (h.block b h1 h2).trans ht⟩
def extB (N : Nat) (b0 : List Nat) : Way := ⟨fun w w' => KeepB N b0 w w', fun w => KeepB.of (Below.refl N w), fun _ _ _ h k => ⟨k.os.trans h.os, k.tape.trans h.tape, k.output.trans h.output, Nat.le_trans h.size k.size, fun i hi hb => (k.block i hi hb).trans (h.block i hi hb)⟩, fun _ => ⟨rfl, rfl, rfl, Nat.le_refl _, fun _ _ _ => rfl⟩⟩
/-- boxes (who makes it, its slot, who stores into it), what lies in them; values (who makes it, its slot); boxes that were there (slot, block, who stores) -/
structure BxS where
  K : List (Nat × Tmp × Nat)
  Z : Tmp → Array Value
  X : Tmp → MP (Array Value)
  KM : List (Nat × Tmp)
  M : Tmp → MP Value
  K0 : List (Tmp × Nat × Nat)
def BxS.b0 (S : BxS) : List Nat := S.K0.map fun k => k.2.1
/-- the hidden blocks -/
def Bs (N : Nat) (b0 : List Nat) (w : World) (bs : List Nat) : Prop := ∀ b ∈ bs, (b ∈ b0 ∨ N ≤ b) ∧ b < w.heap.size ∧ ∃ cs, Str w b cs ∧ notU8 cs = true
section
variable {N : Nat} {S : BxS} {listed : Array Bool} {a : Act} {w w' : World} {j : Nat}
theorem Bs.next {b0 bs : List Nat} (h : Bs N b0 w bs) (hb : Below w.heap.size w w') : Bs N b0 w' bs := fun b hm => by
  obtain ⟨h1, h2, cs, h3, h4⟩ := h b hm
  exact ⟨h1, Nat.lt_of_lt_of_le h2 hb.size, cs, h3.next hb, h4⟩
end
section
variable {N : Nat} {S : BxS} {P : Program} {ops : Array Oper} {Q : Exit → Act → World → Prop} {T : List (SP (extB N S.b0))} {a0 : Act} {W : World} {j : Nat} {o : Oper} {s : List (Tmp × Option Nat)}
/-- what such an operation leaves -/
structure DoneM (S : BxS) (t : Tmp) (bs : List Nat) (a : Act) (w : World) (a' : Act) (w' : World) : Prop where
  out : ∃ v, a' = a.put (some t) v ∧ Below w.heap.size w w' ∧ (S.M t).pred v (hideL w' bs) w'.heap.size
/-- what a store into a box leaves -/
structure StoredB (S : BxS) (t : Tmp) (g : Nat) (bs : List Nat) (a : Act) (w : World) (a' : Act) (w' : World) : Prop where
  out : a' = a ∧ ∃ cs, w' = w.setRow g cs ∧ notU8 cs = true ∧ (S.X t).pred cs (hideL w bs) w.heap.size
end
section
variable {R : Way} {P : Program} {ops : Array Oper} {Q : Exit → Act → World → Prop} {T : List (SP R)} {a0 a : Act} {W w : World}
/-- THE LAW beside a word that holds at the region's head -/
theorem wp_region_box {id : Nat} (J : Word) (T : List (SP R)) (n : Nat) (L : List (List (Tmp × Option Nat))) (hn : a0.tmps.size = n) (hm : P.follows .mixedOrders = true) (hc : checkB ops n = true) (hJ0 : ∀ listed, (∀ i, listed.getD i false = false) → J listed a0 W.drew) (hL : lookAll ops 0 ops.toList = L) (hobl : OblsJ P ops Q T J a0 W 0 ops.toList L)
    (D : List (Option Tmp)) (hD : ops.toList.map (·.dst) = D) (hfin : ∀ w' listed, R.rel W w' → (∀ i, i < ops.size → listed.getD i false = true) → Fin (fun a w => J listed a w → Q .normal a w) w' D T a0) : (Code.region id ops true).wp P Q a0 W := by
  subst hn
  subst hL
  subst hD
  refine wp_region_any hm (wpAny_J (form_of hc) hobl hfin _ _ _ _ (by simp) ⟨R.drew W, rfl, rfl, by simp, fun _ _ => rfl, fun i o ho hl => ?_, fun i o ho hl e he hb => ?_⟩ (hJ0 _ fun i => ?_))
  · have hlt := (Array.getElem?_eq_some_iff.1 ho).1
    simp [hlt] at hl
  · have hlt := (Array.getElem?_eq_some_iff.1 ho).1
    simp [hlt] at hl
  · rw [Array.getD_eq_getD_getElem?]
    by_cases hi : i < ops.size
    · simp [hi]
    · simp [hi]
end
/-! what is seen by reckoning alone -/
def okB (K : List (Nat × Tmp × Nat)) (KM : List (Nat × Tmp)) (K0 : List (Tmp × Nat)) : Bool :=
  (K.all fun b => K.all fun c => (!(b.1 == c.1 || (b.2.1 == c.2.1 || b.2.2 == c.2.2)) || b == c) && b.1 != c.2.2) &&
  (K.all fun b => KM.all fun m => b.1 != m.1 && (b.2.2 != m.1 && b.2.1 != m.2)) && (KM.all fun m => KM.all fun m' => !(m.1 == m'.1 || m.2 == m'.2) || m == m') &&
  (K0.all fun k => (K.all fun b => k.2 != b.1 && k.2 != b.2.2) && KM.all fun m => k.2 != m.1)
section
variable {N : Nat} {S : BxS} {P : Program} {ops : Array Oper} {Q : Exit → Act → World → Prop} {T : List (SP (extB N S.b0))} {a0 a : Act} {W w : World} {j : Nat} {o : Oper} {s : List (Tmp × Option Nat)} {t : Tmp} {bs : List Nat}
end
end Reg
theorem hideL_append (w : World) (bs : List Nat) : ∀ obs, hideL w (obs ++ bs) = hideL (hideL w bs) obs
  | [] => rfl
  | g :: obs => congrArg (fun x => hide x g) (hideL_append w bs obs)
theorem hideL_mono {B : Nat} {w w' : World} (obs : List Nat) (h : Sub B w w') : Sub B (hideL w obs) (hideL w' obs) := by
  intro p v hp hv
  by_cases hg : p.block ∈ obs
  · rw [hideL_in w p obs hg] at hv; cases hv
  · rw [hideL_out w p obs hg] at hv
    rw [hideL_out w' p obs hg]
    exact h p v hp hv
theorem Bytes.keepB {w w' : World} {B n c : Nat} {b0 : List Nat} {A : Option Addr} {l : List UInt8} (h : Bytes w B A n c l) (hB : B ≤ w.heap.size) (hn : ∀ b ∈ b0, ∃ cs, Str w b cs ∧ notU8 cs = true) (hk : Reg.KeepB w.heap.size b0 w w') : Bytes w' B A n c l :=
  (h.hideL b0 hn).sub fun p v hp hv => by
    by_cases hm : p.block ∈ b0
    · rw [hideL_in w p b0 hm] at hv; cases hv
    · rw [hideL_out w p b0 hm] at hv
      rw [hk.cell (by omega) hm]
      exact hv
/-- bytes that hang on none of these blocks -/
def BytesH (bs : List Nat) (w : World) (A : Option Addr) (n c : Nat) (l : List UInt8) : Prop := Bytes (hideL w bs) w.heap.size A n c l
theorem BytesH.keepB {bs : List Nat} {w w' : World} {n c : Nat} {b0 : List Nat} {A : Option Addr} {l : List UInt8} (h : BytesH bs w A n c l) (hn : ∀ b ∈ b0, ∃ cs, Str w b cs ∧ notU8 cs = true) (hk : Reg.KeepB w.heap.size b0 w w') : BytesH bs w' A n c l := by
  refine Bytes.more (w := Go.Proofs.Ytiokcemlfdonnaa.hideL w' bs) (Bytes.sub (w := Go.Proofs.Ytiokcemlfdonnaa.hideL w (bs ++ b0)) (B := w.heap.size) ?_ ?_) hk.size
  · rw [hideL_append]
    obtain ⟨h1, h2, h3, h4⟩ := h
    refine ⟨h1, h2, h3, fun hpos => ?_⟩
    obtain ⟨b, o, e, hb, hc⟩ := h4 hpos
    refine ⟨b, o, e, hb, fun j u hu => ?_⟩
    have hx := hc j u hu
    have hnb : b ∉ bs := fun hm => by
      have h0 : (Go.Proofs.Ytiokcemlfdonnaa.hideL w bs).cell? ⟨b, o + j, none⟩ = none := hideL_in w ⟨b, o + j, none⟩ bs hm
      rw [h0] at hx; cases hx
    rw [hideL_out w ⟨b, o + j, none⟩ bs hnb] at hx
    rw [hideL_out _ ⟨b, o + j, none⟩ bs hnb, hideL_out w ⟨b, o + j, none⟩ b0]
    · exact hx
    · intro hm
      obtain ⟨cs, hs, hn1⟩ := hn b hm
      rw [hs.cell] at hx
      have hm2 : byteV u ∈ cs.toList := by
        rw [Array.mem_toList_iff]
        exact Array.mem_of_getElem? hx
      have := List.all_eq_true.1 hn1 _ hm2
      simp [byteV] at this
  · rw [hideL_append]
    refine hideL_mono bs fun p v hp hv => ?_
    by_cases hm : p.block ∈ b0
    · rw [hideL_in w p b0 hm] at hv; cases hv
    · rw [hideL_out w p b0 hm] at hv
      rw [hk.cell hp hm]
      exact hv
namespace Reg
end Reg
end Go.Proofs.Ytiokcemlfdonnaa
end
section
namespace Go.Proofs.Ytiokcemlfdonnaa
open Go.RowKit
set_option linter.unusedVariables false
theorem Reg.KeepB.trans {N M : Nat} {b0 : List Nat} {a b c : World} (h : Reg.KeepB N b0 a b) (k : Reg.KeepB M b0 b c) (hN : N ≤ M) : Reg.KeepB N b0 a c :=
  ⟨k.os.trans h.os, k.tape.trans h.tape, k.output.trans h.output, Nat.le_trans h.size k.size, fun i hi hb => (k.block i (by omega) hb).trans (h.block i hi hb)⟩
theorem Reg.KeepB.more {N : Nat} {b0 b1 : List Nat} {a b : World} (h : Reg.KeepB N b0 a b) (hs : ∀ x ∈ b0, x ∈ b1) : Reg.KeepB N b1 a b :=
  ⟨h.os, h.tape, h.output, h.size, fun i hi hb => h.block i hi (fun hm => hb (hs i hm))⟩
theorem Reg.KeepB.less {N M : Nat} {b0 : List Nat} {a b : World} (h : Reg.KeepB N b0 a b) (hM : M ≤ N) : Reg.KeepB M b0 a b :=
  ⟨h.os, h.tape, h.output, h.size, fun i hi hb => h.block i (by omega) hb⟩
/-- blocks that are none of the call's -/
theorem Reg.KeepB.grown {N : Nat} {b0 : List Nat} {a b c : World} {g : Nat} (h : Reg.KeepB N b0 a b) (k : b.grownBy c (some g)) (hN : N ≤ b.heap.size) (hg : N ≤ g ∨ g ∈ b0) : Reg.KeepB N b0 a c :=
  ⟨k.os.trans h.os, k.tape.trans h.tape, k.output.trans h.output, Nat.le_trans h.size k.size, fun i hi hb => (k.block i (by omega) (by intro e; injection e with e; subst e; rcases hg with h1 | h1; omega; exact hb h1)).trans (h.block i hi hb)⟩
theorem Reg.KeepB.step {N : Nat} {b0 : List Nat} {a b c : World} (h : Reg.KeepB N b0 a b) (k : Below b.heap.size b c) (hN : N ≤ b.heap.size) : Reg.KeepB N b0 a c := h.trans (Reg.KeepB.of k) hN
theorem Str.keepB {w w' : World} {b : Nat} {b0 : List Nat} {cs : Array Value} (h : Str w b cs) (k : Reg.KeepB w.heap.size b0 w w') (hb : b ∉ b0) : Str w' b cs := k.str h h.lt hb
theorem drewN_below {B : Nat} {a w : World} (h : Below B a w) (k : Nat) : Below B a (w.drewN k) := ⟨h.os, h.tape, h.output, h.size, h.block⟩
end Go.Proofs.Ytiokcemlfdonnaa
end
section
namespace Go.Proofs.Ytiokcemlfdonnaa
open Go.RowKit Go.Maps
set_option linter.unusedVariables false
set_option linter.unusedSectionVars false
/-- a device: its pages as they are safe, as they are read, its log, the rest -/
structure DevX where
  safe : List (List UInt8)
  now : List (List UInt8)
  log : List UInt8
  stale : Int
  head : Int
  sure : Int
  fused : Bool
  fuse : Int
  off : Bool
  ops : Int
  wr : Nat
/-- a slice as a map's element -/
structure SlV where
  A : Option Addr
  n : Nat
  c : Nat
def slE : ElS SlV where
  val s := .slice s.A s.n s.c
  inv v := match v with
    | .slice A n c => some ⟨A, n, c⟩
    | _ => none
  inv_val _ := rfl
  val_inv := by
    intro v a h
    split at h
    · cases h; rfl
    · cases h
namespace DevP
def new (n : Nat) : DevX := ⟨List.replicate n (SlotP.zeros 512), List.replicate n (SlotP.zeros 512), [], 0, 0, 0, false, 0, false, 0, 0⟩
/-- the error of an operation -/
def err (X : DevX) (fits : Bool) : Int := if X.off then 3 else if !fits then 2 else if X.fused && decide (X.fuse = 0) then 3 else 0
/-- the device, where an operation was not done -/
def stop (X : DevX) (fits : Bool) : DevX := if X.off then X else if !fits then X else { X with off := true }
/-- an operation more -/
def done (X : DevX) : DevX := { X with ops := X.ops + 1, fuse := if X.fused then X.fuse - 1 else X.fuse }
structure Ok (X : DevX) : Prop where
  n0 : 1 ≤ X.safe.length
  n1 : X.safe.length ≤ 1024
  nl : X.now.length = X.safe.length
  h0 : 0 ≤ X.head
  s0 : X.head ≤ X.sure
  s1 : X.sure ≤ X.head + X.log.length
  t0 : 0 ≤ X.stale
  t1 : X.stale ≤ X.head
  o0 : 0 ≤ X.ops
  f0 : 0 ≤ X.fuse
  f1 : X.fuse ≤ 9223372036854775807
  w0 : ∀ p ∈ X.safe, p.length = 512
  w1 : ∀ p ∈ X.now, p.length = 512
/-- so small that no number is too great -/
def Small (X : DevX) : Prop := X.ops ≤ 1000000000 ∧ X.head + X.log.length ≤ 100000000000000 ∧ X.wr ≤ 1000000000
theorem ok_new {n : Nat} (h0 : 1 ≤ n) (h1 : n ≤ 1024) : Ok (new n) := by
  refine ⟨by simpa [new] using h0, by simpa [new] using h1, by simp [new], by simp [new], by simp [new], by simp [new], by simp [new], by simp [new], by simp [new], by simp [new], by simp [new], ?_, ?_⟩
  all_goals
    intro p hp
    rw [new, List.mem_replicate] at hp
    rw [hp.2]
    exact List.length_replicate
theorem ok_done {X : DevX} (h : Ok X) (hf : X.fused = true → X.fuse ≠ 0) : Ok (done X) := by
  obtain ⟨a1, a2, a3, a4, a5, a6, a7, a8, a9, a10, a11, a12, a13⟩ := h
  refine ⟨a1, a2, a3, a4, a5, a6, a7, a8, ?_, ?_, ?_, a12, a13⟩
  · show 0 ≤ X.ops + 1; omega
  · show 0 ≤ (if X.fused then X.fuse - 1 else X.fuse); split
    · rename_i e; have := hf e; omega
    · exact a10
  · show (if X.fused then X.fuse - 1 else X.fuse) ≤ _; split <;> omega
end DevP
namespace DevW
theorem law : Keyed Try.prog 3 := int_keyed Try.underlying3
theorem keyOf_ {k : Int} (h : In64 k) : keyOf Try.prog 3 (intK.val k) = some (intK.lit k) := keyOf_int_mk Try.underlying3 (WalkArith.wf_i64 h)
theorem infoP : (Try.prog.info? 136).map (fun i => (i.zero, i.size, i.bytes)) = some (some (.agg (Array.replicate 512 (.int .u8 0))), 512, 512) := by kernel_rfl
def blk (s : SlV) : Nat := match s.A with
  | some a => a.block
  | none => 0
/-- the writings of a page -/
structure Ent (w : World) (N : Nat) (now : List (List UInt8)) (ops : Nat) (p : Int × SlV) : Prop where
  k0 : 0 ≤ p.1
  k1 : p.1 < N
  pg : ∃ ps, p.2.A = some ⟨blk p.2, 0, none⟩ ∧ Pgs 136 w (blk p.2) p.2.n p.2.c ps ∧ ps ≠ [] ∧ ps.getLast? = now[p.1.toNat]?
  le : p.2.n ≤ ops
/-- pages in memory: those that are safe, and the writings -/
structure Pages (w : World) (sb mb : Nat) (bp : List Nat) (safe now : List (List UInt8)) (ops : Nat) (nm : Nat) (es : List (Int × SlV)) : Prop where
  row : Pgs 136 w sb safe.length safe.length safe
  map : MapM Try.prog intK slE 3 w mb nm es
  ent : ∀ p ∈ es, Ent w safe.length now ops p
  rest : ∀ k : Nat, k < safe.length → MapP.get es (k : Int) = none → now[k]? = safe[k]?
  bpe : bp = sb :: mb :: es.map (fun p => blk p.2)
  nd : bp.Nodup
  nml : nm ≤ ops
/-- a device's box -/
def devC (N sb mb : Nat) (A : Option Addr) (n c : Nat) (X : DevX) : Array Value := #[.slice (some ⟨sb, 0, none⟩) N N, .map (some mb), .slice A n c, .int .i64 X.stale, .int .i64 X.head, .int .i64 X.sure, .bool X.fused, .int .i64 X.fuse, .bool X.off, .int .i64 X.ops]
/-- a device in memory, all of its parts named -/
structure In (w : World) (d sb mb : Nat) (bp : List Nat) (gb : Option Nat) (A : Option Addr) (n c nm : Nat) (es : List (Int × SlV)) (X : DevX) : Prop where
  box : Str w d (devC X.safe.length sb mb A n c X)
  pages : Pages w sb mb bp X.safe X.now X.wr nm es
  log : OwnS w gb A n c X.log
  nd : (d :: (gb.toList ++ bp)).Nodup
  ok : DevP.Ok X
/-- a device in memory, its blocks -/
def Dev (w : World) (d : Nat) (bs : List Nat) (X : DevX) : Prop := ∃ sb mb bp gb A n c nm es, In w d sb mb bp gb A n c nm es X ∧ bs = d :: (gb.toList ++ bp)
section
variable {w w' : World} {d sb mb N : Nat} {bp bs : List Nat} {gb : Option Nat} {A : Option Addr} {n c nm : Nat} {es : List (Int × SlV)} {X : DevX} {safe now : List (List UInt8)} {ops : Nat}
theorem Ent.at_ {p : Int × SlV} (h : Ent w N now ops p) (hb : w'.heap[blk p.2]? = w.heap[blk p.2]?) : Ent w' N now ops p := by
  obtain ⟨ps, e, hp, r⟩ := h.pg
  exact ⟨h.k0, h.k1, ⟨ps, e, hp.at_ hb, r⟩, h.le⟩
theorem Ent.lt {p : Int × SlV} (h : Ent w N now ops p) : blk p.2 < w.heap.size := by
  obtain ⟨ps, e, hp, r⟩ := h.pg
  exact hp.lt
theorem Pages.at_ (h : Pages w sb mb bp safe now ops nm es) (hb : ∀ b ∈ bp, w'.heap[b]? = w.heap[b]?) : Pages w' sb mb bp safe now ops nm es := by
  obtain ⟨a1, a2, a3, a4, rfl, a6, a7⟩ := h
  exact ⟨a1.at_ (hb _ (by simp)), a2.at_ (hb _ (by simp)), fun p hp => (a3 p hp).at_ (hb _ (by simp only [List.mem_cons, List.mem_map]; exact .inr (.inr ⟨p, hp, rfl⟩))), a4, rfl, a6, a7⟩
theorem Pages.lt (h : Pages w sb mb bp safe now ops nm es) : ∀ b ∈ bp, b < w.heap.size := by
  obtain ⟨a1, a2, a3, a4, rfl, a6, a7⟩ := h
  intro b hb
  simp only [List.mem_cons, List.mem_map] at hb
  rcases hb with rfl | rfl | ⟨p, hp, rfl⟩
  · exact a1.lt
  · exact a2.lt
  · exact (a3 p hp).lt
theorem Pages.mono (h : Pages w sb mb bp safe now ops nm es) {ops' : Nat} (ho : ops ≤ ops') : Pages w sb mb bp safe now ops' nm es :=
  ⟨h.row, h.map, fun p hp => ⟨(h.ent p hp).k0, (h.ent p hp).k1, (h.ent p hp).pg, by have := (h.ent p hp).le; omega⟩, h.rest, h.bpe, h.nd, by have := h.nml; omega⟩
theorem In.lt (h : In w d sb mb bp gb A n c nm es X) : ∀ b ∈ d :: (gb.toList ++ bp), b < w.heap.size := by
  intro b hb
  simp only [List.mem_cons, List.mem_append, Option.mem_toList] at hb
  rcases hb with rfl | hb | hb
  · exact h.box.lt
  · exact h.log.lt b hb
  · exact h.pages.lt b hb
theorem In.at_ (h : In w d sb mb bp gb A n c nm es X) (hb : ∀ b ∈ d :: (gb.toList ++ bp), w'.heap[b]? = w.heap[b]?) : In w' d sb mb bp gb A n c nm es X := by
  refine ⟨?_, h.pages.at_ fun b hm => hb b (by simp [hm]), h.log.at_ fun g e => hb g (by simp [e]), h.nd, h.ok⟩
  obtain ⟨t, ht⟩ := h.box
  exact ⟨t, (hb d (by simp)).trans ht⟩
theorem Dev.lt (h : Dev w d bs X) : ∀ b ∈ bs, b < w.heap.size := by
  obtain ⟨sb, mb, bp, gb, A, n, c, nm, es, h, rfl⟩ := h
  exact h.lt
theorem Dev.ok (h : Dev w d bs X) : DevP.Ok X := by
  obtain ⟨sb, mb, bp, gb, A, n, c, nm, es, h, rfl⟩ := h
  exact h.ok
theorem Dev.mem (h : Dev w d bs X) : d ∈ bs := by
  obtain ⟨sb, mb, bp, gb, A, n, c, nm, es, h, rfl⟩ := h
  simp
theorem Dev.at_ (h : Dev w d bs X) (hb : ∀ b ∈ bs, w'.heap[b]? = w.heap[b]?) : Dev w' d bs X := by
  obtain ⟨sb, mb, bp, gb, A, n, c, nm, es, h, rfl⟩ := h
  exact ⟨sb, mb, bp, gb, A, n, c, nm, es, h.at_ hb, rfl⟩
theorem Dev.below (h : Dev w d bs X) (hb : Below w.heap.size w w') : Dev w' d bs X := h.at_ fun b hm => hb.block b (h.lt b hm)
theorem Dev.grown {g : Nat} (h : Dev w d bs X) (hg : w.grownBy w' (some g)) (hn : g ∉ bs) : Dev w' d bs X := h.at_ fun b hm => hg.block b (h.lt b hm) (by intro e; injection e with e; subst e; exact hn hm)
theorem Dev.keepB {b0 : List Nat} (h : Dev w d bs X) (k : Reg.KeepB w.heap.size b0 w w') (hn : ∀ b ∈ b0, b ∉ bs) : Dev w' d bs X := h.at_ fun b hm => k.block b (h.lt b hm) (fun hm2 => hn b hm2 hm)
/-- the box alone has turned -/
theorem In.turn {X' : DevX} (h : In w d sb mb bp gb A n c nm es X) (hg : w.grownBy w' (some d)) (hb : Str w' d (devC X.safe.length sb mb A n c X')) (e1 : X'.safe = X.safe) (e2 : X'.now = X.now) (e3 : X'.log = X.log) (ho : X.wr ≤ X'.wr) (hk : DevP.Ok X') : In w' d sb mb bp gb A n c nm es X' := by
  have hne : ∀ b ∈ gb.toList ++ bp, w'.heap[b]? = w.heap[b]? := fun b hm => hg.block b (h.lt b (List.mem_cons_of_mem _ hm)) (by intro e; injection e with e; subst e; exact (List.nodup_cons.1 h.nd).1 hm)
  have hp := (h.pages.at_ (w' := w') fun b hm => hne b (by simp [hm])).mono ho
  have hl := h.log.at_ (w' := w') fun g e => hne g (by simp [e])
  rw [← e1] at hb
  rw [← e1, ← e2] at hp
  rw [← e3] at hl
  exact ⟨hb, hp, hl, h.nd, hk⟩
end
end DevW
end Go.Proofs.Ytiokcemlfdonnaa
end
