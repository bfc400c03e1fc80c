/-
  Maps in memory as plain tables: keys of any kind, elements of any shape. No program in sight.
-/
import Derived.Test.YtldgdgfplgdipaaPTypes
import Derived.Maps.OwnSet
import Derived.Maps.RangeWalk
namespace Go.Proofs.Ytldgdgfplgdipaa
open Go.RowKit Go.Maps
set_option linter.unusedVariables false
set_option linter.unusedSectionVars false
/-- how keys stand in the model -/
structure KeyS (K : Type) [DecidableEq K] where
  val : K → Value
  lit : K → Lit
  same : ∀ a b, (lit a).sameKey (lit b) = decide (a = b)
/-- how elements stand in the model -/
structure ElS (α : Type) where
  val : α → Value
  inv : Value → Option α
  inv_val : ∀ a, inv (val a) = some a
  val_inv : ∀ {v a}, inv v = some a → v = val a
namespace MapP
variable {K α : Type} [DecidableEq K]
abbrev T (K α : Type) := List (K × α)
def del (L : T K α) (k : K) : T K α := L.filter fun p => decide (p.1 ≠ k)
def has (L : T K α) (k : K) : Bool := L.any fun p => decide (p.1 = k)
def get (L : T K α) (k : K) : Option α := (L.find? fun p => decide (p.1 = k)).map (·.2)
def ins (lt : K → K → Bool) (p : K × α) : T K α → T K α
  | [] => [p]
  | y :: r => if lt p.1 y.1 then p :: y :: r else y :: ins lt p r
def put (lt : K → K → Bool) (L : T K α) (k : K) (v : α) : T K α := ins lt (k, v) (del L k)
variable {lt : K → K → Bool}
theorem mem_ins {p y : K × α} : ∀ {L : T K α}, y ∈ ins lt p L ↔ y = p ∨ y ∈ L
  | [] => by simp [ins]
  | z :: r => by
    unfold ins
    split
    · simp
    · simp only [List.mem_cons, mem_ins (L := r)]
      constructor
      · rintro (h | h | h)
        · exact .inr (.inl h)
        · exact .inl h
        · exact .inr (.inr h)
      · rintro (h | h | h)
        · exact .inr (.inl h)
        · exact .inl h
        · exact .inr (.inr h)
theorem mem_del {L : T K α} {k : K} {y : K × α} : y ∈ del L k ↔ y ∈ L ∧ y.1 ≠ k := by simp [del]
theorem mem_put {L : T K α} {k : K} {v : α} {y : K × α} : y ∈ put lt L k v ↔ y = (k, v) ∨ (y ∈ L ∧ y.1 ≠ k) := by rw [put, mem_ins, mem_del]
theorem has_iff {L : T K α} {k : K} : has L k = true ↔ ∃ v, (k, v) ∈ L := by
  simp only [has, List.any_eq_true, decide_eq_true_eq]
  constructor
  · rintro ⟨⟨a, v⟩, h, rfl⟩; exact ⟨v, h⟩
  · rintro ⟨v, h⟩; exact ⟨_, h, rfl⟩
theorem has_false {L : T K α} {k : K} : has L k = false ↔ ∀ p ∈ L, p.1 ≠ k := by simp [has]
theorem has_get (L : T K α) (k : K) : has L k = (get L k).isSome := by
  unfold has get
  induction L with
  | nil => rfl
  | cons y r ih =>
    rw [List.any_cons, List.find?_cons]
    cases decide (y.1 = k) with
    | true => rfl
    | false => simpa using ih
theorem get_none {L : T K α} {k : K} : get L k = none ↔ ∀ p ∈ L, p.1 ≠ k := by
  rw [← has_false, has_get]
  cases get L k <;> simp
theorem get_mem {L : T K α} {k : K} {v : α} (h : get L k = some v) : (k, v) ∈ L := by
  unfold get at h
  rw [Option.map_eq_some_iff] at h
  obtain ⟨⟨a, b⟩, h1, rfl⟩ := h
  have h2 := List.mem_of_find?_eq_some h1
  have h3 := List.find?_some h1
  simp at h3
  subst h3
  exact h2
def Nd (L : T K α) : Prop := (L.map (·.1)).Nodup
theorem get_of {L : T K α} (h : Nd L) {k : K} {v : α} (hm : (k, v) ∈ L) : get L k = some v := by
  induction L with
  | nil => cases hm
  | cons y r ih =>
    have hn := List.nodup_cons.1 h
    unfold get
    rw [List.find?_cons]
    rcases List.mem_cons.1 hm with e | e
    · subst e; simp
    · have hne : y.1 ≠ k := fun e2 => hn.1 (List.mem_map.2 ⟨_, e, e2.symm⟩)
      have : decide (y.1 = k) = false := by simpa using hne
      rw [this]
      exact ih hn.2 e
theorem nd_del {L : T K α} (h : Nd L) (k : K) : Nd (del L k) := List.Sublist.nodup (List.Sublist.map _ List.filter_sublist) h
theorem perm_ins (p : K × α) : ∀ L : T K α, (ins lt p L).Perm (p :: L)
  | [] => List.Perm.refl _
  | y :: r => by
    unfold ins
    split
    · exact List.Perm.refl _
    · exact ((perm_ins p r).cons y).trans (List.Perm.swap p y r)
theorem nd_put {L : T K α} (h : Nd L) (k : K) (v : α) : Nd (put lt L k v) := by
  unfold Nd put
  rw [((perm_ins (lt := lt) (k, v) (del L k)).map _).nodup_iff]
  refine List.nodup_cons.2 ⟨fun hm => ?_, nd_del h k⟩
  obtain ⟨p, hp, e⟩ := List.mem_map.1 hm
  exact (mem_del.1 hp).2 e
theorem get_del {L : T K α} (k k' : K) : get (del L k) k' = if k' = k then none else get L k' := by
  split
  · rename_i e
    subst e
    exact get_none.2 fun p hp => (mem_del.1 hp).2
  · rename_i hne
    unfold get del
    rw [List.find?_filter]
    congr 2
    funext p
    by_cases e : p.1 = k'
    · simp [e, hne]
    · simp [e]
theorem get_put {L : T K α} (h : Nd L) (k : K) (v : α) (k' : K) : get (put lt L k v) k' = if k' = k then some v else get L k' := by
  have hn := nd_put (lt := lt) h k v
  split
  · rename_i e
    subst e
    exact get_of hn (mem_put.2 (.inl rfl))
  · rename_i hne
    cases hg : get L k' with
    | none =>
      refine get_none.2 fun p hp e => ?_
      rcases mem_put.1 hp with rfl | hp
      · exact hne e.symm
      · exact get_none.1 hg p hp.1 e
    | some u => exact get_of hn (mem_put.2 (.inr ⟨get_mem hg, hne⟩))
/-! ### as a map's datum -/
def ent (S : KeyS K) (p : K × α) : Lit × DataW α := (S.lit p.1, .held p.2)
def dat (S : KeyS K) (L : T K α) : DataW α := .map (L.map (ent S))
/-- how a map's elements read -/
def rdE (E : ElS α) (v : Value) : Option (DataW α × List MemPlace) := (E.inv v).map fun a => (.held a, [])
variable (S : KeyS K) (E : ElS α)
theorem rd_val (a : α) : rdE E (E.val a) = some (.held a, []) := by simp [rdE, E.inv_val]
theorem rd_inv {v : Value} {y : DataW α × List MemPlace} (h : rdE E v = some y) : ∃ a, v = E.val a ∧ y = (.held a, []) := by
  unfold rdE at h
  rw [Option.map_eq_some_iff] at h
  obtain ⟨a, h1, rfl⟩ := h
  exact ⟨a, E.val_inv h1, rfl⟩
theorem has_dat (L : T K α) (k : K) : Maps.has (dat S L) (S.lit k) = has L k := by
  unfold dat has
  rw [Maps.has_eq, List.any_map]
  congr 1
  funext y
  exact S.same y.1 k
theorem find_dat (L : T K α) (k : K) : (L.map (ent S)).find? (fun p => p.1.sameKey (S.lit k)) = (L.find? fun y => decide (y.1 = k)).map (ent S) := by
  induction L with
  | nil => rfl
  | cons y r ih =>
    rw [List.map_cons, List.find?_cons, List.find?_cons]
    have e : (ent S y).1.sameKey (S.lit k) = decide (y.1 = k) := S.same y.1 k
    rw [e]
    split
    · rfl
    · exact ih
theorem at_dat (L : T K α) (k : K) (z : α) : (dat S L).atKey (S.lit k) (.held z) = .held ((get L k).getD z) := by
  unfold dat DataW.atKey get
  dsimp only
  rw [find_dat]
  cases L.find? (fun y => decide (y.1 = k)) <;> rfl
theorem filter_dat (L : T K α) (k : K) : (L.map (ent S)).filter (fun p => !p.1.sameKey (S.lit k)) = (del L k).map (ent S) := by
  unfold del
  induction L with
  | nil => rfl
  | cons y r ih =>
    rw [List.map_cons, List.filter_cons, List.filter_cons, ih]
    have e : (ent S y).1.sameKey (S.lit k) = decide (y.1 = k) := S.same y.1 k
    rw [e]
    by_cases h : y.1 = k
    · simp [h]
    · simp [h]
def ltK (S : KeyS K) (a b : K) : Bool := (S.lit a).before (S.lit b)
theorem ins_dat (p : K × α) : ∀ L : T K α, DataW.insert (ent S p) (L.map (ent S)) = (ins (MapP.ltK S) p L).map (ent S)
  | [] => rfl
  | y :: r => by
    rw [List.map_cons]
    unfold DataW.insert ins
    have e : (ent S p).1.before (ent S y).1 = MapP.ltK S p.1 y.1 := rfl
    rw [e]
    by_cases h : MapP.ltK S p.1 y.1 = true
    · simp [h]
    · simp [h, ins_dat p r]
theorem del_dat (L : T K α) (k : K) : (dat S L).del (S.lit k) = dat S (del L k) := by
  unfold dat DataW.del
  dsimp only
  rw [filter_dat]
theorem put_dat (L : T K α) (k : K) (v : α) : (dat S L).put (S.lit k) (.held v) = dat S (put (MapP.ltK S) L k v) := by
  unfold dat DataW.put put
  dsimp only
  rw [filter_dat]
  exact congrArg DataW.map (ins_dat S (k, v) _)
theorem size_dat (L : T K α) : Maps.size (dat S L) = L.length := by simp [dat, Maps.size]
/-- an entry, as the map tells it -/
theorem at_ent {L : T K α} {k : K} {d : DataW α} (h : ∀ z, (dat S L).atKey (S.lit k) z = d) : ∃ v, get L k = some v ∧ d = .held v := by
  unfold dat DataW.atKey at h
  dsimp only at h
  rw [find_dat] at h
  unfold get
  cases hf : L.find? (fun y => decide (y.1 = k)) with
  | none =>
    rw [hf] at h
    have h1 := h .nil
    have h2 := h (.lit (.bool true))
    rw [← h2] at h1
    cases h1
  | some t =>
    rw [hf] at h
    exact ⟨t.2, rfl, (h .nil).symm⟩
end MapP
/-- a map in memory: its keys' type, its block, at most n entries -/
structure MapM {K α : Type} [DecidableEq K] (P : Program) (S : KeyS K) (E : ElS α) (kt : TypeId) (w : World) (b n : Nat) (L : MapP.T K α) : Prop where
  own : w.ownsMap P kt (MapP.rdE E) b n (MapP.dat S L)
  nd : MapP.Nd L
namespace MapM
variable {K α : Type} [DecidableEq K] {P : Program} {S : KeyS K} {E : ElS α} {kt et t : TypeId} {w w' : World} {b n : Nat} {L : MapP.T K α}
theorem lt (h : MapM P S E kt w b n L) : b < w.heap.size := h.own.lt
theorem at_ (h : MapM P S E kt w b n L) (hb : w'.heap[b]? = w.heap[b]?) : MapM P S E kt w' b n L := by
  obtain ⟨es, clock, hh, r⟩ := h.own
  exact ⟨⟨es, clock, hb.trans hh, r⟩, h.nd⟩
theorem made (w : World) : MapM P S E kt (w.alloc (.map #[] 0)) w.heap.size 0 [] := ⟨World.ownsMap_made w P kt _, List.nodup_nil⟩
theorem mono (h : MapM P S E kt w b n L) {m : Nat} (hm : n ≤ m) : MapM P S E kt w b m L := ⟨h.own.mono hm, h.nd⟩
theorem size_le (h : MapM P S E kt w b n L) : L.length ≤ n := by
  have := h.own.size_le
  rwa [MapP.size_dat] at this
theorem look (h : MapM P S E kt w b n L) (Kd : Keyed P kt) (ht : P.underlying t = some (.map kt et)) {z : α} (hz : (zeroValue et).run P w = .ok (E.val z) w) {k : K} (hk : keyOf P kt (S.val k) = some (S.lit k)) :
    (Instr.lookup t (.map (some b)) (S.val k) false).run P w = .ok (E.val ((MapP.get L k).getD z)) w := by
  obtain ⟨v, ps, hrun, hv⟩ := h.own.lookup Kd ht hz (MapP.rd_val E z) hk
  rw [MapP.at_dat] at hv
  obtain ⟨a, rfl, e⟩ := MapP.rd_inv E hv
  simp only [Prod.mk.injEq, DataW.held.injEq] at e
  rw [e.1, hrun]
theorem look_ok (h : MapM P S E kt w b n L) (Kd : Keyed P kt) (ht : P.underlying t = some (.map kt et)) {z : α} (hz : (zeroValue et).run P w = .ok (E.val z) w) {k : K} (hk : keyOf P kt (S.val k) = some (S.lit k)) :
    (Instr.lookup t (.map (some b)) (S.val k) true).run P w = .ok (.tuple #[E.val ((MapP.get L k).getD z), .bool (MapP.has L k)]) w := by
  obtain ⟨v, ps, hrun, hv⟩ := h.own.look_ok Kd ht hz (MapP.rd_val E z) hk
  rw [MapP.at_dat] at hv
  obtain ⟨a, rfl, e⟩ := MapP.rd_inv E hv
  simp only [Prod.mk.injEq, DataW.held.injEq] at e
  rw [e.1, hrun, MapP.has_dat]
theorem store (h : MapM P S E kt w b n L) (Kd : Keyed P kt) (ht : P.underlying t = some (.map kt et)) (hn : n < maxLen) {k : K} (hk : keyOf P kt (S.val k) = some (S.lit k)) (v : α) :
    ∃ w', (Instr.mapUpdate t (.map (some b)) (S.val k) (E.val v)).run P w = .ok () w' ∧ MapM P S E kt w' b (n + 1) (MapP.put (MapP.ltK S) L k v) ∧ w.mapTurned w' b := by
  obtain ⟨w', h1, h2, h3⟩ := h.own.store Kd ht hn hk (MapP.rd_val E v)
  rw [MapP.put_dat] at h2
  exact ⟨w', h1, ⟨h2, MapP.nd_put h.nd k v⟩, h3⟩
theorem drop (h : MapM P S E kt w b n L) (Kd : Keyed P kt) (ht : P.underlying t = some (.map kt et)) {k : K} (hk : keyOf P kt (S.val k) = some (S.lit k)) (ty : TypeId) :
    ∃ w', (Builtin.delete_ #[t, kt] ty #[.map (some b), S.val k]).run P w = .ok (.tuple #[]) w' ∧ MapM P S E kt w' b n (MapP.del L k) ∧ w.mapTurned w' b := by
  obtain ⟨w', h1, h2, h3⟩ := h.own.drop Kd ht hk ty
  rw [MapP.del_dat] at h2
  exact ⟨w', h1, ⟨h2, MapP.nd_del h.nd k⟩, h3⟩
theorem len (h : MapM P S E kt w b n L) (ht : P.underlying t = some (.map kt et)) (ty : TypeId) : (Builtin.len_ #[t] ty #[.map (some b)]).run P w = .ok (.int .i64 (L.length : Nat)) w := by
  rw [h.own.len ht ty, MapP.size_dat]
theorem turned_keep {b : Nat} (h : w.mapTurned w' b) : w.grownBy w' (some b) := h.grown
theorem turned_size {b : Nat} (h : w.mapTurned w' b) : w'.heap.size = w.heap.size := by
  obtain ⟨es, c, es', c', h1, rfl⟩ := h
  simp [Go.ChangeMaps.setBlock]
/-- all is taken out -/
theorem clear (h : MapM P S E kt w b n L) (ht : P.underlying t = some (.map kt et)) (ty : TypeId) :
    ∃ w', (Builtin.clear_ #[t] ty #[.map (some b)]).run P w = .ok (.tuple #[]) w' ∧ MapM P S E kt w' b 0 [] ∧ w.mapTurned w' b := by
  obtain ⟨es, clock, hb, F, hs, hD⟩ := h.own
  refine ⟨Go.ChangeMaps.setBlock w b (.map #[] clock), ?_, ⟨⟨#[], clock, Go.ChangeMaps.heap_setBlock_same hb _, ⟨by simp, MapKept.stamped_empty clock, by simp⟩, Nat.le_refl _, rfl⟩, List.nodup_nil⟩, ⟨es, clock, #[], clock, hb, rfl⟩⟩
  unfold Builtin.clear_
  simp [run_underlying ht, MapKept.run_getObj_map hb, MapKept.run_setObj_map _ hb, Go.ChangeMaps.setBlock]
end MapM
/-- numbers as keys -/
def intK : KeyS Int where
  val k := .int .i64 k
  lit k := .int .i64 k
  same a b := by simp [Lit.sameKey]
end Go.Proofs.Ytldgdgfplgdipaa
