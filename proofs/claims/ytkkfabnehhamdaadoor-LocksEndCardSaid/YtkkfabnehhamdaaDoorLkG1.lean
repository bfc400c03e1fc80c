/-
  Parts of the proof of LocksEnd.
-/
import Derived.Test.YtkkfabnehhamdaaDoorLkG0
import Derived.Maps.OwnSet
import Derived.Maps.RangeWalk
section
namespace Go.Proofs.YtkkfabnehhamdaaDoor
open Go.RowKit Go.Maps
set_option linter.unusedVariables false
set_option linter.unusedSectionVars false
/-- how keys stand in the model -/
structure KeyS (K : Type) [DecidableEq K] where
  val : K → Value
  lit : K → Lit
  same : ∀ a b, (lit a).sameKey (lit b) = decide (a = b)
/-- how elements stand in the model -/
structure ElS (α : Type) where
  val : α → Value
  inv : Value → Option α
  inv_val : ∀ a, inv (val a) = some a
  val_inv : ∀ {v a}, inv v = some a → v = val a
namespace MapP
variable {K α : Type} [DecidableEq K]
abbrev T (K α : Type) := List (K × α)
def del (L : T K α) (k : K) : T K α := L.filter fun p => decide (p.1 ≠ k)
def has (L : T K α) (k : K) : Bool := L.any fun p => decide (p.1 = k)
def get (L : T K α) (k : K) : Option α := (L.find? fun p => decide (p.1 = k)).map (·.2)
def ins (lt : K → K → Bool) (p : K × α) : T K α → T K α
  | [] => [p]
  | y :: r => if lt p.1 y.1 then p :: y :: r else y :: ins lt p r
def put (lt : K → K → Bool) (L : T K α) (k : K) (v : α) : T K α := ins lt (k, v) (del L k)
variable {lt : K → K → Bool}
theorem mem_ins {p y : K × α} : ∀ {L : T K α}, y ∈ ins lt p L ↔ y = p ∨ y ∈ L
  | [] => by simp [ins]
  | z :: r => by
    unfold ins
    split
    · simp
    · simp only [List.mem_cons, mem_ins (L := r)]
      constructor
      · rintro (h | h | h)
        · exact .inr (.inl h)
        · exact .inl h
        · exact .inr (.inr h)
      · rintro (h | h | h)
        · exact .inr (.inl h)
        · exact .inl h
        · exact .inr (.inr h)
theorem mem_del {L : T K α} {k : K} {y : K × α} : y ∈ del L k ↔ y ∈ L ∧ y.1 ≠ k := by simp [del]
theorem mem_put {L : T K α} {k : K} {v : α} {y : K × α} : y ∈ put lt L k v ↔ y = (k, v) ∨ (y ∈ L ∧ y.1 ≠ k) := by rw [put, mem_ins, mem_del]
theorem has_iff {L : T K α} {k : K} : has L k = true ↔ ∃ v, (k, v) ∈ L := by
  simp only [has, List.any_eq_true, decide_eq_true_eq]
  constructor
  · rintro ⟨⟨a, v⟩, h, rfl⟩; exact ⟨v, h⟩
  · rintro ⟨v, h⟩; exact ⟨_, h, rfl⟩
theorem has_false {L : T K α} {k : K} : has L k = false ↔ ∀ p ∈ L, p.1 ≠ k := by simp [has]
theorem has_get (L : T K α) (k : K) : has L k = (get L k).isSome := by
  unfold has get
  induction L with
  | nil => rfl
  | cons y r ih =>
    rw [List.any_cons, List.find?_cons]
    cases decide (y.1 = k) with
    | true => rfl
    | false => simpa using ih
theorem get_none {L : T K α} {k : K} : get L k = none ↔ ∀ p ∈ L, p.1 ≠ k := by
  rw [← has_false, has_get]
  cases get L k <;> simp
theorem get_mem {L : T K α} {k : K} {v : α} (h : get L k = some v) : (k, v) ∈ L := by
  unfold get at h
  rw [Option.map_eq_some_iff] at h
  obtain ⟨⟨a, b⟩, h1, rfl⟩ := h
  have h2 := List.mem_of_find?_eq_some h1
  have h3 := List.find?_some h1
  simp at h3
  subst h3
  exact h2
def Nd (L : T K α) : Prop := (L.map (·.1)).Nodup
theorem get_of {L : T K α} (h : Nd L) {k : K} {v : α} (hm : (k, v) ∈ L) : get L k = some v := by
  induction L with
  | nil => cases hm
  | cons y r ih =>
    have hn := List.nodup_cons.1 h
    unfold get
    rw [List.find?_cons]
    rcases List.mem_cons.1 hm with e | e
    · subst e; simp
    · have hne : y.1 ≠ k := fun e2 => hn.1 (List.mem_map.2 ⟨_, e, e2.symm⟩)
      have : decide (y.1 = k) = false := by simpa using hne
      rw [this]
      exact ih hn.2 e
theorem nd_del {L : T K α} (h : Nd L) (k : K) : Nd (del L k) := List.Sublist.nodup (List.Sublist.map _ List.filter_sublist) h
theorem perm_ins (p : K × α) : ∀ L : T K α, (ins lt p L).Perm (p :: L)
  | [] => List.Perm.refl _
  | y :: r => by
    unfold ins
    split
    · exact List.Perm.refl _
    · exact ((perm_ins p r).cons y).trans (List.Perm.swap p y r)
theorem nd_put {L : T K α} (h : Nd L) (k : K) (v : α) : Nd (put lt L k v) := by
  unfold Nd put
  rw [((perm_ins (lt := lt) (k, v) (del L k)).map _).nodup_iff]
  refine List.nodup_cons.2 ⟨fun hm => ?_, nd_del h k⟩
  obtain ⟨p, hp, e⟩ := List.mem_map.1 hm
  exact (mem_del.1 hp).2 e
theorem get_del {L : T K α} (k k' : K) : get (del L k) k' = if k' = k then none else get L k' := by
  split
  · rename_i e
    subst e
    exact get_none.2 fun p hp => (mem_del.1 hp).2
  · rename_i hne
    unfold get del
    rw [List.find?_filter]
    congr 2
    funext p
    by_cases e : p.1 = k'
    · simp [e, hne]
    · simp [e]
theorem get_put {L : T K α} (h : Nd L) (k : K) (v : α) (k' : K) : get (put lt L k v) k' = if k' = k then some v else get L k' := by
  have hn := nd_put (lt := lt) h k v
  split
  · rename_i e
    subst e
    exact get_of hn (mem_put.2 (.inl rfl))
  · rename_i hne
    cases hg : get L k' with
    | none =>
      refine get_none.2 fun p hp e => ?_
      rcases mem_put.1 hp with rfl | hp
      · exact hne e.symm
      · exact get_none.1 hg p hp.1 e
    | some u => exact get_of hn (mem_put.2 (.inr ⟨get_mem hg, hne⟩))
/-! ### as a map's datum -/
def ent (S : KeyS K) (p : K × α) : Lit × DataW α := (S.lit p.1, .held p.2)
def dat (S : KeyS K) (L : T K α) : DataW α := .map (L.map (ent S))
/-- how a map's elements read -/
def rdE (E : ElS α) (v : Value) : Option (DataW α × List MemPlace) := (E.inv v).map fun a => (.held a, [])
variable (S : KeyS K) (E : ElS α)
theorem rd_val (a : α) : rdE E (E.val a) = some (.held a, []) := by simp [rdE, E.inv_val]
theorem rd_inv {v : Value} {y : DataW α × List MemPlace} (h : rdE E v = some y) : ∃ a, v = E.val a ∧ y = (.held a, []) := by
  unfold rdE at h
  rw [Option.map_eq_some_iff] at h
  obtain ⟨a, h1, rfl⟩ := h
  exact ⟨a, E.val_inv h1, rfl⟩
theorem has_dat (L : T K α) (k : K) : Maps.has (dat S L) (S.lit k) = has L k := by
  unfold dat has
  rw [Maps.has_eq, List.any_map]
  congr 1
  funext y
  exact S.same y.1 k
theorem find_dat (L : T K α) (k : K) : (L.map (ent S)).find? (fun p => p.1.sameKey (S.lit k)) = (L.find? fun y => decide (y.1 = k)).map (ent S) := by
  induction L with
  | nil => rfl
  | cons y r ih =>
    rw [List.map_cons, List.find?_cons, List.find?_cons]
    have e : (ent S y).1.sameKey (S.lit k) = decide (y.1 = k) := S.same y.1 k
    rw [e]
    split
    · rfl
    · exact ih
theorem at_dat (L : T K α) (k : K) (z : α) : (dat S L).atKey (S.lit k) (.held z) = .held ((get L k).getD z) := by
  unfold dat DataW.atKey get
  dsimp only
  rw [find_dat]
  cases L.find? (fun y => decide (y.1 = k)) <;> rfl
theorem filter_dat (L : T K α) (k : K) : (L.map (ent S)).filter (fun p => !p.1.sameKey (S.lit k)) = (del L k).map (ent S) := by
  unfold del
  induction L with
  | nil => rfl
  | cons y r ih =>
    rw [List.map_cons, List.filter_cons, List.filter_cons, ih]
    have e : (ent S y).1.sameKey (S.lit k) = decide (y.1 = k) := S.same y.1 k
    rw [e]
    by_cases h : y.1 = k
    · simp [h]
    · simp [h]
def ltK (S : KeyS K) (a b : K) : Bool := (S.lit a).before (S.lit b)
theorem ins_dat (p : K × α) : ∀ L : T K α, DataW.insert (ent S p) (L.map (ent S)) = (ins (MapP.ltK S) p L).map (ent S)
  | [] => rfl
  | y :: r => by
    rw [List.map_cons]
    unfold DataW.insert ins
    have e : (ent S p).1.before (ent S y).1 = MapP.ltK S p.1 y.1 := rfl
    rw [e]
    by_cases h : MapP.ltK S p.1 y.1 = true
    · simp [h]
    · simp [h, ins_dat p r]
theorem del_dat (L : T K α) (k : K) : (dat S L).del (S.lit k) = dat S (del L k) := by
  unfold dat DataW.del
  dsimp only
  rw [filter_dat]
theorem put_dat (L : T K α) (k : K) (v : α) : (dat S L).put (S.lit k) (.held v) = dat S (put (MapP.ltK S) L k v) := by
  unfold dat DataW.put put
  dsimp only
  rw [filter_dat]
  exact congrArg DataW.map (ins_dat S (k, v) _)
theorem size_dat (L : T K α) : Maps.size (dat S L) = L.length := by simp [dat, Maps.size]
/-- an entry, as the map tells it -/
theorem at_ent {L : T K α} {k : K} {d : DataW α} (h : ∀ z, (dat S L).atKey (S.lit k) z = d) : ∃ v, get L k = some v ∧ d = .held v := by
  unfold dat DataW.atKey at h
  dsimp only at h
  rw [find_dat] at h
  unfold get
  cases hf : L.find? (fun y => decide (y.1 = k)) with
  | none =>
    rw [hf] at h
    have h1 := h .nil
    have h2 := h (.lit (.bool true))
    rw [← h2] at h1
    cases h1
  | some t =>
    rw [hf] at h
    exact ⟨t.2, rfl, (h .nil).symm⟩
end MapP
/-- a map in memory: its keys' type, its block, at most n entries -/
structure MapM {K α : Type} [DecidableEq K] (P : Program) (S : KeyS K) (E : ElS α) (kt : TypeId) (w : World) (b n : Nat) (L : MapP.T K α) : Prop where
  own : w.ownsMap P kt (MapP.rdE E) b n (MapP.dat S L)
  nd : MapP.Nd L
namespace MapM
variable {K α : Type} [DecidableEq K] {P : Program} {S : KeyS K} {E : ElS α} {kt et t : TypeId} {w w' : World} {b n : Nat} {L : MapP.T K α}
theorem lt (h : MapM P S E kt w b n L) : b < w.heap.size := h.own.lt
theorem at_ (h : MapM P S E kt w b n L) (hb : w'.heap[b]? = w.heap[b]?) : MapM P S E kt w' b n L := by
  obtain ⟨es, clock, hh, r⟩ := h.own
  exact ⟨⟨es, clock, hb.trans hh, r⟩, h.nd⟩
theorem made (w : World) : MapM P S E kt (w.alloc (.map #[] 0)) w.heap.size 0 [] := ⟨World.ownsMap_made w P kt _, List.nodup_nil⟩
theorem mono (h : MapM P S E kt w b n L) {m : Nat} (hm : n ≤ m) : MapM P S E kt w b m L := ⟨h.own.mono hm, h.nd⟩
theorem size_le (h : MapM P S E kt w b n L) : L.length ≤ n := by
  have := h.own.size_le
  rwa [MapP.size_dat] at this
theorem look (h : MapM P S E kt w b n L) (Kd : Keyed P kt) (ht : P.underlying t = some (.map kt et)) {z : α} (hz : (zeroValue et).run P w = .ok (E.val z) w) {k : K} (hk : keyOf P kt (S.val k) = some (S.lit k)) :
    (Instr.lookup t (.map (some b)) (S.val k) false).run P w = .ok (E.val ((MapP.get L k).getD z)) w := by
  obtain ⟨v, ps, hrun, hv⟩ := h.own.lookup Kd ht hz (MapP.rd_val E z) hk
  rw [MapP.at_dat] at hv
  obtain ⟨a, rfl, e⟩ := MapP.rd_inv E hv
  simp only [Prod.mk.injEq, DataW.held.injEq] at e
  rw [e.1, hrun]
theorem look_ok (h : MapM P S E kt w b n L) (Kd : Keyed P kt) (ht : P.underlying t = some (.map kt et)) {z : α} (hz : (zeroValue et).run P w = .ok (E.val z) w) {k : K} (hk : keyOf P kt (S.val k) = some (S.lit k)) :
    (Instr.lookup t (.map (some b)) (S.val k) true).run P w = .ok (.tuple #[E.val ((MapP.get L k).getD z), .bool (MapP.has L k)]) w := by
  obtain ⟨v, ps, hrun, hv⟩ := h.own.look_ok Kd ht hz (MapP.rd_val E z) hk
  rw [MapP.at_dat] at hv
  obtain ⟨a, rfl, e⟩ := MapP.rd_inv E hv
  simp only [Prod.mk.injEq, DataW.held.injEq] at e
  rw [e.1, hrun, MapP.has_dat]
theorem store (h : MapM P S E kt w b n L) (Kd : Keyed P kt) (ht : P.underlying t = some (.map kt et)) (hn : n < maxLen) {k : K} (hk : keyOf P kt (S.val k) = some (S.lit k)) (v : α) :
    ∃ w', (Instr.mapUpdate t (.map (some b)) (S.val k) (E.val v)).run P w = .ok () w' ∧ MapM P S E kt w' b (n + 1) (MapP.put (MapP.ltK S) L k v) ∧ w.mapTurned w' b := by
  obtain ⟨w', h1, h2, h3⟩ := h.own.store Kd ht hn hk (MapP.rd_val E v)
  rw [MapP.put_dat] at h2
  exact ⟨w', h1, ⟨h2, MapP.nd_put h.nd k v⟩, h3⟩
theorem drop (h : MapM P S E kt w b n L) (Kd : Keyed P kt) (ht : P.underlying t = some (.map kt et)) {k : K} (hk : keyOf P kt (S.val k) = some (S.lit k)) (ty : TypeId) :
    ∃ w', (Builtin.delete_ #[t, kt] ty #[.map (some b), S.val k]).run P w = .ok (.tuple #[]) w' ∧ MapM P S E kt w' b n (MapP.del L k) ∧ w.mapTurned w' b := by
  obtain ⟨w', h1, h2, h3⟩ := h.own.drop Kd ht hk ty
  rw [MapP.del_dat] at h2
  exact ⟨w', h1, ⟨h2, MapP.nd_del h.nd k⟩, h3⟩
theorem len (h : MapM P S E kt w b n L) (ht : P.underlying t = some (.map kt et)) (ty : TypeId) : (Builtin.len_ #[t] ty #[.map (some b)]).run P w = .ok (.int .i64 (L.length : Nat)) w := by
  rw [h.own.len ht ty, MapP.size_dat]
/-- all is taken out -/
theorem clear (h : MapM P S E kt w b n L) (ht : P.underlying t = some (.map kt et)) (ty : TypeId) :
    ∃ w', (Builtin.clear_ #[t] ty #[.map (some b)]).run P w = .ok (.tuple #[]) w' ∧ MapM P S E kt w' b 0 [] ∧ w.mapTurned w' b := by
  obtain ⟨es, clock, hb, F, hs, hD⟩ := h.own
  refine ⟨Go.ChangeMaps.setBlock w b (.map #[] clock), ?_, ⟨⟨#[], clock, Go.ChangeMaps.heap_setBlock_same hb _, ⟨by simp, MapKept.stamped_empty clock, by simp⟩, Nat.le_refl _, rfl⟩, List.nodup_nil⟩, ⟨es, clock, #[], clock, hb, rfl⟩⟩
  unfold Builtin.clear_
  simp [run_underlying ht, MapKept.run_getObj_map hb, MapKept.run_setObj_map _ hb, Go.ChangeMaps.setBlock]
end MapM
/-- numbers as keys -/
def intK : KeyS Int where
  val k := .int .i64 k
  lit k := .int .i64 k
  same a b := by simp [Lit.sameKey]
end Go.Proofs.YtkkfabnehhamdaaDoor
end
section
namespace Go.Proofs.YtkkfabnehhamdaaDoor
set_option linter.unusedVariables false
namespace LockP
open ModesP
abbrev Row := List (Int × Int)
/-- of a key who holds it, by which set; of one what it holds; of a key who waits; who waits for what -/
structure St where
  own : ByteArray → MapP.T Int Int
  mem : Int → MapP.T ByteArray Unit
  row : ByteArray → Row
  goal : MapP.T Int (ByteArray × Int)
def empty : St := ⟨fun _ => [], fun _ => [], fun _ => [], []⟩
def upd {α β : Type} [DecidableEq α] (f : α → β) (k : α) (v : β) : α → β := fun k' => if k' = k then v else f k'
theorem upd_same {α β : Type} [DecidableEq α] (f : α → β) (k : α) (v : β) : upd f k v k = v := by simp [upd]
theorem upd_other {α β : Type} [DecidableEq α] (f : α → β) {k k' : α} (v : β) (h : k' ≠ k) : upd f k v k' = f k' := by simp [upd, h]
section
variable (ltI : Int → Int → Bool) (ltS : ByteArray → ByteArray → Bool)
def set (s : St) (k : ByteArray) (t : Int) : Int := (MapP.get (s.own k) t).getD 0
def hold (s : St) (t : Int) (k : ByteArray) (m : Int) : St := { s with own := upd s.own k (MapP.put ltI (s.own k) t (withM (set s k t) m)), mem := upd s.mem t (MapP.put ltS (s.mem t) k ()) }
def drop (s : St) (t : Int) (k : ByteArray) : St := { s with own := upd s.own k (MapP.del (s.own k) t), mem := upd s.mem t (MapP.del (s.mem t) k) }
def others (s : St) (t : Int) (k : ByteArray) (m : Int) : Bool := (s.own k).all fun p => decide (p.1 = t) || fitsM p.2 m
def may (s : St) (t : Int) (k : ByteArray) (m ahead : Int) : Bool := (!(decide (set s k t = 0)) || fitsM ahead m) && others s t k m
def aheadOf (a : Int) (l : Row) : Int := l.foldl (fun a p => withM a p.2) a
def wait (s : St) (t : Int) (k : ByteArray) (m : Int) : St := { s with row := upd s.row k (s.row k ++ [(t, m)]), goal := MapP.put ltI s.goal t (k, m) }
/-- what is told, the error -/
def ask (s : St) (t : Int) (k : ByteArray) (m : Int) : St × Bool × Int :=
  if isM m = false then (s, false, 1) else
  if MapP.has s.goal t then (s, false, 15) else
  if hasM (set s k t) m then (s, true, 0) else
  if may s t k m (aheadOf 0 (s.row k)) then (hold ltI ltS s t k m, true, 0) else (wait ltI s t k m, false, 0)
def take (s : St) (t : Int) (k : ByteArray) (m : Int) : St := { hold ltI ltS s t k m with goal := MapP.del s.goal t }
/-- those that wait for a key, one behind the other -/
def pass (k : ByteArray) : Row → St → Int → St × List Int
  | [], s, _ => (s, [])
  | (t, m) :: r, s, a => if may s t k m a then ((pass k r (take ltI ltS s t k m) a).1, t :: (pass k r (take ltI ltS s t k m) a).2) else pass k r s (withM a m)
def cut (s : St) (k : ByteArray) : St := { s with row := upd s.row k ((s.row k).filter fun p => MapP.has s.goal p.1) }
def grant (s : St) (k : ByteArray) : St × List Int := (cut (pass ltI ltS k (s.row k) s 0).1 k, (pass ltI ltS k (s.row k) s 0).2)
def leave (s : St) (t : Int) : St × List ByteArray := match MapP.get s.goal t with
  | none => (s, [])
  | some (k, m) => ({ s with row := upd s.row k ((s.row k).filter fun p => !decide (p = (t, m))), goal := MapP.del s.goal t }, [k])
def grantAll : List ByteArray → St → St × List Int
  | [], s => (s, [])
  | k :: r, s => ((grantAll r (grant ltI ltS s k).1).1, (grant ltI ltS s k).2 ++ (grantAll r (grant ltI ltS s k).1).2)
def drops (s : St) (t : Int) (l : List ByteArray) : St := l.foldl (fun s k => drop s t k) s
end
/-! ### sets of modes -/
theorem fits_with {s x m : Int} (h0 : 0 ≤ s) (h1 : s < 16) (h2 : 0 ≤ x) (h3 : x < 4) (h4 : 0 ≤ m) (h5 : m < 4) : fitsM (withM s x) m = (fitsM s m && compat x m) := by
  have h : ∀ a : Fin 16, ∀ b c : Fin 4, fitsM (withM (a.val : Int) (b.val : Int)) (c.val : Int) = (fitsM (a.val : Int) (c.val : Int) && compat (b.val : Int) (c.val : Int)) := by decide +kernel
  have := h ⟨s.toNat, by omega⟩ ⟨x.toNat, by omega⟩ ⟨m.toNat, by omega⟩
  simpa only [Int.toNat_of_nonneg h0, Int.toNat_of_nonneg h2, Int.toNat_of_nonneg h4] using this
theorem has_with {s x m : Int} (h0 : 0 ≤ s) (h1 : s < 16) (h2 : 0 ≤ x) (h3 : x < 4) (h4 : 0 ≤ m) (h5 : m < 4) : hasM (withM s x) m = (hasM s m || decide (x = m)) := by
  have h : ∀ a : Fin 16, ∀ b c : Fin 4, hasM (withM (a.val : Int) (b.val : Int)) (c.val : Int) = (hasM (a.val : Int) (c.val : Int) || decide ((b.val : Int) = (c.val : Int))) := by decide +kernel
  have := h ⟨s.toNat, by omega⟩ ⟨x.toNat, by omega⟩ ⟨m.toNat, by omega⟩
  simpa only [Int.toNat_of_nonneg h0, Int.toNat_of_nonneg h2, Int.toNat_of_nonneg h4] using this
theorem with_pos {s x : Int} (h0 : 0 ≤ s) (h1 : s < 16) (h2 : 0 ≤ x) (h3 : x < 4) : 0 < withM s x ∧ withM s x < 16 := by
  have h : ∀ a : Fin 16, ∀ b : Fin 4, 0 < withM (a.val : Int) (b.val : Int) ∧ withM (a.val : Int) (b.val : Int) < 16 := by decide +kernel
  have := h ⟨s.toNat, by omega⟩ ⟨x.toNat, by omega⟩
  simpa only [Int.toNat_of_nonneg h0, Int.toNat_of_nonneg h2] using this
theorem fits_iff {s m : Int} (h0 : 0 ≤ s) (h1 : s < 16) (h4 : 0 ≤ m) (h5 : m < 4) : fitsM s m = true ↔ ∀ x, 0 ≤ x → x < 4 → hasM s x = true → compat x m = true := by
  have h : ∀ a : Fin 16, ∀ c : Fin 4, (fitsM (a.val : Int) (c.val : Int) = true ↔ ∀ b : Fin 4, hasM (a.val : Int) (b.val : Int) = true → compat (b.val : Int) (c.val : Int) = true) := by decide +kernel
  have := h ⟨s.toNat, by omega⟩ ⟨m.toNat, by omega⟩
  simp only [Int.toNat_of_nonneg h0, Int.toNat_of_nonneg h4] at this
  rw [this]
  constructor
  · intro hb x h2 h3
    have := hb ⟨x.toNat, by omega⟩
    simpa only [Int.toNat_of_nonneg h2] using this
  · intro hb b
    exact hb _ (by omega) (by have := b.isLt; omega)
theorem compat_comm (a b : Int) : compat a b = compat b a := by
  unfold compat
  rw [Bool.and_comm (a == 0), Bool.and_comm (a == 2 || a == 3)]
theorem fits_zero (m : Int) (h4 : 0 ≤ m) (h5 : m < 4) : fitsM 0 m = true := by
  have h : ∀ c : Fin 4, fitsM 0 (c.val : Int) = true := by decide +kernel
  have := h ⟨m.toNat, by omega⟩
  simpa only [Int.toNat_of_nonneg h4] using this
theorem has_zero (m : Int) (h4 : 0 ≤ m) (h5 : m < 4) : hasM 0 m = false := by
  have h : ∀ c : Fin 4, hasM 0 (c.val : Int) = false := by decide +kernel
  have := h ⟨m.toNat, by omega⟩
  simpa only [Int.toNat_of_nonneg h4] using this
theorem isM_iff {m : Int} : isM m = true ↔ 0 ≤ m ∧ m < 4 := by simp [isM]
/-! ### what stands -/
/-- all but what ties rows to goals -/
structure Ok0 (s : St) : Prop where
  vals : ∀ k p, p ∈ s.own k → 0 < p.2 ∧ p.2 < 16
  nd : ∀ k, MapP.Nd (s.own k)
  mems : ∀ t k, MapP.has (s.mem t) k = MapP.has (s.own k) t
  ndm : ∀ t, MapP.Nd (s.mem t)
  ndg : MapP.Nd s.goal
  comp : ∀ k p q, p ∈ s.own k → q ∈ s.own k → p.1 ≠ q.1 → ∀ m, 0 ≤ m → m < 4 → hasM q.2 m = true → fitsM p.2 m = true
structure Ok (s : St) : Prop extends Ok0 s where
  rows : ∀ k t m, (t, m) ∈ s.row k ↔ MapP.get s.goal t = some (k, m)
  ndr : ∀ k, ((s.row k).map (·.1)).Nodup
  modes : ∀ k p, p ∈ s.row k → 0 ≤ p.2 ∧ p.2 < 4
/-- nobody waits for a key that might have it -/
def Shut (s : St) (k : ByteArray) : Prop := ∀ pre t m post, s.row k = pre ++ (t, m) :: post → may s t k m (aheadOf 0 pre) = false
theorem ok_empty : Ok empty := ⟨⟨(by intro k p h; cases h), fun _ => List.nodup_nil, fun _ _ => rfl, fun _ => List.nodup_nil, List.nodup_nil, (by intro k p q h; cases h)⟩, (by intro k t m; constructor <;> intro h <;> cases h), fun _ => List.nodup_nil, (by intro k p h; cases h)⟩
section
variable {ltI : Int → Int → Bool} {ltS : ByteArray → ByteArray → Bool} {s : St} {t : Int} {k : ByteArray} {m a : Int}
theorem Ok0.set_bd (h : Ok0 s) : 0 ≤ set s k t ∧ set s k t < 16 := by
  unfold set
  cases hg : MapP.get (s.own k) t with
  | none => exact ⟨Int.le_refl _, by show (0 : Int) < 16; omega⟩
  | some v =>
    have := h.vals k (t, v) (MapP.get_mem hg)
    exact ⟨by show 0 ≤ v; have := this.1; exact Int.le_of_lt this, this.2⟩
theorem may_false (h : may s t k m a = false) : (set s k t = 0 ∧ fitsM a m = false) ∨ ∃ p ∈ s.own k, p.1 ≠ t ∧ fitsM p.2 m = false := by
  unfold may at h
  rw [Bool.and_eq_false_iff] at h
  rcases h with h | h
  · simp only [Bool.or_eq_false_iff, Bool.not_eq_false', decide_eq_true_eq] at h
    exact .inl h
  · right
    unfold others at h
    rw [List.all_eq_false] at h
    obtain ⟨p, hp, h⟩ := h
    simp only [Bool.or_eq_true, decide_eq_true_eq, not_or, Bool.not_eq_true] at h
    exact ⟨p, hp, h.1, h.2⟩
theorem may_of (h : (set s k t = 0 ∧ fitsM a m = false) ∨ ∃ p ∈ s.own k, p.1 ≠ t ∧ fitsM p.2 m = false) : may s t k m a = false := by
  unfold may
  rw [Bool.and_eq_false_iff]
  rcases h with h | ⟨p, hp, h1, h2⟩
  · left
    simp [h.1, h.2]
  · right
    unfold others
    rw [List.all_eq_false]
    exact ⟨p, hp, by simp [h1, h2]⟩
theorem may_true (h : may s t k m a = true) : (set s k t = 0 → fitsM a m = true) ∧ ∀ p ∈ s.own k, p.1 ≠ t → fitsM p.2 m = true := by
  refine ⟨fun h0 => ?_, fun p hp hne => ?_⟩
  · cases hf : fitsM a m with
    | true => rfl
    | false => rw [may_of (.inl ⟨h0, hf⟩)] at h; cases h
  · cases hf : fitsM p.2 m with
    | true => rfl
    | false => rw [may_of (.inr ⟨p, hp, hne, hf⟩)] at h; cases h
/-- one more holds a key -/
theorem Ok0.hold (h : Ok0 s) (h0 : 0 ≤ m) (h1 : m < 4) (hf : ∀ p ∈ s.own k, p.1 ≠ t → fitsM p.2 m = true) : Ok0 (hold ltI ltS s t k m) := by
  obtain ⟨b0, b1⟩ := h.set_bd (k := k) (t := t)
  obtain ⟨c0, c1⟩ := with_pos b0 b1 h0 h1
  have hown : ∀ k' p, p ∈ (LockP.hold ltI ltS s t k m).own k' → (k' = k ∧ p = (t, withM (set s k t) m)) ∨ (p ∈ s.own k' ∧ (k' = k → p.1 ≠ t)) := fun k' p hp => by
    unfold LockP.hold at hp
    by_cases e : k' = k
    · subst e
      simp only [upd_same] at hp
      rcases MapP.mem_put.1 hp with rfl | ⟨h2, h3⟩
      · exact .inl ⟨rfl, rfl⟩
      · exact .inr ⟨h2, fun _ => h3⟩
    · simp only [upd_other _ _ e] at hp
      exact .inr ⟨hp, fun h => absurd h e⟩
  have hset : ∀ v, (t, v) ∈ s.own k → set s k t = v := fun v hv => by unfold set; rw [MapP.get_of (h.nd k) hv]; rfl
  -- what the new one has goes with what others have, and back
  have hnew : ∀ q ∈ s.own k, q.1 ≠ t → ∀ x, 0 ≤ x → x < 4 → (hasM q.2 x = true → fitsM (withM (set s k t) m) x = true) ∧ (hasM (withM (set s k t) m) x = true → fitsM q.2 x = true) := fun q hq hne x x0 x1 => by
    have hv := h.vals k q hq
    have hq2 := hf q hq hne
    have hold' : ∀ v, MapP.get (s.own k) t = some v → (hasM q.2 x = true → fitsM v x = true) ∧ (hasM v x = true → fitsM q.2 x = true) := fun v hg =>
      ⟨fun hx => h.comp k (t, v) q (MapP.get_mem hg) hq (fun e => hne e.symm) x x0 x1 hx, fun hx => h.comp k q (t, v) hq (MapP.get_mem hg) hne x x0 x1 hx⟩
    have hcx : hasM q.2 x = true → compat m x = true := fun hx => by
      rw [compat_comm]
      exact (fits_iff (by omega) hv.2 h0 h1).1 hq2 x x0 x1 hx
    refine ⟨fun hx => ?_, fun hx => ?_⟩
    · rw [fits_with b0 b1 h0 h1 x0 x1, hcx hx, Bool.and_true]
      unfold set
      cases hg : MapP.get (s.own k) t with
      | none => exact fits_zero x x0 x1
      | some v => exact (hold' v hg).1 hx
    · rw [has_with b0 b1 h0 h1 x0 x1, Bool.or_eq_true] at hx
      rcases hx with hx | hx
      · unfold set at hx
        cases hg : MapP.get (s.own k) t with
        | none => rw [hg, show ((none : Option Int).getD 0) = 0 from rfl, has_zero x x0 x1] at hx; cases hx
        | some v => rw [hg] at hx; exact (hold' v hg).2 hx
      · obtain rfl : m = x := by simpa using hx
        exact hq2
  refine ⟨fun k' p hp => ?_, fun k' => ?_, fun t' k' => ?_, fun t' => ?_, h.ndg, fun k' p q hp hq hne x x0 x1 hx => ?_⟩
  · rcases hown k' p hp with ⟨rfl, rfl⟩ | ⟨h2, -⟩
    · exact ⟨c0, c1⟩
    · exact h.vals k' p h2
  · unfold LockP.hold
    by_cases e : k' = k
    · subst e; simp only [upd_same]; exact MapP.nd_put (h.nd k') _ _
    · simp only [upd_other _ _ e]; exact h.nd k'
  · have hm := h.mems t' k'
    rw [MapP.has_get, MapP.has_get] at hm ⊢
    unfold LockP.hold
    by_cases e : k' = k
    · subst e
      simp only [upd_same]
      rw [MapP.get_put (h.nd k')]
      by_cases e2 : t' = t
      · subst e2
        simp only [upd_same, if_true]
        rw [MapP.get_put (h.ndm t'), if_pos rfl]
        rfl
      · simp only [upd_other _ _ e2, e2, if_false]
        exact hm
    · simp only [upd_other _ _ e]
      by_cases e2 : t' = t
      · subst e2
        simp only [upd_same]
        rw [MapP.get_put (h.ndm t'), if_neg e]
        exact hm
      · simp only [upd_other _ _ e2]
        exact hm
  · unfold LockP.hold
    by_cases e : t' = t
    · subst e; simp only [upd_same]; exact MapP.nd_put (h.ndm t') _ _
    · simp only [upd_other _ _ e]; exact h.ndm t'
  · rcases hown k' p hp with ⟨rfl, rfl⟩ | ⟨h2, h2'⟩
    · rcases hown k' q hq with ⟨-, rfl⟩ | ⟨h3, h3'⟩
      · exact absurd rfl hne
      · exact (hnew q h3 (h3' rfl) x x0 x1).1 hx
    · rcases hown k' q hq with ⟨rfl, rfl⟩ | ⟨h3, h3'⟩
      · exact (hnew p h2 (h2' rfl) x x0 x1).2 hx
      · exact h.comp k' p q h2 h3 hne x x0 x1 hx
theorem Ok0.drop (h : Ok0 s) : Ok0 (drop s t k) := by
  have hown : ∀ k' p, p ∈ (LockP.drop s t k).own k' → p ∈ s.own k' := fun k' p hp => by
    unfold LockP.drop at hp
    by_cases e : k' = k
    · subst e; simp only [upd_same] at hp; exact (MapP.mem_del.1 hp).1
    · simpa only [upd_other _ _ e] using hp
  refine ⟨fun k' p hp => h.vals k' p (hown k' p hp), fun k' => ?_, fun t' k' => ?_, fun t' => ?_, h.ndg, fun k' p q hp hq hne x x0 x1 hx => h.comp k' p q (hown k' p hp) (hown k' q hq) hne x x0 x1 hx⟩
  · unfold LockP.drop
    by_cases e : k' = k
    · subst e; simp only [upd_same]; exact MapP.nd_del (h.nd k') _
    · simp only [upd_other _ _ e]; exact h.nd k'
  · have hm := h.mems t' k'
    rw [MapP.has_get, MapP.has_get] at hm ⊢
    unfold LockP.drop
    by_cases e : k' = k
    · subst e
      simp only [upd_same]
      rw [MapP.get_del]
      by_cases e2 : t' = t
      · subst e2
        simp only [upd_same, if_true]
        rw [MapP.get_del, if_pos rfl]
        rfl
      · simp only [upd_other _ _ e2, e2, if_false]
        exact hm
    · simp only [upd_other _ _ e]
      by_cases e2 : t' = t
      · subst e2
        simp only [upd_same]
        rw [MapP.get_del, if_neg e]
        exact hm
      · simp only [upd_other _ _ e2]
        exact hm
  · unfold LockP.drop
    by_cases e : t' = t
    · subst e; simp only [upd_same]; exact MapP.nd_del (h.ndm t') _
    · simp only [upd_other _ _ e]; exact h.ndm t'
end
end LockP
end Go.Proofs.YtkkfabnehhamdaaDoor
end
section
namespace Go.Proofs.YtkkfabnehhamdaaDoor
set_option linter.unusedVariables false
namespace LockP
open ModesP
section
variable {ltI : Int → Int → Bool} {ltS : ByteArray → ByteArray → Bool} {s : St} {t : Int} {k : ByteArray} {m a : Int}
theorem Ok0.goal (h : Ok0 s) {g : MapP.T Int (ByteArray × Int)} (hg : MapP.Nd g) : Ok0 { s with goal := g } := ⟨h.vals, h.nd, h.mems, h.ndm, hg, h.comp⟩
theorem Ok0.row (h : Ok0 s) {r : ByteArray → Row} : Ok0 { s with row := r } := ⟨h.vals, h.nd, h.mems, h.ndm, h.ndg, h.comp⟩
theorem ahead_bd (l : Row) : ∀ {a : Int}, (∀ p ∈ l, 0 ≤ p.2 ∧ p.2 < 4) → 0 ≤ a → a < 16 → 0 ≤ aheadOf a l ∧ aheadOf a l < 16 := by
  induction l with
  | nil => intro a _ h0 h1; exact ⟨h0, h1⟩
  | cons p r ih =>
    intro a hl h0 h1
    obtain ⟨b0, b1⟩ := hl p (by simp)
    obtain ⟨c0, c1⟩ := with_pos h0 h1 b0 b1
    exact ih (fun q hq => hl q (List.mem_cons_of_mem _ hq)) (Int.le_of_lt c0) c1
theorem own_take (s : St) (t : Int) (k : ByteArray) (m : Int) : (take ltI ltS s t k m).own k = MapP.put ltI (s.own k) t (withM (set s k t) m) := by
  unfold take hold
  simp only [upd_same]
theorem own_take_other (s : St) (t : Int) {k k' : ByteArray} (m : Int) (h : k' ≠ k) : (take ltI ltS s t k m).own k' = s.own k' := by
  unfold take hold
  simp only [upd_other _ _ h]
/-- who may not now may not when another has more -/
theorem may_mono (h : Ok0 s) (h0 : 0 ≤ m) (h1 : m < 4) {t' m' a' : Int} (h2 : 0 ≤ m') (h3 : m' < 4) (hne : t' ≠ t) (hm : may s t' k m' a' = false) : may (take ltI ltS s t k m) t' k m' a' = false := by
  obtain ⟨b0, b1⟩ := h.set_bd (k := k) (t := t)
  refine may_of ?_
  rcases may_false hm with ⟨e, f⟩ | ⟨p, hp, e, f⟩
  · left
    refine ⟨?_, f⟩
    unfold set at e ⊢
    rw [own_take, MapP.get_put (h.nd k), if_neg hne]
    exact e
  · right
    by_cases e2 : p.1 = t
    · refine ⟨(t, withM (set s k t) m), ?_, fun e3 => hne e3.symm, ?_⟩
      · rw [own_take]; exact MapP.mem_put.2 (.inl rfl)
      · have : set s k t = p.2 := by
          unfold set
          rw [MapP.get_of (h.nd k) (v := p.2) (by rw [← e2]; exact hp)]
          rfl
        show fitsM (withM (set s k t) m) m' = false
        rw [fits_with b0 b1 h0 h1 h2 h3, this, f]
        rfl
    · exact ⟨p, by rw [own_take]; exact MapP.mem_put.2 (.inr ⟨hp, e2⟩), e, f⟩
structure Passed (ltI : Int → Int → Bool) (ltS : ByteArray → ByteArray → Bool) (k : ByteArray) (l : Row) (s : St) (a : Int) (q : St × List Int) : Prop where
  ok : Ok0 q.1
  row : q.1.row = s.row
  oth : ∀ k', k' ≠ k → q.1.own k' = s.own k'
  goal : ∀ t, MapP.get q.1.goal t = if t ∈ q.2 then none else MapP.get s.goal t
  told : ∀ t, t ∈ q.2 → t ∈ l.map (·.1)
  mono : ∀ t m a, 0 ≤ m → m < 4 → t ∉ q.2 → may s t k m a = false → may q.1 t k m a = false
  shut : ∀ pre t m post, (l.filter fun p => !decide (p.1 ∈ q.2)) = pre ++ (t, m) :: post → may q.1 t k m (aheadOf a pre) = false
  mem : ∀ t k', t ∉ q.2 → MapP.get (q.1.own k') t = MapP.get (s.own k') t
theorem pass_ok (k : ByteArray) : ∀ (l : Row) (s : St) (a : Int), Ok0 s → (l.map (·.1)).Nodup → (∀ p ∈ l, 0 ≤ p.2 ∧ p.2 < 4) → Passed ltI ltS k l s a (pass ltI ltS k l s a)
  | [], s, a, h, _, _ => ⟨h, rfl, fun _ _ => rfl, fun t => by simp [pass], (fun t ht => by cases ht), fun _ _ _ _ _ _ h => h, fun pre t m post h => by simp at h, fun _ _ _ => rfl⟩
  | (t, m) :: r, s, a, h, hn, hl => by
    obtain ⟨m0, m1⟩ := hl (t, m) (by simp)
    have hn' := List.nodup_cons.1 hn
    have hl' : ∀ p ∈ r, 0 ≤ p.2 ∧ p.2 < 4 := fun p hp => hl p (List.mem_cons_of_mem _ hp)
    unfold pass
    by_cases hm : may s t k m a = true
    · rw [if_pos hm]
      have h1 : Ok0 (take ltI ltS s t k m) := (h.hold m0 m1 (may_true hm).2).goal (MapP.nd_del h.ndg t)
      have ih := pass_ok k r (take ltI ltS s t k m) a h1 hn'.2 hl'
      generalize pass ltI ltS k r (take ltI ltS s t k m) a = q at ih
      have htq : t ∉ q.2 := fun hq => hn'.1 (ih.told t hq)
      refine ⟨ih.ok, ih.row, fun k' hk => (ih.oth k' hk).trans (own_take_other s t m hk), fun t' => ?_, fun t' ht' => ?_, fun t' m' a' x0 x1 ht' hf => ?_, fun pre t' m' post he => ?_, fun t' k' ht' => ?_⟩
      · rw [ih.goal, show (take ltI ltS s t k m).goal = MapP.del s.goal t from rfl, MapP.get_del]
        by_cases e : t' = t
        · subst e; simp
        · simp [e]
      · rcases List.mem_cons.1 ht' with rfl | ht'
        · simp
        · exact List.mem_cons_of_mem _ (ih.told t' ht')
      · simp only [List.mem_cons, not_or] at ht'
        exact ih.mono t' m' a' x0 x1 ht'.2 (may_mono h m0 m1 x0 x1 ht'.1 hf)
      · have e : ((t, m) :: r).filter (fun p => !decide (p.1 ∈ t :: q.2)) = r.filter fun p => !decide (p.1 ∈ q.2) := by
          rw [List.filter_cons_of_neg (by simp)]
          refine List.filter_congr fun p hp => ?_
          have : p.1 ≠ t := fun e => hn'.1 (by rw [← e]; exact List.mem_map.2 ⟨p, hp, rfl⟩)
          simp [this]
        rw [e] at he
        exact ih.shut pre t' m' post he
      · simp only [List.mem_cons, not_or] at ht'
        rw [ih.mem t' k' ht'.2]
        by_cases e : k' = k
        · subst e; rw [own_take, MapP.get_put (h.nd k'), if_neg ht'.1]
        · rw [own_take_other s t m e]
    · rw [if_neg hm]
      have hm' : may s t k m a = false := by simpa using hm
      have ih := pass_ok k r s (withM a m) h hn'.2 hl'
      generalize pass ltI ltS k r s (withM a m) = q at ih
      have htq : t ∉ q.2 := fun hq => hn'.1 (ih.told t hq)
      refine ⟨ih.ok, ih.row, ih.oth, ih.goal, fun t' ht' => List.mem_cons_of_mem _ (ih.told t' ht'), ih.mono, fun pre t' m' post he => ?_, ih.mem⟩
      rw [List.filter_cons_of_pos (by simp [htq])] at he
      cases pre with
      | nil =>
        simp only [List.nil_append, List.cons.injEq, Prod.mk.injEq] at he
        obtain ⟨⟨rfl, rfl⟩, -⟩ := he
        exact ih.mono t m a m0 m1 htq hm'
      | cons y pre =>
        simp only [List.cons_append, List.cons.injEq] at he
        obtain ⟨rfl, he⟩ := he
        exact ih.shut pre t' m' post he
theorem may_own {s s' : St} (h : s'.own k = s.own k) : may s' t k m a = may s t k m a := by unfold may others set; rw [h]
/-- a key's turn -/
theorem grant_ok (h : Ok s) (k : ByteArray) : Ok (grant ltI ltS s k).1 ∧ Shut (grant ltI ltS s k).1 k ∧ (∀ k', k' ≠ k → Shut s k' → Shut (grant ltI ltS s k).1 k') ∧ (∀ t k', MapP.get s.goal t = none → MapP.get ((grant ltI ltS s k).1.own k') t = MapP.get (s.own k') t ∧ MapP.get (grant ltI ltS s k).1.goal t = none) := by
  have hp := pass_ok (ltI := ltI) (ltS := ltS) k (s.row k) s 0 h.toOk0 (h.ndr k) (h.modes k)
  unfold grant
  generalize pass ltI ltS k (s.row k) s 0 = q at hp
  have hgoal : ∀ t, t ∈ q.2 → ∃ m, MapP.get s.goal t = some (k, m) := fun t ht => by
    obtain ⟨p, hp1, rfl⟩ := List.mem_map.1 (hp.told t ht)
    exact ⟨p.2, (h.rows k p.1 p.2).1 hp1⟩
  have hrow : (cut q.1 k).row k = (s.row k).filter fun p => !decide (p.1 ∈ q.2) := by
    unfold cut
    simp only [upd_same]
    rw [hp.row]
    refine List.filter_congr fun p hp1 => ?_
    rw [MapP.has_get, hp.goal]
    have := (h.rows k p.1 p.2).1 hp1
    by_cases e : p.1 ∈ q.2
    · simp [e]
    · simp [e, this]
  have hrowo : ∀ k', k' ≠ k → (cut q.1 k).row k' = s.row k' := fun k' hk => by
    unfold cut
    simp only [upd_other _ _ hk]
    rw [hp.row]
  refine ⟨⟨hp.ok.row, fun k' t m => ?_, fun k' => ?_, fun k' p hp1 => ?_⟩, fun pre t m post he => ?_, fun k' hk hs pre t m post he => ?_, fun t k' ht => ?_⟩
  · show (t, m) ∈ (cut q.1 k).row k' ↔ MapP.get q.1.goal t = some (k', m)
    rw [hp.goal]
    by_cases e : k' = k
    · subst e
      rw [hrow, List.mem_filter, h.rows]
      by_cases e2 : t ∈ q.2
      · simp [e2]
      · simp [e2]
    · rw [hrowo k' e, h.rows]
      by_cases e2 : t ∈ q.2
      · obtain ⟨m', hm'⟩ := hgoal t e2
        simp only [e2, if_true, hm', Option.some.injEq, Prod.mk.injEq, reduceCtorEq, iff_false, not_and]
        intro e3
        exact absurd e3.symm e
      · simp [e2]
  · show (((cut q.1 k).row k').map (·.1)).Nodup
    by_cases e : k' = k
    · subst e
      rw [hrow]
      exact List.Sublist.nodup (List.Sublist.map _ List.filter_sublist) (h.ndr k')
    · rw [hrowo k' e]; exact h.ndr k'
  · have hp2 : p ∈ (cut q.1 k).row k' := hp1
    by_cases e : k' = k
    · subst e
      rw [hrow] at hp2
      exact h.modes k' p (List.mem_filter.1 hp2).1
    · rw [hrowo k' e] at hp2; exact h.modes k' p hp2
  · have he2 : (cut q.1 k).row k = pre ++ (t, m) :: post := he
    rw [hrow] at he2
    exact hp.shut pre t m post he2
  · have he2 : (cut q.1 k).row k' = pre ++ (t, m) :: post := he
    rw [hrowo k' hk] at he2
    rw [may_own (s := s) (show (cut q.1 k).own k' = s.own k' from hp.oth k' hk)]
    exact hs pre t m post he2
  · have ht2 : t ∉ q.2 := fun hq => by obtain ⟨m', hm'⟩ := hgoal t hq; rw [ht] at hm'; cases hm'
    refine ⟨hp.mem t k' ht2, ?_⟩
    show MapP.get q.1.goal t = none
    rw [hp.goal, ht]
    simp
/-- all whose turn might have come -/
theorem grantAll_ok : ∀ (l : List ByteArray) {s : St}, Ok s → (∀ k, k ∉ l → Shut s k) → Ok (grantAll ltI ltS l s).1 ∧ (∀ k, Shut (grantAll ltI ltS l s).1 k) ∧ (∀ t k', MapP.get s.goal t = none → MapP.get ((grantAll ltI ltS l s).1.own k') t = MapP.get (s.own k') t ∧ MapP.get (grantAll ltI ltS l s).1.goal t = none)
  | [], s, h, hs => ⟨h, fun k => hs k (by simp), fun _ _ h => ⟨rfl, h⟩⟩
  | k :: r, s, h, hs => by
    obtain ⟨g1, g2, g3, g4⟩ := grant_ok (ltI := ltI) (ltS := ltS) h k
    obtain ⟨r1, r2, r3⟩ := grantAll_ok r g1 (fun k' hk => by
      by_cases e : k' = k
      · subst e; exact g2
      · exact g3 k' e (hs k' (by simp [e, hk])))
    refine ⟨r1, r2, fun t k' ht => ?_⟩
    obtain ⟨a1, a2⟩ := g4 t k' ht
    obtain ⟨b1, b2⟩ := r3 t k' a2
    exact ⟨b1.trans a1, b2⟩
/-- one waits no more -/
theorem leave_ok (h : Ok s) (t : Int) : Ok (leave s t).1 ∧ (∀ k, k ∉ (leave s t).2 → Shut s k → Shut (leave s t).1 k) ∧ (leave s t).1.own = s.own ∧ (leave s t).1.mem = s.mem ∧ (∀ t', MapP.get (leave s t).1.goal t' = if t' = t then none else MapP.get s.goal t') := by
  unfold leave
  cases hg : MapP.get s.goal t with
  | none => exact ⟨h, fun _ _ h => h, rfl, rfl, fun t' => by
      by_cases e : t' = t
      · subst e; simp [hg]
      · simp [e]⟩
  | some km =>
    obtain ⟨k, m⟩ := km
    have hgd : ∀ t', MapP.get (MapP.del s.goal t) t' = if t' = t then none else MapP.get s.goal t' := fun t' => MapP.get_del t t'
    have hrow : ∀ k' p, p ∈ (upd s.row k ((s.row k).filter fun p => !decide (p = (t, m)))) k' ↔ p ∈ s.row k' ∧ (k' = k → p ≠ (t, m)) := fun k' p => by
      by_cases e : k' = k
      · subst e; rw [upd_same, List.mem_filter]; simp
      · rw [upd_other _ _ e]; simp [e]
    refine ⟨⟨(h.toOk0.goal (MapP.nd_del h.ndg t)).row, fun k' t' m' => ?_, fun k' => ?_, fun k' p hp => h.modes k' p ((hrow k' p).1 hp).1⟩, fun k' hk hs pre t' m' post he => ?_, rfl, rfl, hgd⟩
    · show (t', m') ∈ (upd s.row k _) k' ↔ MapP.get (MapP.del s.goal t) t' = some (k', m')
      rw [hrow, hgd, h.rows]
      by_cases e : t' = t
      · subst e
        rw [hg]
        simp only [if_true, Option.some.injEq, Prod.mk.injEq, reduceCtorEq, iff_false, not_and]
        rintro ⟨rfl, rfl⟩ h2
        exact absurd rfl (h2 rfl)
      · simp only [e, if_false, ne_eq, Prod.mk.injEq, false_and, not_false_eq_true, implies_true, and_true]
    · show (((upd s.row k _) k').map (·.1)).Nodup
      by_cases e : k' = k
      · subst e; rw [upd_same]; exact List.Sublist.nodup (List.Sublist.map _ List.filter_sublist) (h.ndr k')
      · rw [upd_other _ _ e]; exact h.ndr k'
    · have hne : k' ≠ k := fun e => hk (by simp [e])
      have he2 : (upd s.row k ((s.row k).filter fun p => !decide (p = (t, m)))) k' = pre ++ (t', m') :: post := he
      rw [upd_other _ _ hne] at he2
      exact hs pre t' m' post he2
/-- keys are let go of -/
theorem drop_ok (h : Ok s) (t : Int) (k : ByteArray) : Ok (drop s t k) ∧ (∀ k', k' ≠ k → Shut s k' → Shut (drop s t k) k') ∧ (drop s t k).goal = s.goal ∧ (∀ t' k', MapP.get ((drop s t k).own k') t' = if k' = k ∧ t' = t then none else MapP.get (s.own k') t') := by
  refine ⟨⟨h.toOk0.drop, h.rows, h.ndr, h.modes⟩, fun k' hk hs pre t' m' post he => ?_, rfl, fun t' k' => ?_⟩
  · rw [may_own (s := s) (show (drop s t k).own k' = s.own k' from by unfold drop; simp only [upd_other _ _ hk])]
    exact hs pre t' m' post he
  · unfold drop
    by_cases e : k' = k
    · subst e
      simp only [upd_same, true_and]
      rw [MapP.get_del]
    · simp only [upd_other _ _ e, e, false_and, if_false]
theorem drops_ok (t : Int) : ∀ (l : List ByteArray) {s : St}, Ok s → Ok (drops s t l) ∧ (∀ k', k' ∉ l → Shut s k' → Shut (drops s t l) k') ∧ (drops s t l).goal = s.goal ∧ (∀ t' k', (k' ∈ l ∧ t' = t → MapP.get ((drops s t l).own k') t' = none) ∧ (¬ (k' ∈ l ∧ t' = t) → MapP.get ((drops s t l).own k') t' = MapP.get (s.own k') t'))
  | [], s, h => ⟨h, fun _ _ h => h, rfl, fun _ _ => ⟨(fun h => by cases h.1), fun _ => rfl⟩⟩
  | k :: r, s, h => by
    obtain ⟨d1, d2, d3, d4⟩ := drop_ok h t k
    obtain ⟨r1, r2, r3, r4⟩ := drops_ok t r d1
    refine ⟨r1, fun k' hk hs => ?_, r3.trans d3, fun t' k' => ?_⟩
    · simp only [List.mem_cons, not_or] at hk
      exact r2 k' hk.2 (d2 k' hk.1 hs)
    · obtain ⟨x1, x2⟩ := r4 t' k'
      have hd : drops s t (k :: r) = drops (drop s t k) t r := rfl
      rw [hd]
      refine ⟨fun hm => ?_, fun hm => ?_⟩
      · by_cases e : k' ∈ r
        · exact x1 ⟨e, hm.2⟩
        · rw [x2 (fun h => e h.1), d4, if_pos ⟨(List.mem_cons.1 hm.1).resolve_right e, hm.2⟩]
      · rw [x2 (fun h => hm ⟨List.mem_cons_of_mem _ h.1, h.2⟩), d4, if_neg (fun h => hm ⟨by rw [h.1]; simp, h.2⟩)]
end
end LockP
end Go.Proofs.YtkkfabnehhamdaaDoor
end
