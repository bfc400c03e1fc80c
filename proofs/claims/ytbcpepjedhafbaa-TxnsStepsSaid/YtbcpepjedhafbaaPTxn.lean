/-
  Transactions that are under way, as plain data: a rising list. No program in sight.
-/
import Derived.Test.YtbcpepjedhafbaaPTypes
import Derived.Maps.OwnSet
import Derived.Maps.RangeWalk
namespace Go.Proofs.Ytbcpepjedhafbaa
open Go.RowKit Go.Maps
set_option linter.unusedVariables false
/-- a transaction -/
structure TxnX where
  id : Int
  first : Int
  last : Int
  kept : Int
namespace TxnP
def zero : TxnX := ⟨0, 0, 0, 0⟩
def ins (t : TxnX) : List TxnX → List TxnX
  | [] => [t]
  | y :: r => if t.id < y.id then t :: y :: r else y :: ins t r
def del (L : List TxnX) (k : Int) : List TxnX := L.filter fun y => decide (y.id ≠ k)
def put (L : List TxnX) (t : TxnX) : List TxnX := ins t (del L t.id)
def has (L : List TxnX) (k : Int) : Bool := L.any fun y => decide (y.id = k)
def get (L : List TxnX) (k : Int) : TxnX := (L.find? fun y => decide (y.id = k)).getD zero
def Rises (L : List TxnX) : Prop := L.Pairwise fun x y => x.id < y.id
/-- all numbers from 1 on, below the next -/
def Below (L : List TxnX) (nx : Int) : Prop := ∀ t ∈ L, 1 ≤ t.id ∧ t.id < nx
/-- the numbers of the entries fit -/
def In (t : TxnX) : Prop := In64 t.id ∧ In64 t.first ∧ In64 t.last ∧ In64 t.kept
theorem mem_ins {t y : TxnX} : ∀ {L : List TxnX}, y ∈ ins t L ↔ y = t ∨ y ∈ L
  | [] => by simp [ins]
  | z :: r => by
    unfold ins
    split
    · simp
    · simp only [List.mem_cons, mem_ins (L := r)]
      constructor
      · rintro (h | h | h)
        · exact .inr (.inl h)
        · exact .inl h
        · exact .inr (.inr h)
      · rintro (h | h | h)
        · exact .inr (.inl h)
        · exact .inl h
        · exact .inr (.inr h)
theorem mem_del {L : List TxnX} {k : Int} {y : TxnX} : y ∈ del L k ↔ y ∈ L ∧ y.id ≠ k := by simp [del]
theorem mem_put {L : List TxnX} {t y : TxnX} : y ∈ put L t ↔ y = t ∨ (y ∈ L ∧ y.id ≠ t.id) := by rw [put, mem_ins, mem_del]
theorem rises_ins {t : TxnX} : ∀ {L : List TxnX}, Rises L → (∀ y ∈ L, y.id ≠ t.id) → Rises (ins t L)
  | [], _, _ => List.pairwise_singleton _ _
  | z :: r, h, hn => by
    unfold ins
    have hz := List.pairwise_cons.1 h
    split
    · rename_i hlt
      exact List.pairwise_cons.2 ⟨fun y hy => by rcases List.mem_cons.1 hy with rfl | hy; exact hlt; have := hz.1 y hy; omega, h⟩
    · rename_i hlt
      refine List.pairwise_cons.2 ⟨fun y hy => ?_, rises_ins hz.2 (fun y hy => hn y (by simp [hy]))⟩
      rcases mem_ins.1 hy with rfl | hy
      · have := hn z (by simp); omega
      · exact hz.1 y hy
theorem rises_del {L : List TxnX} (h : Rises L) (k : Int) : Rises (del L k) := h.filter _
theorem rises_put {L : List TxnX} (h : Rises L) (t : TxnX) : Rises (put L t) := rises_ins (rises_del h _) (fun y hy => (mem_del.1 hy).2)
theorem has_iff {L : List TxnX} {k : Int} : has L k = true ↔ ∃ t ∈ L, t.id = k := by simp [has]
theorem has_false {L : List TxnX} {k : Int} : has L k = false ↔ ∀ t ∈ L, t.id ≠ k := by
  rw [← Bool.not_eq_true, has_iff]
  simp
theorem del_none {L : List TxnX} {k : Int} (h : has L k = false) : del L k = L := by
  unfold del
  rw [List.filter_eq_self]
  intro y hy
  simpa using has_false.1 h y hy
theorem get_mem {L : List TxnX} {k : Int} (h : has L k = true) : get L k ∈ L ∧ (get L k).id = k := by
  obtain ⟨t, ht, e⟩ := has_iff.1 h
  cases hf : L.find? (fun y => decide (y.id = k)) with
  | none => rw [List.find?_eq_none] at hf; have := hf t ht; simp [e] at this
  | some u =>
    have h1 := List.find?_some hf
    have h2 := List.mem_of_find?_eq_some hf
    unfold get
    rw [hf]
    exact ⟨h2, by simpa using h1⟩
theorem get_none {L : List TxnX} {k : Int} (h : has L k = false) : get L k = zero := by
  unfold get
  rw [List.find?_eq_none.2 (by intro y hy; have := has_false.1 h y hy; simpa using this)]
  rfl
theorem rises_inj {L : List TxnX} (h : Rises L) {x y : TxnX} (hx : x ∈ L) (hy : y ∈ L) (e : x.id = y.id) : x = y := by
  induction L with
  | nil => cases hx
  | cons z r ih =>
    have hz := List.pairwise_cons.1 h
    rcases List.mem_cons.1 hx with hx1 | hx1
    · rcases List.mem_cons.1 hy with hy1 | hy1
      · rw [hx1, hy1]
      · have := hz.1 y hy1; rw [hx1] at e; omega
    · rcases List.mem_cons.1 hy with hy1 | hy1
      · have := hz.1 x hx1; rw [hy1] at e; omega
      · exact ih hz.2 hx1 hy1
theorem get_of {L : List TxnX} (h : Rises L) {t : TxnX} (ht : t ∈ L) : get L t.id = t := by
  have h1 := get_mem (has_iff.2 ⟨t, ht, rfl⟩)
  exact rises_inj h h1.1 ht h1.2
/-! ### as a map's datum -/
def key (k : Int) : Lit := .int .i64 k
def enc (t : TxnX) : DataW Unit := .agg [.lit (.int .i64 t.id), .lit (.int .i64 t.first), .lit (.int .i64 t.last), .lit (.int .i64 t.kept)]
def ent (t : TxnX) : Lit × DataW Unit := (key t.id, enc t)
def dat (L : List TxnX) : DataW Unit := .map (L.map ent)
theorem same_key (a b : Int) : (key a).sameKey (key b) = decide (a = b) := by simp [key, Lit.sameKey]
theorem before_key (a b : Int) : (key a).before (key b) = decide (a < b) := by simp [key, Lit.before]
theorem has_dat (L : List TxnX) (k : Int) : Maps.has (dat L) (key k) = has L k := by
  unfold dat has
  rw [Maps.has_eq, List.any_map]
  congr 1
  funext y
  exact same_key y.id k
theorem find_dat (L : List TxnX) (k : Int) : (L.map ent).find? (fun p => p.1.sameKey (key k)) = (L.find? fun y => decide (y.id = k)).map ent := by
  induction L with
  | nil => rfl
  | cons y r ih =>
    rw [List.map_cons, List.find?_cons, List.find?_cons]
    have e : (ent y).1.sameKey (key k) = decide (y.id = k) := same_key y.id k
    rw [e]
    split
    · rfl
    · exact ih
theorem at_dat (L : List TxnX) (k : Int) : (dat L).atKey (key k) (enc zero) = enc (get L k) := by
  unfold dat DataW.atKey get
  dsimp only
  rw [find_dat]
  cases L.find? (fun y => decide (y.id = k)) <;> rfl
theorem filter_dat (L : List TxnX) (k : Int) : (L.map ent).filter (fun p => !p.1.sameKey (key k)) = (del L k).map ent := by
  unfold del
  induction L with
  | nil => rfl
  | cons y r ih =>
    rw [List.map_cons, List.filter_cons, List.filter_cons, ih]
    have e : (ent y).1.sameKey (key k) = decide (y.id = k) := same_key y.id k
    rw [e]
    by_cases h : y.id = k
    · simp [h]
    · simp [h]
theorem ins_dat (t : TxnX) : ∀ L : List TxnX, DataW.insert (ent t) (L.map ent) = (ins t L).map ent
  | [] => rfl
  | y :: r => by
    rw [List.map_cons]
    unfold DataW.insert ins
    have e : (ent t).1.before (ent y).1 = decide (t.id < y.id) := before_key t.id y.id
    rw [e]
    by_cases h : t.id < y.id
    · simp [h]
    · simp [h, ins_dat t r]
theorem del_dat (L : List TxnX) (k : Int) : (dat L).del (key k) = dat (del L k) := by
  unfold dat DataW.del
  dsimp only
  rw [filter_dat]
theorem put_dat (L : List TxnX) (t : TxnX) : (dat L).put (key t.id) (enc t) = dat (put L t) := by
  unfold dat DataW.put put
  dsimp only
  rw [filter_dat]
  exact congrArg DataW.map (ins_dat t _)
theorem size_dat (L : List TxnX) : Maps.size (dat L) = L.length := by simp [dat, Maps.size]
/-- how an element's value reads -/
def rdL : List Value → Option (DataW Unit × List MemPlace)
  | [.int .i64 a, .int .i64 b, .int .i64 c, .int .i64 d] => some (enc ⟨a, b, c, d⟩, [])
  | _ => none
def rd : Value → Option (DataW Unit × List MemPlace)
  | .agg cs => rdL cs.toList
  | _ => none
def val (t : TxnX) : Value := .agg #[.int .i64 t.id, .int .i64 t.first, .int .i64 t.last, .int .i64 t.kept]
theorem rd_val (t : TxnX) : rd (val t) = some (enc t, []) := rfl
theorem rd_inv {v : Value} {y : DataW Unit × List MemPlace} (h : rd v = some y) : ∃ t, v = val t ∧ y = (enc t, []) := by
  unfold rd at h
  split at h
  · rename_i cs
    unfold rdL at h
    split at h
    · rename_i a b c d e
      cases h
      have e2 : cs = #[.int .i64 a, .int .i64 b, .int .i64 c, .int .i64 d] := Array.ext' e
      exact ⟨⟨a, b, c, d⟩, by rw [e2]; rfl, rfl⟩
    · cases h
  · cases h
theorem enc_inj {t u : TxnX} (h : enc t = enc u) : t = u := by
  obtain ⟨a, b, c, d⟩ := t
  obtain ⟨a', b', c', d'⟩ := u
  simp only [enc, DataW.agg.injEq, List.cons.injEq, DataW.lit.injEq, Lit.int.injEq, true_and, and_true] at h
  obtain ⟨rfl, rfl, rfl, rfl⟩ := h
  rfl
theorem rd_enc {v : Value} {t : TxnX} {ps : List MemPlace} (h : rd v = some (enc t, ps)) : v = val t := by
  obtain ⟨u, rfl, e⟩ := rd_inv h
  simp only [Prod.mk.injEq] at e
  rw [enc_inj e.1]
/-- the entries of a rising list, as the map tells them -/
theorem at_ent {L : List TxnX} {k : Int} {d : DataW Unit} (h : ∀ z, (dat L).atKey (key k) z = d) : ∃ t ∈ L, t.id = k ∧ d = enc t := by
  unfold dat DataW.atKey at h
  dsimp only at h
  rw [find_dat] at h
  cases hf : L.find? (fun y => decide (y.id = k)) with
  | none =>
    rw [hf] at h
    have h1 := h .nil
    have h2 := h (.lit (.bool true))
    rw [← h2] at h1
    cases h1
  | some t =>
    rw [hf] at h
    refine ⟨t, List.mem_of_find?_eq_some hf, by have := List.find?_some hf; simpa using this, ?_⟩
    exact (h .nil).symm
end TxnP
end Go.Proofs.Ytbcpepjedhafbaa
