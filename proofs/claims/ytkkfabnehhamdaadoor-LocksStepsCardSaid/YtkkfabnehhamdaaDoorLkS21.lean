/-
  Parts of the proof of LocksSteps.
-/
import Derived.Test.YtkkfabnehhamdaaDoorLkS18
section
namespace Go.Proofs.YtkkfabnehhamdaaDoor.LockP
open ModesP
set_option linter.unusedVariables false
set_option linter.unusedSectionVars false
/-- pairs of one and a key, each once -/
def uniq (l : List H3) : List (Int × ByteArray) := l.foldl (fun acc e => if acc.any (fun p => decide (p = (e.txn, e.key))) then acc else acc ++ [(e.txn, e.key)]) []
def lenR (x : RT) : Nat := (uniq x.h).length
theorem uniq_snoc (l : List H3) (e : H3) : uniq (l ++ [e]) = if (uniq l).any (fun p => decide (p = (e.txn, e.key))) then uniq l else uniq l ++ [(e.txn, e.key)] := by
  unfold uniq
  rw [List.foldl_append]
  rfl
theorem any_mem {l : List (Int × ByteArray)} {q : Int × ByteArray} : l.any (fun p => decide (p = q)) = true ↔ q ∈ l := by
  rw [List.any_eq_true]
  exact ⟨fun ⟨p, hp, e⟩ => by simp at e; rw [← e]; exact hp, fun h => ⟨q, h, by simp⟩⟩
theorem uniq_fold : ∀ (l : List H3) (acc : List (Int × ByteArray)), acc.Nodup → (l.foldl (fun acc e => if acc.any (fun p => decide (p = (e.txn, e.key))) then acc else acc ++ [(e.txn, e.key)]) acc).Nodup ∧
    ∀ q, q ∈ l.foldl (fun acc e => if acc.any (fun p => decide (p = (e.txn, e.key))) then acc else acc ++ [(e.txn, e.key)]) acc ↔ q ∈ acc ∨ ∃ e ∈ l, (e.txn, e.key) = q
  | [], acc, h => ⟨h, fun q => by simp⟩
  | e :: r, acc, h => by
    rw [List.foldl_cons]
    by_cases hc : acc.any (fun p => decide (p = (e.txn, e.key))) = true
    · rw [if_pos hc]
      obtain ⟨i1, i2⟩ := uniq_fold r acc h
      refine ⟨i1, fun q => ?_⟩
      rw [i2 q]
      constructor
      · rintro (h1 | ⟨y, hy, e1⟩)
        · exact .inl h1
        · exact .inr ⟨y, List.mem_cons_of_mem _ hy, e1⟩
      · rintro (h1 | ⟨y, hy, e1⟩)
        · exact .inl h1
        · rcases List.mem_cons.1 hy with rfl | hy
          · exact .inl (by rw [← e1]; exact any_mem.1 hc)
          · exact .inr ⟨y, hy, e1⟩
    · rw [if_neg hc]
      have hn : (e.txn, e.key) ∉ acc := fun hm => hc (any_mem.2 hm)
      obtain ⟨i1, i2⟩ := uniq_fold r (acc ++ [(e.txn, e.key)]) (List.nodup_append.2 ⟨h, by simp, fun a ha b hb => by
        rw [List.mem_singleton] at hb
        subst hb
        rintro rfl
        exact hn ha⟩)
      refine ⟨i1, fun q => ?_⟩
      rw [i2 q, List.mem_append, List.mem_singleton]
      constructor
      · rintro ((h1 | rfl) | ⟨y, hy, e1⟩)
        · exact .inl h1
        · exact .inr ⟨e, by simp, rfl⟩
        · exact .inr ⟨y, List.mem_cons_of_mem _ hy, e1⟩
      · rintro (h1 | ⟨y, hy, e1⟩)
        · exact .inl (.inl h1)
        · rcases List.mem_cons.1 hy with rfl | hy
          · exact .inl (.inr e1.symm)
          · exact .inr ⟨y, hy, e1⟩
theorem uniq_spec (l : List H3) : (uniq l).Nodup ∧ ∀ q, q ∈ uniq l ↔ ∃ e ∈ l, (e.txn, e.key) = q := by
  obtain ⟨h1, h2⟩ := uniq_fold l [] List.nodup_nil
  exact ⟨h1, fun q => (h2 q).trans (by simp)⟩
/-- one more is new where none ahead is its like -/
theorem uniq_next {l : List H3} {i : Nat} {e : H3} (h : l[i]? = some e) : (uniq (l.take (i + 1))).length = (uniq (l.take i)).length + if (l.take i).any (fun p => decide (p.txn = e.txn) && decide (p.key = e.key)) then 0 else 1 := by
  rw [List.take_add_one, h, Option.toList_some, uniq_snoc]
  have : (uniq (l.take i)).any (fun p => decide (p = (e.txn, e.key))) = (l.take i).any (fun p => decide (p.txn = e.txn) && decide (p.key = e.key)) := by
    rw [Bool.eq_iff_iff, any_mem, (uniq_spec _).2, List.any_eq_true]
    constructor
    · rintro ⟨y, hy, e1⟩
      injection e1 with e1 e2
      exact ⟨y, hy, by simp [e1, e2]⟩
    · rintro ⟨y, hy, e1⟩
      simp at e1
      exact ⟨y, hy, by rw [e1.1, e1.2]⟩
  rw [this]
  split
  · rfl
  · simp
section
variable {s : St} {x : RT}
theorem flat_nodup {f : Int → List ByteArray} (hf : ∀ u, (f u).Nodup) : ∀ us : List Int, us.Nodup → (us.flatMap fun u => (f u).map fun k => (u, k)).Nodup
  | [], _ => by simp
  | u :: r, h => by
    have h' := List.nodup_cons.1 h
    rw [List.flatMap_cons, List.nodup_append]
    refine ⟨?_, flat_nodup hf r h'.2, fun a ha b hb => ?_⟩
    · exact List.Pairwise.map _ (fun a b hab e => hab (by injection e)) (hf u)
    · obtain ⟨k, hk, rfl⟩ := List.mem_map.1 ha
      obtain ⟨v, hv, hb⟩ := List.mem_flatMap.1 hb
      obtain ⟨k2, hk2, rfl⟩ := List.mem_map.1 hb
      intro e
      injection e with e
      exact h'.1 (by rw [e]; exact hv)
theorem flat_len (f : Int → List ByteArray) : ∀ us : List Int, (us.flatMap fun u => (f u).map fun k => (u, k)).length = (us.map fun u => (f u).length).sum
  | [] => rfl
  | u :: r => by rw [List.flatMap_cons, List.length_append, List.length_map, flat_len f r, List.map_cons, List.sum_cons]
theorem len_sim (h : Ok s) (hs : Sim s x) (us : List Int) (hn : us.Nodup) (hc : ∀ u, s.mem u ≠ [] → u ∈ us) : (us.map fun u => (s.mem u).length).sum = lenR x := by
  have hl := flat_len (fun u => (s.mem u).map (fun p => p.1)) us
  have hnd := flat_nodup (f := fun u => (s.mem u).map (fun p => p.1)) (fun u => show ((s.mem u).map (·.1)).Nodup from h.ndm u) us hn
  have hp : (us.flatMap fun u => ((s.mem u).map (·.1)).map fun k => (u, k)).Perm (uniq x.h) := (List.perm_ext_iff_of_nodup hnd (uniq_spec x.h).1).2 fun q => by
    rw [(uniq_spec x.h).2, List.mem_flatMap]
    have key : ∀ u k, MapP.has (s.mem u) k = true ↔ ∃ e ∈ x.h, at3 u k e = true := fun u k => by
      rw [h.mems, MapP.has_get, ← own_get h.toOk0 hs.toSimH (k := k) (u := u)]
      cases MapP.get (s.own k) u <;> simp
    constructor
    · rintro ⟨u, hu, hq⟩
      obtain ⟨k, hk, rfl⟩ := List.mem_map.1 hq
      obtain ⟨e, he, ha⟩ := (key u k).1 (mem_keys.1 hk)
      exact ⟨e, he, by rw [(at3_iff.1 ha).1, (at3_iff.1 ha).2]⟩
    · rintro ⟨e, he, rfl⟩
      have hh := (key e.txn e.key).2 ⟨e, he, at3_iff.2 ⟨rfl, rfl⟩⟩
      have hk := mem_keys.2 hh
      exact ⟨e.txn, hc _ (fun e1 => by rw [e1] at hk; cases hk), List.mem_map.2 ⟨e.key, hk, rfl⟩⟩
  have := hp.length_eq
  rw [hl] at this
  simp only [List.length_map] at this
  exact this
end
end Go.Proofs.YtkkfabnehhamdaaDoor.LockP
end
