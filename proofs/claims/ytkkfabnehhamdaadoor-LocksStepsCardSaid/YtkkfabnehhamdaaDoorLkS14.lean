/-
  Parts of the proof of LocksSteps.
-/
import Derived.Lib.SlicesCompact
import Derived.Test.YtkkfabnehhamdaaDoorLkS11
import Derived.Test.YtkkfabnehhamdaaDoorLkS13
import Derived.Sort.OwnSorted
import Derived.Sort.OwnSortedInts
import Derived.Lib.OwnBridge
import Derived.Deep.OwnRows
import Derived.Lib.RowBridge
section
namespace Go.Proofs.YtkkfabnehhamdaaDoor.SortP
open Go.Lib
abbrev T := List UInt8
theorem lt_of (a b : T) (h : a ≤ b) (hn : a ≠ b) : a < b := by
  rcases Decidable.em (a < b) with h1 | h1
  · exact h1
  · exact absurd (List.le_antisymm h (List.not_lt.1 h1)) hn
theorem lt_ne {a b : T} (h : a < b) : a ≠ b := by
  rintro rfl; exact List.lt_irrefl _ h
theorem lt_tr {a b c : T} (h : a < b) (h' : b < c) : a < c := List.lt_trans h h'
/-- strictly rising lists of the same members are the same -/
theorem ext {l l' : List T} (h : l.Pairwise (· < ·)) (h' : l'.Pairwise (· < ·)) (hm : ∀ x, x ∈ l ↔ x ∈ l') : l = l' := by
  have hp : l.Perm l' := (List.perm_ext_iff_of_nodup (h.imp lt_ne) (h'.imp lt_ne)).2 hm
  exact List.Perm.eq_of_pairwise (le := (· < ·)) (fun a b _ _ h1 h2 => absurd (lt_tr h1 h2) (List.lt_irrefl _)) h h' hp
theorem upTo (d : Array T) (hs : ∀ i j, i ≤ j → j < d.size → d[i]! ≤ d[j]!) : ∀ m, m ≤ d.size → (compactUpTo d m).Pairwise (· < ·) ∧ ∀ x, x ∈ compactUpTo d m ↔ ∃ j, j < m ∧ x = d[j]!
  | 0, _ => by simp [compactUpTo]
  | m + 1, hm => by
    obtain ⟨h1, h2⟩ := upTo d hs m (by omega)
    rw [compactUpTo_succ]
    by_cases hk : keeps d m = true
    · rw [if_pos hk]
      refine ⟨List.pairwise_append.2 ⟨h1, by simp, fun a ha b hb => ?_⟩, fun x => ?_⟩
      · simp only [List.mem_singleton] at hb
        subst hb
        obtain ⟨j, hj, rfl⟩ := (h2 a).1 ha
        have hne : d[m - 1]! ≠ d[m]! := by
          intro e
          simp [keeps] at hk
          rcases hk with hk | hk
          · omega
          · exact hk e.symm
        have ha := lt_of _ _ (hs (m - 1) m (by omega) (by omega)) hne
        have hb := hs j (m - 1) (by omega) (by omega)
        exact List.lt_of_le_of_lt hb ha
      · rw [List.mem_append, h2, List.mem_singleton]
        constructor
        · rintro (⟨j, hj, rfl⟩ | rfl)
          · exact ⟨j, by omega, rfl⟩
          · exact ⟨m, by omega, rfl⟩
        · rintro ⟨j, hj, rfl⟩
          by_cases e : j = m
          · exact Or.inr (by rw [e])
          · exact Or.inl ⟨j, by omega, rfl⟩
    · rw [if_neg hk, List.append_nil]
      refine ⟨h1, fun x => ?_⟩
      rw [h2]
      constructor
      · rintro ⟨j, hj, rfl⟩
        exact ⟨j, by omega, rfl⟩
      · rintro ⟨j, hj, rfl⟩
        by_cases e : j = m
        · subst e
          simp [keeps] at hk
          exact ⟨j - 1, by omega, hk.2⟩
        · exact ⟨j, by omega, rfl⟩
/-- what Sort and Compact give -/
def sort (l : List T) : List T := compact (l.mergeSort fun x y => decide (x ≤ y))
theorem sort_spec (l : List T) : (sort l).Pairwise (· < ·) ∧ ∀ x, x ∈ sort l ↔ x ∈ l := by
  have tr : ∀ a b c : T, decide (a ≤ b) = true → decide (b ≤ c) = true → decide (a ≤ c) = true := fun a b c h1 h2 => by simp only [decide_eq_true_eq] at *; exact List.le_trans h1 h2
  have to : ∀ a b : T, (decide (a ≤ b) || decide (b ≤ a)) = true := fun a b => by simp only [Bool.or_eq_true, decide_eq_true_eq]; exact List.le_total a b
  have hp := List.pairwise_mergeSort tr to l
  have hm : ∀ x, x ∈ l.mergeSort (fun x y => decide (x ≤ y)) ↔ x ∈ l := fun x => List.mem_mergeSort
  unfold sort
  generalize l.mergeSort (fun x y => decide (x ≤ y)) = m at hp hm
  unfold compact
  have hs : ∀ i j, i ≤ j → j < m.toArray.size → m.toArray[i]! ≤ m.toArray[j]! := by
    intro i j hij hj
    have hj' : j < m.length := by simpa using hj
    rw [getElem!_pos m.toArray i (by simp; omega), getElem!_pos m.toArray j (by simp; omega)]
    simp only [List.getElem_toArray]
    by_cases e : i = j
    · subst e; exact List.le_refl _
    · have := List.pairwise_iff_getElem.1 hp i j (by omega) hj' (by omega)
      simpa using this
  obtain ⟨h1, h2⟩ := upTo m.toArray hs m.length (by simp)
  refine ⟨h1, fun x => ?_⟩
  rw [h2, ← hm x, List.mem_iff_getElem]
  constructor
  · rintro ⟨j, hj, rfl⟩
    exact ⟨j, hj, by rw [getElem!_pos m.toArray j (by simp; omega)]; simp⟩
  · rintro ⟨j, hj, rfl⟩
    exact ⟨j, hj, by rw [getElem!_pos m.toArray j (by simp; omega)]; simp⟩
/-- how many lie ahead of x -/
def place (x : T) : List T → Nat
  | [] => 0
  | y :: l => if y < x then place x l + 1 else 0
/-- one text put in -/
def ins (out : List T) (x : T) : List T := if out[place x out]? = some x then out else out.take (place x out) ++ x :: out.drop (place x out)
theorem ins_spec (x : T) : ∀ out : List T, out.Pairwise (· < ·) → (ins out x).Pairwise (· < ·) ∧ ∀ y, y ∈ ins out x ↔ y = x ∨ y ∈ out
  | [], _ => by simp [ins, place]
  | z :: l, h => by
    obtain ⟨hz, hl⟩ := List.pairwise_cons.1 h
    by_cases hzx : z < x
    · have e : ins (z :: l) x = z :: ins l x := by
        simp only [ins, place, if_pos hzx, List.getElem?_cons_succ, List.take_succ_cons, List.drop_succ_cons]
        split <;> rfl
      obtain ⟨h1, h2⟩ := ins_spec x l hl
      rw [e]
      refine ⟨List.pairwise_cons.2 ⟨fun y hy => ?_, h1⟩, fun y => ?_⟩
      · rcases (h2 y).1 hy with rfl | hy
        · exact hzx
        · exact hz y hy
      · rw [List.mem_cons, h2, List.mem_cons]
        constructor
        · rintro (h | h | h)
          · exact Or.inr (Or.inl h)
          · exact Or.inl h
          · exact Or.inr (Or.inr h)
        · rintro (h | h | h)
          · exact Or.inr (Or.inl h)
          · exact Or.inl h
          · exact Or.inr (Or.inr h)
    · by_cases e : z = x
      · subst e
        have e : ins (z :: l) z = z :: l := by simp [ins, place, List.lt_irrefl]
        rw [e]
        exact ⟨h, fun y => by simp⟩
      · have e' : ins (z :: l) x = x :: z :: l := by simp [ins, place, hzx, e]
        have hxz : x < z := lt_of _ _ (List.not_lt.1 hzx) (fun h => e h.symm)
        rw [e']
        refine ⟨List.pairwise_cons.2 ⟨fun y hy => ?_, h⟩, fun y => by simp⟩
        rcases List.mem_cons.1 hy with rfl | hy
        · exact hxz
        · exact lt_tr hxz (hz y hy)
def fold (l : List T) : List T := l.foldl ins []
theorem fold_spec (l : List T) : ∀ out : List T, out.Pairwise (· < ·) → (l.foldl ins out).Pairwise (· < ·) ∧ ∀ y, y ∈ l.foldl ins out ↔ y ∈ l ∨ y ∈ out := by
  induction l with
  | nil => intro out h; exact ⟨h, fun y => by simp⟩
  | cons x l ih =>
    intro out h
    obtain ⟨h1, h2⟩ := ins_spec x out h
    obtain ⟨h3, h4⟩ := ih _ h1
    refine ⟨h3, fun y => ?_⟩
    rw [List.foldl_cons, h4, h2, List.mem_cons]
    constructor
    · rintro (h | h | h)
      · exact Or.inl (Or.inr h)
      · exact Or.inl (Or.inl h)
      · exact Or.inr h
    · rintro ((h | h) | h)
      · exact Or.inr (Or.inl h)
      · exact Or.inl h
      · exact Or.inr (Or.inr h)
theorem sort_eq_fold (l : List T) : sort l = fold l := by
  obtain ⟨h1, h2⟩ := fold_spec l [] List.Pairwise.nil
  exact ext (sort_spec l).1 h1 fun x => by rw [(sort_spec l).2]; exact ((h2 x).trans (by simp)).symm
/-- the place is where all ahead lie below x and the one there does not -/
theorem place_eq (x : T) : ∀ (out : List T) (k : Nat), (∀ j y, j < k → out[j]? = some y → y < x) → k ≤ out.length → (∀ y, out[k]? = some y → ¬ y < x) → place x out = k
  | [], k, _, hk, _ => by simp [place]; simp at hk; omega
  | y :: l, 0, _, _, h2 => by
    have := h2 y rfl
    simp [place, this]
  | y :: l, k + 1, h1, hk, h2 => by
    have hy := h1 0 y (by omega) rfl
    have := place_eq x l k (fun j z hj hz => h1 (j + 1) z (by omega) (by simpa using hz)) (by simpa using hk) (fun z hz => h2 z (by simpa using hz))
    simp [place, hy, this]
end Go.Proofs.YtkkfabnehhamdaaDoor.SortP
end
section
namespace Go.Proofs.YtkkfabnehhamdaaDoor.LockP
open ModesP
set_option linter.unusedVariables false
/-- a text of bytes -/
def txt (l : List UInt8) : ByteArray := ⟨l.toArray⟩
def txts (l : List (List UInt8)) : List ByteArray := l.map txt
def raw (l : List ByteArray) : List (List UInt8) := l.map (·.data.toList)
theorem raw_txts (l : List (List UInt8)) : raw (txts l) = l := by simp [raw, txts, txt, Function.comp_def]
theorem txts_raw (l : List ByteArray) : txts (raw l) = l := by simp [raw, txts, txt, Function.comp_def]
/-- texts, rising, each once -/
def srt (l : List ByteArray) : List ByteArray := txts (SortP.sort (raw l))
theorem mem_srt {l : List ByteArray} {k : ByteArray} : k ∈ srt l ↔ k ∈ l := by
  unfold srt
  constructor
  · intro h
    obtain ⟨x, hx, rfl⟩ := List.mem_map.1 h
    obtain ⟨y, hy, e⟩ := List.mem_map.1 ((SortP.sort_spec (raw l)).2 x |>.1 hx)
    have : txt x = y := by rw [← e]; simp [txt]
    rw [this]; exact hy
  · intro h
    refine List.mem_map.2 ⟨k.data.toList, (SortP.sort_spec (raw l)).2 _ |>.2 (List.mem_map.2 ⟨k, h, rfl⟩), by simp [txt]⟩
section
variable {K α : Type} [DecidableEq K]
theorem len_del {L : MapP.T K α} {k : K} (h : MapP.has L k = true) : (MapP.del L k).length + 1 ≤ L.length := by
  induction L with
  | nil => simp [MapP.has] at h
  | cons p r ih =>
    unfold MapP.del at *
    rw [List.filter_cons]
    by_cases e : p.1 = k
    · have h2 := List.length_filter_le (fun p : K × α => decide (p.1 ≠ k)) r
      rw [if_neg (by simp [e]), List.length_cons]
      omega
    · have hr : MapP.has r k = true := by simpa [MapP.has, e] using h
      have := ih hr
      rw [if_pos (by simp [e]), List.length_cons, List.length_cons]
      omega
theorem len_del_le (L : MapP.T K α) (k : K) : (MapP.del L k).length ≤ L.length := List.length_filter_le _ _
theorem has_del {L : MapP.T K α} {k k' : K} (h : MapP.has L k' = true) (hne : k' ≠ k) : MapP.has (MapP.del L k) k' = true := by
  rw [MapP.has_get] at h ⊢
  rw [MapP.get_del, if_neg hne]
  exact h
end
section
variable {ltI : Int → Int → Bool} {ltS : ByteArray → ByteArray → Bool} {s : St} {t : Int} {k : ByteArray} {m a : Int}
theorem row_len : ∀ (l : Row) (g : MapP.T Int (ByteArray × Int)), (l.map (·.1)).Nodup → (∀ p ∈ l, MapP.has g p.1 = true) → l.length ≤ g.length
  | [], g, _, _ => Nat.zero_le _
  | p :: r, g, hn, hh => by
    have hn' := List.nodup_cons.1 hn
    have h1 := row_len r (MapP.del g p.1) hn'.2 (fun q hq => has_del (hh q (List.mem_cons_of_mem _ hq)) (fun e => hn'.1 (List.mem_map.2 ⟨q, hq, e⟩)))
    have h2 := len_del (hh p (List.mem_cons_self ..))
    rw [List.length_cons]
    omega
theorem pass_len (k : ByteArray) : ∀ (l : Row) (s : St) (a : Int), (l.map (·.1)).Nodup → (∀ p ∈ l, MapP.has s.goal p.1 = true) → (pass ltI ltS k l s a).1.goal.length + (pass ltI ltS k l s a).2.length ≤ s.goal.length
  | [], s, a, _, _ => by simp [pass]
  | (t, m) :: r, s, a, hn, hh => by
    have hn' := List.nodup_cons.1 hn
    unfold pass
    by_cases hm : may s t k m a = true
    · rw [if_pos hm]
      have h1 := pass_len k r (take ltI ltS s t k m) a hn'.2 (fun q hq => has_del (hh q (List.mem_cons_of_mem _ hq)) (fun e => hn'.1 (List.mem_map.2 ⟨q, hq, e⟩)))
      have h2 : (MapP.del s.goal t).length + 1 ≤ s.goal.length := len_del (hh (t, m) (List.mem_cons_self ..))
      have h3 : (take ltI ltS s t k m).goal = MapP.del s.goal t := rfl
      rw [h3] at h1
      simp only [List.length_cons]
      omega
    · rw [if_neg hm]
      exact pass_len k r s (withM a m) hn'.2 (fun q hq => hh q (List.mem_cons_of_mem _ hq))
theorem Ok.has (h : Ok s) (k : ByteArray) : ∀ p ∈ s.row k, MapP.has s.goal p.1 = true := fun p hp => by
  rw [MapP.has_get, (h.rows k p.1 p.2).1 hp]; rfl
theorem Ok.row_len (h : Ok s) (k : ByteArray) : (s.row k).length ≤ s.goal.length := LockP.row_len _ _ (h.ndr k) (h.has k)
theorem Ok.grant_len (h : Ok s) (k : ByteArray) : (grant ltI ltS s k).1.goal.length + (grant ltI ltS s k).2.length ≤ s.goal.length := pass_len k (s.row k) s 0 (h.ndr k) (h.has k)
theorem leave_len (s : St) (t : Int) : (leave s t).1.goal.length ≤ s.goal.length := by
  unfold leave
  split
  · exact Nat.le_refl _
  · exact len_del_le _ _
theorem leave_two (s : St) (t : Int) : (leave s t).2.length ≤ 1 := by
  unfold leave
  split <;> simp
theorem grantAll_len : ∀ (l : List ByteArray) {s : St}, Ok s → (grantAll ltI ltS l s).1.goal.length + (grantAll ltI ltS l s).2.length ≤ s.goal.length
  | [], s, h => by simp [grantAll]
  | k :: r, s, h => by
    have h1 := h.grant_len (ltI := ltI) (ltS := ltS) k
    have h2 := grantAll_len r (grant_ok (ltI := ltI) (ltS := ltS) h k).1
    simp only [grantAll, List.length_append]
    omega
theorem grantAll_snoc (k : ByteArray) : ∀ (l : List ByteArray) (s : St), grantAll ltI ltS (l ++ [k]) s = ((grant ltI ltS (grantAll ltI ltS l s).1 k).1, (grantAll ltI ltS l s).2 ++ (grant ltI ltS (grantAll ltI ltS l s).1 k).2)
  | [], s => by simp [grantAll]
  | x :: r, s => by
    have h := grantAll_snoc k r (grant ltI ltS s x).1
    simp only [List.cons_append, grantAll, h, List.append_assoc]
theorem grantAll_good : ∀ (l : List ByteArray) {s : St}, Ok s → Ok (grantAll ltI ltS l s).1
  | [], s, h => h
  | k :: r, s, h => grantAll_good r (grant_ok (ltI := ltI) (ltS := ltS) h k).1
end
end Go.Proofs.YtkkfabnehhamdaaDoor.LockP
end
section
namespace Go.Proofs.YtkkfabnehhamdaaDoor
open Go.RowKit Go.Maps Go.Shelf Go.Sort LockP
set_option linter.unusedVariables false
set_option linter.unusedSimpArgs false
namespace LockW
theorem strE_flat {w : World} {B : Nat} : ∀ {vs : List (List Value)} {l : List ByteArray}, Rel2 (StrE.rel w B) vs l → vs.flatten = l.map Value.string
  | [], [], _ => rfl
  | [], _ :: _, h => h.elim
  | _ :: _, [], h => h.elim
  | v :: vs, x :: l, h => by
    have h1 : v = [.string x] := h.1
    rw [List.flatten_cons, h1, strE_flat h.2]
    rfl
theorem strE_rel (w : World) (B : Nat) : ∀ l : List ByteArray, Rel2 (StrE.rel w B) (l.map fun x => [.string x]) l
  | [] => trivial
  | x :: l => ⟨rfl, strE_rel w B l⟩
theorem strE_map (l : List ByteArray) : (l.map fun x => [Value.string x]).flatten = l.map Value.string := by
  induction l with
  | nil => rfl
  | cons x l ih => rw [List.map_cons, List.flatten_cons, ih]; rfl
theorem strV_raw (l : List ByteArray) : (raw l).map encStr = l.map Value.string := Lib.map_encStr l
theorem strV_txts (l : List (List UInt8)) : (txts l).map Value.string = l.map encStr := by rw [← strV_raw, raw_txts]
theorem StrE.own {w : World} {T : TypeId} {base n c : Nat} {A : Option Addr} {l : List ByteArray} (h : OwnE StrE T w base A n c l) : w.ownsRow base T 1 (.slice A n c) n ((raw l).map encStr) := by
  obtain ⟨vs, h1, h2⟩ := h
  rw [strV_raw, ← strE_flat h2]
  exact h1
theorem StrE.mk' {w : World} {T : TypeId} {base n c : Nat} {A : Option Addr} {l : List (List UInt8)} (h : w.ownsRow base T 1 (.slice A n c) n (l.map encStr)) : OwnE StrE T w base A n c (txts l) :=
  ⟨(txts l).map fun x => [.string x], by rw [strE_map, strV_txts]; exact h, strE_rel _ _ _⟩
theorem grownBy_putRow {α : Type} [Inhabited α] {enc : α → Value} {w : World} {g q : Nat} {d : Array α} : w.grownBy (putRow enc (Sort.ahead w q) g 0 d) (some g) := by
  refine ⟨rfl, rfl, rfl, by simp [putRow, mapBlock, Sort.ahead], fun k hk hne => ?_⟩
  have : g ≠ k := fun e => hne (by rw [e])
  simp [putRow, mapBlock, Sort.ahead, Array.getElem?_modify, this]
set_option maxRecDepth 100000 in
/-- slices.Sort at texts of the call's own -/
theorem sortS_own (A : Option Addr) (m c base : Nat) (l : List ByteArray) (w : World) (h : OwnE StrE 9 w base A m c l) (hm : m ≤ 2000000) :
    Calls Tryd.prog 59 #[.slice A m c] w fun e w' => e = .returned (.tuple #[]) ∧ OwnE StrE 9 w' base A m c (txts ((raw l).mergeSort fun x y => decide (x ≤ y))) ∧ w.grownBy w' ((Value.slice A 0 0).ownBlock) := by
  have ho := StrE.own h
  have hlen : (raw l).length = m := by simpa using ho.1
  generalize raw l = ss at *
  by_cases h0 : m = 0
  · subst h0
    have hs : ss = [] := List.eq_nil_of_length_eq_zero hlen
    subst hs
    have := Any.slices_Sort_string_none lays190 A c w
    rw [show lays190_ren.f 190 = 59 from rfl] at this
    refine this.mono ?_
    rintro e w' ⟨rfl, rfl⟩
    exact ⟨rfl, by rw [List.mergeSort_nil]; exact StrE.mk' ho, World.grownBy.refl _ _⟩
  · rcases ho.2 with ⟨e, hn⟩ | ⟨g, cap, cur, e, hg, hb, hnc, hm2, hcs, hx⟩
    · omega
    · cases e
      obtain ⟨g', cap', e', -, hgl, -, -, -, hH⟩ := Lib.holds_of_ownsRow ho (by simp)
      cases e'
      have hs := Any.slices_Sort_string lays190 g 0 c ss w hH hgl (by omega)
      rw [hlen, show lays190_ren.f 190 = 59 from rfl] at hs
      refine hs.mono ?_
      rintro e w' ⟨rfl, nn, os, rfl⟩
      refine ⟨rfl, StrE.mk' ?_, grownBy_sorted _⟩
      have := ownsRow_sorted (ss := ss) (n := nn) (os := os) (ts := ss.mergeSort fun x y => decide (x ≤ y)) (by rw [List.length_mergeSort]) hg hb (by rw [hlen]; exact hnc) hm2 hcs
      rw [hlen] at this
      exact this
set_option maxRecDepth 100000 in
/-- slices.Compact at texts of the call's own -/
theorem compS_own (A : Option Addr) (m c base : Nat) (zs : List (List UInt8)) (w : World) (h : OwnE StrE 9 w base A m c (txts zs)) (hm : m ≤ 2000000) :
    Calls Tryd.prog 60 #[.slice A m c] w fun e w' => ∃ n', e = .returned (.slice A n' c) ∧ n' ≤ m ∧ OwnE StrE 9 w' base A n' c (txts (Lib.compact zs)) ∧ w.grownBy w' ((Value.slice A 0 0).ownBlock) := by
  have ho := StrE.own h
  rw [raw_txts] at ho
  have hlen : zs.length = m := by simpa using ho.1
  by_cases h0 : m = 0
  · subst h0
    have hs : zs = [] := List.eq_nil_of_length_eq_zero hlen
    subst hs
    have := Any.slices_Compact_string_empty lays194 A c w
    rw [show lays194_ren.f 194 = 60 from rfl] at this
    refine this.mono ?_
    rintro e w' ⟨rfl, rfl⟩
    exact ⟨0, rfl, Nat.le_refl _, h, World.grownBy.refl _ _⟩
  · rcases ho.2 with ⟨e, hn⟩ | ⟨g, cap, cur, e, hg, hb, hnc, hm2, hcs, hx⟩
    · omega
    · cases e
      obtain ⟨g', cap', e', -, hgl, -, -, -, hH⟩ := Lib.holds_of_ownsRow ho (by simp)
      cases e'
      have hle := Lib.compact_length_le zs
      have hs := Any.slices_Compact_string lays194 g 0 c zs w hH (by omega) (by omega)
      rw [hlen, show lays194_ren.f 194 = 60 from rfl] at hs
      refine hs.mono ?_
      rintro e w' ⟨rfl, q, rfl⟩
      refine ⟨_, rfl, by omega, StrE.mk' ?_, grownBy_putRow⟩
      have := Lib.ownsRow_putRow (q := q) (k := (Lib.compact zs).length) (ys := Lib.compact zs ++ List.replicate (m - (Lib.compact zs).length) []) ho (by simp; omega) (by omega)
      rw [List.take_left] at this
      exact this
set_option maxRecDepth 100000 in
/-- slices.Sort at numbers of the call's own -/
theorem sortI_own (A : Option Addr) (m c base : Nat) (ss : List Int) (w : World) (h : OwnE IntE 3 w base A m c ss) (hm : m ≤ 2000000) :
    Calls Tryd.prog 34 #[.slice A m c] w fun e w' => e = .returned (.tuple #[]) ∧ OwnE IntE 3 w' base A m c (ss.mergeSort fun x y => decide (x ≤ y)) ∧ w.grownBy w' ((Value.slice A 0 0).ownBlock) := by
  have hlen := h.len
  have ho := IntE.own h
  by_cases h0 : m = 0
  · subst h0
    have hs : ss = [] := List.eq_nil_of_length_eq_zero hlen
    subst hs
    have := Any.slices_Sort_int_none lays189 A c w
    rw [show lays189_ren.f 189 = 34 from rfl] at this
    refine this.mono ?_
    rintro e w' ⟨rfl, rfl⟩
    exact ⟨rfl, by rw [List.mergeSort_nil]; exact h, World.grownBy.refl _ _⟩
  · rcases ho.2 with ⟨e, hn⟩ | ⟨g, cap, cur, e, hg, hb, hnc, hm2, hcs, hx⟩
    · omega
    · cases e
      rw [Nat.mul_one, ← hlen] at hx
      have hH := holds_of_blockI hb hx
      have hs := Any.slices_Sort_int lays189 g 0 c ss w hH (Array.getElem?_eq_some_iff.1 hb).1 (by omega)
      rw [hlen, show lays189_ren.f 189 = 34 from rfl] at hs
      refine hs.mono ?_
      rintro e w' ⟨rfl, nn, os, rfl⟩
      refine ⟨rfl, IntE.mk' ?_, grownBy_sortedI _⟩
      have := ownsRow_sortedI (ss := ss) (n := nn) (os := os) (ts := ss.mergeSort fun x y => decide (x ≤ y)) (by rw [List.length_mergeSort]) hg hb (by rw [hlen]; exact hnc) hm2 hcs
      rw [hlen] at this
      exact this
set_option maxRecDepth 100000 in
/-- slices.Compact at numbers of the call's own -/
theorem compI_own (A : Option Addr) (m c base : Nat) (zs : List Int) (w : World) (h : OwnE IntE 3 w base A m c zs) (hm : m ≤ 2000000) :
    Calls Tryd.prog 35 #[.slice A m c] w fun e w' => ∃ n', e = .returned (.slice A n' c) ∧ n' ≤ m ∧ OwnE IntE 3 w' base A n' c (Lib.compact zs) ∧ w.grownBy w' ((Value.slice A 0 0).ownBlock) := by
  have hlen := h.len
  have ho := IntE.own h
  by_cases h0 : m = 0
  · subst h0
    have hs : zs = [] := List.eq_nil_of_length_eq_zero hlen
    subst hs
    have := Any.slices_Compact_int_empty lays20 A c w
    rw [show lays20_ren.f 20 = 35 from rfl] at this
    refine this.mono ?_
    rintro e w' ⟨rfl, rfl⟩
    exact ⟨0, rfl, Nat.le_refl _, h, World.grownBy.refl _ _⟩
  · rcases ho.2 with ⟨e, hn⟩ | ⟨g, cap, cur, e, hg, hb, hnc, hm2, hcs, hx⟩
    · omega
    · cases e
      rw [Nat.mul_one, ← hlen] at hx
      have hH := holds_of_blockI hb hx
      have hle := Lib.compact_length_le zs
      have hs := Any.slices_Compact_int lays20 g 0 c zs w hH (by omega) (by omega)
      rw [hlen, show lays20_ren.f 20 = 35 from rfl] at hs
      refine hs.mono ?_
      rintro e w' ⟨rfl, q, rfl⟩
      refine ⟨_, rfl, by omega, IntE.mk' ?_, grownBy_putRow⟩
      have := Lib.ownsRow_putRow (q := q) (k := (Lib.compact zs).length) (ys := Lib.compact zs ++ List.replicate (m - (Lib.compact zs).length) 0) ho (by simp; omega) (by omega)
      rw [List.take_left] at this
      exact this
end LockW
end Go.Proofs.YtkkfabnehhamdaaDoor
end
section
namespace Go.Proofs.YtkkfabnehhamdaaDoor
open Go.RowKit Go.Maps LockP ModesP
set_option linter.unusedVariables false
set_option linter.unusedSimpArgs false
theorem IntE.src {w wr : World} {B n c : Nat} {A : Option Addr} {l : List Int} (h : Elems IntE w B A n c l) : ElemsIn IntE wr w B A n c l := by
  obtain ⟨vs, h1, h2⟩ := h
  exact ⟨vs, h1.imp fun _ _ hr => hr, h2⟩
theorem Reg.KeepB.growO {N : Nat} {b0 : List Nat} {a b c : World} {ob : Option Nat} (h : Reg.KeepB N b0 a b) (k : b.grownBy c ob) (hN : N ≤ b.heap.size) (hg : ∀ g, ob = some g → N ≤ g ∨ g ∈ b0) : Reg.KeepB N b0 a c :=
  ⟨k.os.trans h.os, k.tape.trans h.tape, k.output.trans h.output, Nat.le_trans h.size k.size, fun i hi hn => (k.block i (by omega) (fun e => (hg i e.symm).elim (by omega) hn)).trans (h.block i hi hn)⟩
namespace LockW
attribute [local go_sem ↓] app_fold
theorem grant_any (t N : Nat) (bs : List Nat) (X : St) (k : ByteArray) (w : World) (h : Lk w t bs N X) (hok : Ok X) (hf : Fit X) (hT : Modes.Tab w) (hgb : 0 ∉ bs) (hk : k.size ≤ 100) (hN : N + 4 * X.goal.length + 8 ≤ 1000000) : Calls Tryd.prog 61 #[.pointer (some ⟨t, 0, none⟩), .string k] w (Granted t N bs X k w) := by
  have hrl := hok.row_len k
  obtain ⟨lab, b1, b2, b3, b4, es1, es2, es3, h⟩ := h
  cases hg : MapP.get es3 k with
  | none => exact grant_none t N bs X k w lab b1 b2 b3 b4 es1 es2 es3 h hk hg
  | some o =>
    obtain ⟨q, _, _, _, e, -⟩ := h.e3 k o hg
    subst e
    exact grant_row t N bs X k w lab b1 b2 b3 b4 es1 es2 es3 h hok.toOk0 (hok.modes k) (hf.row k) hT hgb hk (by omega) q hg
/-- between two rounds of grantAll -/
structure AllI (w : World) (t : Nat) (bs : List Nat) (N : Nat) (X : St) (base : Nat) (A : Option Addr) (n c : Nat) (ks : List ByteArray) (i : Nat) (A5 : Option Addr) (n5 c5 : Nat) (wr : World) : Prop where
  lk : ∃ bs', Lk wr t bs' (N + 4 * (LockP.grantAll lI lS (ks.take i) X).2.length) (LockP.grantAll lI lS (ks.take i) X).1 ∧ (∀ b ∈ bs', b ∈ bs ∨ w.heap.size ≤ b) ∧ (∀ a, A5 = some a → a.block ∉ bs')
  ow : OwnE IntE 3 wr w.heap.size A5 n5 c5 (LockP.grantAll lI lS (ks.take i) X).2
  ks : OwnE StrE 9 wr base A n c ks
  kp : Reg.KeepB w.heap.size (bs ++ (A.map (·.block)).toList) w wr
theorem str_at {w : World} {T : TypeId} {base n c k : Nat} {A : Option Addr} {l : List ByteArray} (h : OwnE StrE T w base A n c l) (hk : k < n) : ∃ b o x, A = some ⟨b, o, none⟩ ∧ b < w.heap.size ∧ l[k]? = some x ∧ w.cell? ⟨b, o + k * 1, none⟩ = some (.string x) := by
  obtain ⟨b, o, vs, e, hb, hr, hc⟩ := h.elems.at_ (k := k) hk
  refine ⟨b, o, _, e, hb, List.getElem?_eq_getElem (by rw [h.len]; exact hk), hc 0 _ ?_⟩
  rw [show vs = _ from hr]; rfl
/-- one key more -/
theorem AllI.more {w wr w2 w3 : World} {t N base n c i n5 c5 n6 c7 : Nat} {bs bs' : List Nat} {X : St} {A A5 A7 : Option Addr} {ks : List ByteArray} {k : ByteArray}
    (hI : AllI w t bs N X base A n c ks i A5 n5 c5 wr) (hlo : ∀ b ∈ bs, b < w.heap.size) (hA : ∀ a, A = some a → a.block ∉ bs ∧ a.block < w.heap.size) (hk : ks[i]? = some k)
    (hlk : Lk wr t bs' (N + 4 * (LockP.grantAll lI lS (ks.take i) X).2.length) (LockP.grantAll lI lS (ks.take i) X).1) (hnew : ∀ b ∈ bs', b ∈ bs ∨ w.heap.size ≤ b) (hA5 : ∀ a, A5 = some a → a.block ∉ bs')
    (hT2 : Told wr t bs' (N + 4 * (LockP.grantAll lI lS (ks.take i) X).2.length + 4 * (LockP.grant lI lS (LockP.grantAll lI lS (ks.take i) X).1 k).2.length) (LockP.grant lI lS (LockP.grantAll lI lS (ks.take i) X).1 k).1 w2)
    (hO3 : OwnE IntE 3 w3 w.heap.size A7 (n5 + n6) c7 ((LockP.grantAll lI lS (ks.take i) X).2 ++ (LockP.grant lI lS (LockP.grantAll lI lS (ks.take i) X).1 k).2)) (hg3 : w2.grownBy w3 ((Value.slice A5 0 0).ownBlock)) (hA7 : A7 = A5 ∨ ∃ a, A7 = some a ∧ a.block = w2.heap.size) :
    AllI w t bs N X base A n c ks (i + 1) A7 (n5 + n6) c7 w3 := by
  obtain ⟨bs6, hl6, hn6, hk6⟩ := hT2
  have hwr := hI.kp.size
  have hw2 := hk6.size
  have e1 : LockP.grantAll lI lS (ks.take (i + 1)) X = ((LockP.grant lI lS (LockP.grantAll lI lS (ks.take i) X).1 k).1, (LockP.grantAll lI lS (ks.take i) X).2 ++ (LockP.grant lI lS (LockP.grantAll lI lS (ks.take i) X).1 k).2) := by
    rw [List.take_add_one, hk, Option.toList_some, grantAll_snoc]
  have hlt5 : ∀ a, A5 = some a → w.heap.size ≤ a.block ∧ a.block < wr.heap.size := fun a e => by
    subst e
    obtain ⟨cur, hc⟩ := ownE_cells hI.ow
    exact ⟨hI.ow.ge a rfl, (Array.getElem?_eq_some_iff.1 hc).1⟩
  have hn5 : ∀ a, A5 = some a → a.block ∉ bs6 := fun a e hm => by
    rcases hn6 _ hm with h | h
    · exact hA5 a e h
    · have := hlt5 a e; omega
  have hob : ∀ r, (Value.slice A5 0 0).ownBlock = some r → ∃ a, A5 = some a ∧ a.block = r := fun r e => by
    cases A5 with
    | none => simp [Value.ownBlock] at e
    | some ad => exact ⟨ad, rfl, by simpa [Value.ownBlock] using e⟩
  refine ⟨⟨bs6, ?_, fun b hb => (hn6 b hb).elim (hnew b) (fun h => .inr (Nat.le_trans hwr h)), fun a e hm => ?_⟩, ?_, ?_, ?_⟩
  · rw [e1]
    have : N + 4 * ((LockP.grantAll lI lS (ks.take i) X).2 ++ (LockP.grant lI lS (LockP.grantAll lI lS (ks.take i) X).1 k).2).length = N + 4 * (LockP.grantAll lI lS (ks.take i) X).2.length + 4 * (LockP.grant lI lS (LockP.grantAll lI lS (ks.take i) X).1 k).2.length := by rw [List.length_append]; omega
    show Lk w3 t bs6 (N + 4 * ((LockP.grantAll lI lS (ks.take i) X).2 ++ (LockP.grant lI lS (LockP.grantAll lI lS (ks.take i) X).1 k).2).length) _
    rw [this]
    obtain ⟨lab, b1, b2, b3, b4, es1, es2, es3, hl6⟩ := hl6
    exact ⟨lab, b1, b2, b3, b4, es1, es2, es3, hl6.at_ fun b hb => hg3.block b (hl6.lo b hb) (fun e => by obtain ⟨a, ea, eb⟩ := hob b e.symm; exact hn5 a ea (by rw [eb]; exact hb))⟩
  · rcases hA7 with e7 | ⟨a', e7, hb7⟩
    · rw [e7] at e; exact hn5 a e hm
    · rw [e7] at e; cases e
      have := hl6.lo _ hm
      omega
  · rw [e1]; exact hO3
  · refine own_at strE_pure hI.ks fun a e => ?_
    obtain ⟨h1, h2⟩ := hA a e
    refine (hg3.block _ (by omega) (fun e2 => by obtain ⟨a', ea, eb⟩ := hob _ e2.symm; have := (hlt5 a' ea).1; omega)).trans (hk6.block _ (by omega) (fun hm => (hnew _ hm).elim h1 (by omega)))
  · have k2 : Reg.KeepB w.heap.size (bs ++ (A.map (·.block)).toList) wr w2 := hk6.low hwr (fun b hb => (hnew b hb).imp (fun h => List.mem_append_left _ h) id)
    exact (hI.kp.trans k2 (Nat.le_refl _)).growO hg3 (by omega) (fun r e => by obtain ⟨a, ea, eb⟩ := hob r e; exact .inl (by rw [← eb]; exact (hlt5 a ea).1))
set_option maxRecDepth 100000 in
set_option maxHeartbeats 4000000 in
theorem grantAll_any (t N base n c : Nat) (A : Option Addr) (l : List ByteArray) (bs : List Nat) (X : St) (w : World) (h : Lk w t bs N X) (hok : Ok X) (hf : Fit X) (hT : Modes.Tab w) (hgb : 0 ∉ bs) (hO : OwnE StrE 9 w base A n c l) (hA : ∀ a, A = some a → a.block ∉ bs) (hTA : ∀ a, A = some a → 0 ≠ a.block) (hl : ∀ k ∈ l, k.size ≤ 100) (hn : n ≤ 1000000) (hN : N + 4 * X.goal.length + 8 ≤ 1000000) :
    Calls Tryd.prog 46 #[.pointer (some ⟨t, 0, none⟩), .slice A n c] w fun e w' => ∃ A' n' c', e = .returned (.slice A' n' c') ∧ OwnE IntE 3 w' w.heap.size A' n' c' (LockP.grantAll lI lS (srt l) X).2 ∧ ∃ bs', Lk w' t bs' (N + 4 * (LockP.grantAll lI lS (srt l) X).2.length) (LockP.grantAll lI lS (srt l) X).1 ∧ (∀ b ∈ bs', b ∈ bs ∨ w.heap.size ≤ b) ∧ Reg.KeepB w.heap.size (bs ++ (A.map (·.block)).toList) w w' := by
  have hAl : ∀ a, A = some a → a.block ∉ bs ∧ a.block < w.heap.size := fun a e => by
    subst e
    obtain ⟨cur, hc⟩ := ownE_cells hO
    exact ⟨hA a rfl, (Array.getElem?_eq_some_iff.1 hc).1⟩
  have hob : ∀ r, (Value.slice A 0 0).ownBlock = some r → ∃ a, A = some a ∧ a.block = r := fun r e => by
    cases A with
    | none => simp [Value.ownBlock] at e
    | some ad => exact ⟨ad, rfl, by simpa [Value.ownBlock] using e⟩
  have HGN : Hid (0 ∉ bs ++ (A.map (·.block)).toList) := Lib.hid (fun hm => by
    rcases List.mem_append.1 hm with h | h
    · exact hgb h
    · obtain ⟨a, e, e2⟩ := Option.map_eq_some_iff.1 (Option.mem_toList.1 h)
      exact hTA a e e2.symm)
  obtain ⟨i0, hi0, iz0, iz1, iz2⟩ := info_parts infoI
  have HI0 := Lib.hid hi0
  have HZ0 := Lib.hid (And.intro iz0 (And.intro iz1 iz2))
  have hso := sortS_own A n c base l w hO (by omega)
  have HL := Lib.hid h
  have HOK := Lib.hid hok
  have HF := Lib.hid hf
  have HT := Lib.hid hT
  have HTL : Hid (0 < w.heap.size) := Lib.hid hT.lt
  have HGB := Lib.hid hgb
  have HAL := Lib.hid hAl
  have HOB := Lib.hid hob
  have HLO : Hid (∀ b ∈ bs, b < w.heap.size) := Lib.hid h.lo
  have HSZ := Lib.hid hl
  clear h hok hf hT hgb hA hAl hob hO hi0 iz0 iz1 iz2 hl hTA
  go_enter Tryd.func46, Tryd.ntmps46
  go_wp2_with fail
  refine hso.mono ?_
  rintro e W1 ⟨rfl, hO1, hg1⟩
  have HL1 : Hid (Lk W1 t bs N X) := Lib.hid (by
    obtain ⟨lab, b1, b2, b3, b4, es1, es2, es3, h⟩ := HL.out
    exact ⟨lab, b1, b2, b3, b4, es1, es2, es3, h.at_ fun b hb => hg1.block b (h.lo b hb) (fun e => by obtain ⟨a, ea, eb⟩ := HOB.out b e.symm; exact (HAL.out a ea).1 (by rw [eb]; exact hb))⟩)
  have HK1 : Hid (Reg.KeepB w.heap.size (bs ++ (A.map (·.block)).toList) w W1) := Lib.hid ⟨hg1.os, hg1.tape, hg1.output, hg1.size, fun b hb hm => hg1.block b hb (fun e => by obtain ⟨a, ea, eb⟩ := HOB.out b e.symm; exact hm (List.mem_append_right _ (by rw [ea]; simp [eb])))⟩
  have hco := compS_own A n c base ((raw l).mergeSort fun x y => decide (x ≤ y)) W1 hO1 (by omega)
  have hsr : txts (Lib.compact ((raw l).mergeSort fun x y => decide (x ≤ y))) = srt l := rfl
  rw [hsr] at hco
  clear hso hO1 hg1 HL hsr
  go_wp2_with fail
  refine hco.mono ?_
  rintro e W2 ⟨n2, rfl, hn2, hO2, hg2⟩
  have HL2 : Hid (Lk W2 t bs N X) := Lib.hid (by
    obtain ⟨lab, b1, b2, b3, b4, es1, es2, es3, h⟩ := HL1.out
    exact ⟨lab, b1, b2, b3, b4, es1, es2, es3, h.at_ fun b hb => hg2.block b (h.lo b hb) (fun e => by obtain ⟨a, ea, eb⟩ := HOB.out b e.symm; exact (HAL.out a ea).1 (by rw [eb]; exact hb))⟩)
  have HK2 : Hid (Reg.KeepB w.heap.size (bs ++ (A.map (·.block)).toList) w W2) := Lib.hid (HK1.out.growO hg2 HK1.out.size (fun r e => by obtain ⟨a, ea, eb⟩ := HOB.out r e; exact .inr (List.mem_append_right _ (by rw [ea]; simp [eb]))))
  have hln := hO2.len
  have HKS : Hid (∀ k ∈ srt l, k.size ≤ 100) := Lib.hid (fun k hk => HSZ.out k (mem_srt.1 hk))
  obtain ⟨ks, hks⟩ : ∃ x, srt l = x := ⟨_, rfl⟩
  rw [hks] at hO2 hln HKS
  have HKE := Lib.hid hks
  clear hks
  have HO2 := Lib.hid hO2
  clear hco hO2 hg2 HK1 HL1
  go_wp2_with fail
  go_loopw [5, 13] (fun sv iv wr => ∃ (i n5 c5 : Nat) (A5 : Option Addr), i ≤ n2 ∧ sv = .slice A5 n5 c5 ∧ iv = .int .i64 (i : Int) ∧ Hid (AllI w t bs N X base A n2 c ks i A5 n5 c5 wr)) (fun _ iv _ => n2 - (intOf iv).toNat)
  case atStart =>
    exact ⟨0, 0, 0, none, Nat.zero_le _, rfl, rfl, Lib.hid ⟨⟨bs, by rw [List.take_zero]; exact HL2.out, fun b hb => .inl hb, fun a e => by cases e⟩, by rw [List.take_zero]; exact OwnE.none_ _ _ _ _, HO2.out, HK2.out⟩⟩
  case round =>
    obtain ⟨i, n5, c5, A5, hi, rfl, rfl, HI⟩ := hrel
    by_cases hlt : i < n2
    · have hd1 : decide ((i : Int) < (n2 : Int)) = true := by simpa using hlt
      have k1 : ¬ (i : Int) < 0 := by omega
      obtain ⟨b, o, k, rfl, hb, hx, hc⟩ := str_at HI.out.ks hlt
      rw [Nat.mul_one] at hc
      have HX := Lib.hid hx
      have HKZ := Lib.hid (HKS.out k (List.mem_of_getElem? hx))
      obtain ⟨bs', hl', hn', hA'⟩ := HI.out.lk
      have HLK := Lib.hid hl'
      have HNW := Lib.hid hn'
      have HA5 := Lib.hid hA'
      have hgl := grantAll_len (ltI := lI) (ltS := lS) (ks.take i) HOK.out
      have HTW := Lib.hid (HT.out.keepB HI.out.kp HTL.out HGN.out)
      have HGW : Hid (0 ∉ bs') := Lib.hid (fun hm => (HNW.out _ hm).elim HGB.out (fun h => by have := HTL.out; omega))
      have HOK' := Lib.hid (grantAll_good (ltI := lI) (ltS := lS) (ks.take i) HOK.out)
      have HF' := Lib.hid (Fit.grantAll (ltI := lI) (ltS := lS) (ks.take i) HF.out (fun k hk => HKS.out k (List.mem_of_mem_take hk)))
      have hn5 := HI.out.ow.len
      clear hx hl' hn' hA'
      go_wp2_with fail
      refine (grant_any t _ bs' _ k wr HLK.out HOK'.out HF'.out HTW.out HGW.out HKZ.out (by omega)).mono ?_
      rintro e W6 ⟨A6, n6, c6, rfl, hO6, hT6⟩
      have hwl6 : wr.heap.size ≤ W6.heap.size := by obtain ⟨_, _, _, hk6⟩ := hT6; exact hk6.size
      have hO5 : OwnE IntE 3 W6 w.heap.size A5 n5 c5 (LockP.grantAll lI lS (ks.take i) X).2 := own_at intE_pure HI.out.ow (fun a e => by
        obtain ⟨_, _, _, hk6⟩ := hT6
        subst e
        obtain ⟨cur, hc⟩ := ownE_cells HI.out.ow
        exact hk6.block _ (Array.getElem?_eq_some_iff.1 hc).1 (HA5.out a rfl))
      have hgl2 := (HOK'.out).grant_len (ltI := lI) (ltS := lS) k
      have hn6 := hO6.len
      have hwk := HI.out.kp.size
      obtain ⟨A7, c7, W7, happ, hO7, -, hg7, hA7⟩ := hO5.app (P := Tryd.prog) 32 32 i0 _ 8 Tryd.underlying32 HI0.out HZ0.out.1 HZ0.out.2.1 HZ0.out.2.2 rfl (IntE.src hO6.elems) (by unfold maxLen; omega) (by omega) (by omega)
      have HNX := Lib.hid (HI.out.more HLO.out HAL.out HX.out HLK.out HNW.out HA5.out hT6 hO7 hg7 hA7)
      clear hO6 hT6 hO5 hO7 hg7 hA7
      go_wp2_with fail
      go_roundw
      case rel => exact ⟨i + 1, n5 + n6, c7, A7, by omega, rfl, by go_num, HNX⟩
      case measure => simp [intOf]; omega
    · have hd1 : decide ((i : Int) < (n2 : Int)) = false := by simp; omega
      obtain rfl : i = n2 := by omega
      go_wp2_with fail
      go_ret
      obtain ⟨bs', hl', hn', hA'⟩ := HI.out.lk
      have hO := HI.out.ow
      have ht : ks.take i = ks := List.take_of_length_le (by omega)
      rw [ht] at hl' hO
      rw [HKE.out]
      exact ⟨A5, n5, c5, rfl, hO, bs', hl', hn', HI.out.kp⟩
/-- leave, at a table in order -/
theorem leave_any (t N : Nat) (bs : List Nat) (X : St) (u : Int) (w : World) (h : Lk w t bs N X) (hok : Ok X) (hf : Fit X) (hu : In64 u) (hN : N ≤ 1000000) : Calls Tryd.prog 44 #[.pointer (some ⟨t, 0, none⟩), .int .i64 u] w (Left t N bs X u w) := by
  cases hg : MapP.get X.goal u with
  | none => exact leave_none t N bs X u w h hu hg
  | some g =>
    obtain ⟨k, m⟩ := g
    have hr := (hok.rows k u m).2 hg
    exact leave_some t N bs X u k m w h hu (hf.goal _ (MapP.get_mem hg)).2.1 hg (fun e => by rw [e] at hr; cases hr) hN
/-- the numbers that a method tells, and the table then -/
def Tells (t N : Nat) (bs : List Nat) (X : St) (l : List Int) (w : World) (e : Ending) (w' : World) : Prop := ∃ A n c, e = .returned (.slice A n c) ∧ OwnE IntE 3 w' w.heap.size A n c l ∧ Told w t bs N X w'
/-- behind leave, grantAll over what it told and more: the table told -/
theorem told_all {w w1 w2 : World} {t N' : Nat} {bs bs' bs2 : List Nat} {X' : St} {A : Option Addr} (hlo : ∀ b ∈ bs, b < w.heap.size) (h1 : ∀ b ∈ bs', b ∈ bs ∨ w.heap.size ≤ b) (k1 : Reg.KeepB w.heap.size bs w w1) (hA : ∀ a, A = some a → w.heap.size ≤ a.block)
    (hl : Lk w2 t bs2 N' X') (h2 : ∀ b ∈ bs2, b ∈ bs' ∨ w1.heap.size ≤ b) (k2 : Reg.KeepB w1.heap.size (bs' ++ (A.map (·.block)).toList) w1 w2) : Told w t bs N' X' w2 := by
  have s1 := k1.size
  refine ⟨bs2, hl, fun b hb => (h2 b hb).elim (h1 b) (fun h => .inr (Nat.le_trans s1 h)), k1.trans (k2.low s1 fun b hb => ?_) (Nat.le_refl _)⟩
  rcases List.mem_append.1 hb with h | h
  · exact h1 b h
  · obtain ⟨a, e, rfl⟩ := Option.map_eq_some_iff.1 (Option.mem_toList.1 h)
    exact .inr (hA a e)
set_option maxRecDepth 100000 in
set_option maxHeartbeats 2000000 in
theorem cancel_any (t N : Nat) (bs : List Nat) (X : St) (u : Int) (w : World) (h : Lk w t bs N X) (hok : Ok X) (hf : Fit X) (hT : Modes.Tab w) (hgb : 0 ∉ bs) (hu : In64 u) (hN : N + 4 * X.goal.length + 8 ≤ 1000000) :
    Calls Tryd.prog 31 #[.pointer (some ⟨t, 0, none⟩), .int .i64 u] w (Tells t (N + 4 * (LockP.cancel lI lS X u (srt (LockP.leave X u).2)).2.length) bs (LockP.cancel lI lS X u (srt (LockP.leave X u).2)).1 (LockP.cancel lI lS X u (srt (LockP.leave X u).2)).2 w) := by
  have HL := Lib.hid h
  have HOK := Lib.hid hok
  have HF := Lib.hid hf
  have HT := Lib.hid hT
  have HGB := Lib.hid hgb
  have hv := leave_any t N bs X u w h hok hf hu (by omega)
  clear h hok hf hT hgb
  go_enter Tryd.func31, Tryd.ntmps31
  go_wp2_with fail
  refine hv.mono ?_
  rintro e W1 ⟨A, n, c, rfl, hO, bs', hl, hn, hk, hdis⟩
  have hlo := HL.out.lo
  have hge := hO.ge
  have hTl := HT.out.lt
  have hl2 := leave_two X u
  have hll := leave_len X u
  have hln := hO.len
  have hga := grantAll_any t N w.heap.size n c A (LockP.leave X u).2 bs' (LockP.leave X u).1 W1 hl (leave_ok HOK.out u).1 (HF.out.leave u).1 (HT.out.keepB hk hTl HGB.out) (fun hm => (hn _ hm).elim HGB.out (fun h => by omega)) hO hdis (fun a e e2 => by have := hge a e; omega) (HF.out.leave u).2 (by omega) (by omega)
  have HK := Lib.hid hk
  have HN := Lib.hid hn
  have HGE := Lib.hid hge
  clear hv hO hl hn hk hdis hge hlo
  go_wp2_with fail
  refine hga.mono ?_
  rintro e W2 ⟨A2, n2, c2, rfl, hO2, bs2, hl2, hn2, hk2⟩
  have hP : Tells t (N + 4 * (LockP.cancel lI lS X u (srt (LockP.leave X u).2)).2.length) bs (LockP.cancel lI lS X u (srt (LockP.leave X u).2)).1 (LockP.cancel lI lS X u (srt (LockP.leave X u).2)).2 w (.returned (.slice A2 n2 c2)) W2 := ⟨A2, n2, c2, rfl, hO2.less HK.out.size, told_all HL.out.lo HN.out HK.out HGE.out hl2 hn2 hk2⟩
  have HP := Lib.hid hP
  clear hP hO2 hl2 hn2 hk2 hga
  go_wp2_with fail
  go_ret
  exact HP.out
end LockW
end Go.Proofs.YtkkfabnehhamdaaDoor
end
