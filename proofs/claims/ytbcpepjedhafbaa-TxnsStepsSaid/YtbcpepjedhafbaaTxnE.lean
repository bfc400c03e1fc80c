/-
  Transactions in a slice, and a table that is a slice and a number.
-/
import Derived.Test.YtbcpepjedhafbaaTxnLive
import Derived.Test.YtbcpepjedhafbaaElem2
import Derived.Test.YtbcpepjedhafbaaElem3
namespace Go.Proofs.Ytbcpepjedhafbaa
open Go.RowKit Go.Maps
set_option linter.unusedVariables false
def txV (x : TxnX) : List Value := [.int .i64 x.id, .int .i64 x.first, .int .i64 x.last, .int .i64 x.kept]
/-- a transaction in a slice -/
def TxnE : El TxnX where
  size := 4
  pos := by decide
  rel w B vs x := vs = txV x
  len := by rintro w B vs p rfl; rfl
  one := by rintro w B vs p rfl v hv; simp only [txV, List.mem_cons, List.not_mem_nil, or_false] at hv; rcases hv with rfl | rfl | rfl | rfl <;> rfl
  sub := by rintro w w' B vs p hs h; exact h
  more := by rintro w B B' vs p hB h; exact h
theorem txn_at {wr w : World} {B n c k : Nat} {A : Option Addr} {l : List TxnX} (h : ElemsIn TxnE wr w B A n c l) (hk : k < n) : ∃ b o x, A = some ⟨b, o, none⟩ ∧ b < B ∧ l[k]? = some x ∧ w.cell? ⟨b, o + k * 4, none⟩ = some (.int .i64 x.id) ∧ w.cell? ⟨b, o + k * 4 + 1, none⟩ = some (.int .i64 x.first) ∧ w.cell? ⟨b, o + k * 4 + 2, none⟩ = some (.int .i64 x.last) ∧ w.cell? ⟨b, o + k * 4 + 3, none⟩ = some (.int .i64 x.kept) := by
  have hl : k < l.length := by rw [h.len]; exact hk
  obtain ⟨b, o, vs, e, hb, rfl, hc⟩ := h.at_ hk
  exact ⟨b, o, _, e, hb, List.getElem?_eq_getElem hl, hc 0 _ rfl, hc 1 _ rfl, hc 2 _ rfl, hc 3 _ rfl⟩
/-- a transaction typed out, as a source -/
theorem TxnE.lit {w wr : World} {b : Nat} {x : TxnX} (hs : Str w b (txV x).toArray) : ElemsIn TxnE wr w w.heap.size (some ⟨b, 0, none⟩) 1 1 [x] :=
  ⟨[txV x], ⟨rfl, trivial⟩, rfl, Nat.le_refl _, by unfold maxLen; omega, fun _ => ⟨b, 0, rfl, hs.lt, fun j v hv => by
    have hj : j < 4 := by have := (List.getElem?_eq_some_iff.1 hv).1; simpa [txV] using this
    have h4 : [txV x].flatten = txV x := by simp
    rw [h4] at hv
    rw [Nat.zero_add]
    have := hs.cell j
    rcases (by omega : j = 0 ∨ j = 1 ∨ j = 2 ∨ j = 3) with rfl | rfl | rfl | rfl <;> (simp [txV] at hv; subst hv; exact this)⟩⟩
theorem infoX : (Try.prog.info? 38).map (fun i => (i.zero, i.size, i.bytes)) = some (some (.agg #[.int .i64 0, .int .i64 0, .int .i64 0, .int .i64 0]), 4, 32) := by kernel_rfl
theorem int_at {wr w : World} {B n c k : Nat} {A : Option Addr} {l : List Int} (h : ElemsIn IntE wr w B A n c l) (hk : k < n) : ∃ b o x, A = some ⟨b, o, none⟩ ∧ b < B ∧ l[k]? = some x ∧ w.cell? ⟨b, o + k, none⟩ = some (.int .i64 x) := by
  have hl : k < l.length := by rw [h.len]; exact hk
  obtain ⟨b, o, vs, e, hb, rfl, hc⟩ := h.at_ hk
  refine ⟨b, o, _, e, hb, List.getElem?_eq_getElem hl, ?_⟩
  have := hc 0 _ rfl
  rwa [show o + k * IntE.size + 0 = o + k from by show o + k * 1 + 0 = _; omega] at this
/-- a row of the call's own beside a store elsewhere -/
theorem TxnE.grown {w w' : World} {T : TypeId} {base n c g : Nat} {A : Option Addr} {l : List TxnX} (h : OwnE TxnE T w base A n c l) (hg : w.grownBy w' (some g)) (hne : ∀ a, A = some a → a.block ≠ g) : OwnE TxnE T w' base A n c l := by
  obtain ⟨vs, h1, h2⟩ := h
  exact ⟨vs, own_grown h1 hg hne, h2⟩
/-- an empty row that was made -/
theorem TxnE.empty (w : World) (T : TypeId) (base : Nat) (hb : base ≤ w.heap.size) : OwnE TxnE T (w.alloc (.cells #[] T)) base (some ⟨w.heap.size, 0, none⟩) 0 0 [] :=
  OwnE.mk' (cur := []) (vs := []) hb (heap_alloc_new w _) (Nat.le_refl _) (by unfold maxLen; omega) rfl rfl trivial rfl
namespace TxnP
/-- where one is -/
def At (L : List TxnX) (k v : Int) : Prop := (v = -1 ∧ has L k = false) ∨ ∃ (i : Nat) (x : TxnX), v = (i : Int) ∧ L[i]? = some x ∧ x.id = k
def Gone' (L : List TxnX) (k : Int) (i : Nat) : Prop := ∀ j x, j < i → L[j]? = some x → x.id ≠ k
theorem gone_start (L : List TxnX) (k : Int) : Gone' L k 0 := fun j x h => absurd h (by omega)
theorem gone_next {L : List TxnX} {k : Int} {i : Nat} {y : TxnX} (h : Gone' L k i) (hy : L[i]? = some y) (hn : y.id ≠ k) : Gone' L k (i + 1) := fun j x hj hx => by
  by_cases e : j = i
  · subst e; rw [hy] at hx; cases hx; exact hn
  · exact h j x (by omega) hx
theorem gone_end {L : List TxnX} {k : Int} {n : Nat} (h : Gone' L k n) (hn : L.length = n) : At L k (-1) :=
  .inl ⟨rfl, has_false.2 fun t ht => by
    obtain ⟨j, hj, rfl⟩ := List.getElem_of_mem ht
    exact h j _ (by omega) (List.getElem?_eq_getElem hj)⟩
theorem old_take_none (L : List TxnX) : Old (L.take 0) 0 false := .inl ⟨rfl, rfl, fun t ht => by simp at ht⟩
theorem take_succ_of {L : List TxnX} {i : Nat} {y : TxnX} (hy : L[i]? = some y) : L.take (i + 1) = L.take i ++ [y] := by
  rw [List.take_add_one, hy]; rfl
theorem olds_stay {L : List TxnX} {i : Nat} {y : TxnX} {v : Int} {b : Bool} (h : Old (L.take i) v b) (hy : L[i]? = some y) (hn : y.last = 0 ∨ (b = true ∧ ¬ y.first < v)) : Old (L.take (i + 1)) v b := by
  rw [take_succ_of hy]
  rcases h with ⟨rfl, rfl, h⟩ | ⟨rfl, ⟨t, ht, h0, h1, h2⟩, h⟩
  · refine .inl ⟨rfl, rfl, fun t ht hp => ?_⟩
    rcases List.mem_append.1 ht with ht | ht
    · exact h t ht hp
    · rw [List.mem_singleton] at ht; subst ht
      rcases hn with hn | hn
      · exact hn
      · cases hn.1
  · refine .inr ⟨rfl, ⟨t, List.mem_append.2 (.inl ht), h0, h1, h2⟩, fun t ht hp hl => ?_⟩
    rcases List.mem_append.1 ht with ht | ht
    · exact h t ht hp hl
    · rw [List.mem_singleton] at ht; subst ht
      rcases hn with hn | hn
      · exact absurd hn hl
      · omega
theorem olds_take {L : List TxnX} {i : Nat} {y : TxnX} {v : Int} {b : Bool} (h : Old (L.take i) v b) (hy : L[i]? = some y) (hl : y.last ≠ 0) (hn : b = false ∨ y.first < v) : Old (L.take (i + 1)) y.first true := by
  rw [take_succ_of hy]
  refine .inr ⟨rfl, ⟨y, by simp, trivial, hl, rfl⟩, fun t ht hp hq => ?_⟩
  rcases List.mem_append.1 ht with ht | ht
  · rcases h with ⟨rfl, rfl, h⟩ | ⟨rfl, _, h⟩
    · exact absurd (h t ht hp) hq
    · have := h t ht hp hq
      rcases hn with hn | hn
      · cases hn
      · omega
  · rw [List.mem_singleton] at ht; subst ht; exact Int.le_refl _
theorem old_uniq {L : List TxnX} {v v' : Int} {b b' : Bool} (h : Old L v b) (h' : Old L v' b') : v = v' ∧ b = b' := by
  rcases h with ⟨rfl, rfl, h⟩ | ⟨rfl, ⟨t, ht, _, h1, rfl⟩, h⟩ <;> rcases h' with ⟨rfl, rfl, k⟩ | ⟨rfl, ⟨u, hu, _, k1, rfl⟩, k⟩
  · exact ⟨rfl, rfl⟩
  · exact absurd (h u hu trivial) k1
  · exact absurd (k t ht trivial) h1
  · have e1 := h u hu trivial k1
    have e2 := k t ht trivial h1
    exact ⟨by omega, rfl⟩
end TxnP
end Go.Proofs.Ytbcpepjedhafbaa
