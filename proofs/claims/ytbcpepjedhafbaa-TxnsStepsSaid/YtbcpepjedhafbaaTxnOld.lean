/-
  The walk of (*Table).Oldest: the least First of those that wrote something, in whatever order the map is gone through.
-/
import Derived.Test.YtbcpepjedhafbaaTxnW
namespace Go.Proofs.Ytbcpepjedhafbaa
open Go.RowKit Go.Maps
set_option linter.unusedVariables false
set_option linter.unusedSimpArgs false
namespace TxnP
/-- v and b are what Oldest tells of those transactions that p names -/
def OldOn (L : List TxnX) (p : TxnX → Prop) (v : Int) (b : Bool) : Prop :=
  (b = false ∧ v = 0 ∧ ∀ t ∈ L, p t → t.last = 0) ∨ (b = true ∧ (∃ t ∈ L, p t ∧ t.last ≠ 0 ∧ t.first = v) ∧ ∀ t ∈ L, p t → t.last ≠ 0 → v ≤ t.first)
def Old (L : List TxnX) (v : Int) (b : Bool) : Prop := OldOn L (fun _ => True) v b
def seen (left : Lit → Bool) (t : TxnX) : Prop := left (key t.id) = false
theorem old_none {L : List TxnX} {p : TxnX → Prop} (h : ∀ t ∈ L, ¬ p t) : OldOn L p 0 false := .inl ⟨rfl, rfl, fun t ht hp => absurd hp (h t ht)⟩
theorem old_all {L : List TxnX} {p : TxnX → Prop} {v : Int} {b : Bool} (h : OldOn L p v b) (hp : ∀ t ∈ L, p t) : Old L v b := by
  rcases h with ⟨rfl, rfl, h⟩ | ⟨rfl, ⟨t, ht, _, h1, h2⟩, h⟩
  · exact .inl ⟨rfl, rfl, fun t ht _ => h t ht (hp t ht)⟩
  · exact .inr ⟨rfl, ⟨t, ht, trivial, h1, h2⟩, fun t ht _ => h t ht (hp t ht)⟩
theorem seen_step {left : Lit → Bool} {x : Int} {t : TxnX} : seen (fun z => left z && !z.sameKey (key x)) t ↔ seen left t ∨ t.id = x := by
  unfold seen
  dsimp only
  rw [same_key]
  by_cases h : t.id = x <;> simp [h]
/-- the next one changes nothing -/
theorem old_stay {L : List TxnX} {left : Lit → Bool} {v : Int} {b : Bool} {c : TxnX} (hr : Rises L) (hc : c ∈ L) (h : OldOn L (seen left) v b) (hn : c.last = 0 ∨ (b = true ∧ ¬ c.first < v)) : OldOn L (seen (fun z => left z && !z.sameKey (key c.id))) v b := by
  rcases h with ⟨rfl, rfl, h⟩ | ⟨rfl, ⟨t, ht, hs, h1, h2⟩, h⟩
  · refine .inl ⟨rfl, rfl, fun t ht hs => ?_⟩
    rcases seen_step.1 hs with hs | hs
    · exact h t ht hs
    · have := rises_inj hr ht hc hs
      rcases hn with hn | ⟨hn, _⟩
      · rw [this]; exact hn
      · cases hn
  · refine .inr ⟨rfl, ⟨t, ht, seen_step.2 (.inl hs), h1, h2⟩, fun u hu hs => ?_⟩
    rcases seen_step.1 hs with hs | hs
    · exact h u hu hs
    · have := rises_inj hr hu hc hs
      subst this
      intro hl
      rcases hn with hn | ⟨_, hn⟩
      · exact absurd hn hl
      · omega
/-- the next one is the least -/
theorem old_take {L : List TxnX} {left : Lit → Bool} {v : Int} {b : Bool} {c : TxnX} (hr : Rises L) (hc : c ∈ L) (h : OldOn L (seen left) v b) (hl : c.last ≠ 0) (hn : b = false ∨ c.first < v) : OldOn L (seen (fun z => left z && !z.sameKey (key c.id))) c.first true := by
  refine .inr ⟨rfl, ⟨c, hc, seen_step.2 (.inr rfl), hl, rfl⟩, fun u hu hs hul => ?_⟩
  rcases seen_step.1 hs with hs | hs
  · rcases h with ⟨rfl, rfl, h⟩ | ⟨rfl, -, h⟩
    · exact absurd (h u hu hs) hul
    · have := h u hu hs hul
      rcases hn with hn | hn
      · cases hn
      · omega
  · have := rises_inj hr hu hc hs
    subst this
    exact Int.le_refl _
end TxnP
namespace TxnW
variable {tb bm n : Nat} {nx : Int} {L : List TxnX}
/-- the call hands back what Oldest tells -/
def GivesOld (w : World) (L : List TxnX) (e : Ending) (w' : World) : Prop := ∃ v b, e = .returned (.tuple #[.int .i64 v, .bool b]) ∧ TxnP.Old L v b ∧ Below w.heap.size w w'
theorem below_none {B : Nat} {a b : World} (h : a.grownBy b none) (hB : B ≤ a.heap.size) : Below B a b := ⟨h.os, h.tape, h.output, h.size, fun k hk => h.block k (by omega) (by simp)⟩
set_option maxRecDepth 100000 in
set_option maxHeartbeats 1000000 in
theorem oldest_any (w : World) (hT : Tab w tb bm n nx L) (hr : TxnP.Rises L) :
    Calls Try.prog 17 #[.pointer (some ⟨tb, 0, none⟩)] w (GivesOld w L) := by
  have HT := Lib.hid hT
  have HR := Lib.hid hr
  have hlt := hT.mlt
  obtain ⟨c0, c1⟩ := str2 hT.box
  clear hT hr
  go_enter Try.func17, Try.ntmps17
  go_wp2_with (first
    | (at_range; refine wpList_range_own _ rfl _ 50 rfl 3 38 law Try.underlying50 TxnP.rd bm n (TxnP.dat L) rfl HT.out.map ?_; intro w0 hrg0 hg0 hs0)
    | go_in)
  go_frame
  have HRG := Lib.hid hrg0
  have HB0 := Lib.hid (below_none (B := w.heap.size) hg0 (Nat.le_refl _))
  clear hrg0 hg0 hs0 c0 c1
  go_loopw [4, 5] (fun least some wr => ∃ (left : Lit → Bool) (cnt : Nat) (v : Int) (b : Bool), least = .int .i64 v ∧ some = .bool b ∧ Hid (wr.ranges Try.prog 3 TxnP.rd bm w.heap.size n (TxnP.dat L) left cnt ∧ TxnP.OldOn L (TxnP.seen left) v b ∧ Below w.heap.size w wr))
    (fun _ _ wr => wr.rangeLeft bm w.heap.size)
  case atStart =>
    refine ⟨_, _, 0, false, rfl, rfl, Lib.hid ⟨HRG.out, TxnP.old_none fun t ht h => ?_, HB0.out⟩⟩
    unfold TxnP.seen at h
    rw [TxnP.has_dat, TxnP.has_false] at h
    exact h t ht rfl
  case round =>
    obtain ⟨left, cnt, v, b, rfl, rfl, HK⟩ := hrel
    have hwr := HK.out.2.2.size
    go_wp2_with (first
      | (at_next; refine wpList_next_ranges _ rfl _ rfl 3 law TxnP.rd (fun x : Int => Value.int .i64 x) (fun t : TxnX => .agg #[.int .i64 t.id, .int .i64 t.first, .int .i64 t.last, .int .i64 t.kept]) (fun key kl hk => by obtain ⟨x, rfl, _⟩ := Maps.keyOf_int_inv Try.underlying3 hk; exact ⟨x, rfl⟩) (fun v y hv => by obtain ⟨t, rfl, _⟩ := TxnP.rd_inv hv; exact ⟨t, rfl⟩) bm w.heap.size n _ _ _ rfl HK.out.1 ?_ ?_)
      | go_in)
    · intro _ hl0
      have HL0 := Lib.hid hl0
      clear hl0
      go_wp2
      go_ret2
      exact ⟨v, b, rfl, TxnP.old_all HK.out.2.1 (fun t _ => HL0.out _), HK.out.2.2⟩
    · intro x c kl yd yp w1 cnt1 hkey hlk hv hat hrg1 hcl hg1 hs1 hen
      obtain ⟨x', ex, rfl, -⟩ := Maps.keyOf_int_inv Try.underlying3 hkey
      cases ex
      obtain ⟨t, ht, rfl, he⟩ := TxnP.at_ent (L := L) (k := x) hat
      obtain rfl : c = t := by
        have h1 : some (yd, yp) = some (TxnP.enc c, []) := hv.symm.trans (TxnP.rd_val c)
        simp only [Option.some.injEq, Prod.mk.injEq] at h1
        exact TxnP.enc_inj (h1.1.symm.trans he)
      have HC := Lib.hid ht
      have HRG1 := Lib.hid (World.ranges.alloc hrg1 (.cells #[.int .i64 c.id, .int .i64 c.first, .int .i64 c.last, .int .i64 c.kept] 38))
      have HB1 := Lib.hid ((below_grown HK.out.2.2 hg1 (Nat.le_refl _)).alloc (by have := hg1.size; omega) (.cells #[.int .i64 c.id, .int .i64 c.first, .int .i64 c.last, .int .i64 c.kept] 38))
      have HCL := Lib.hid hcl
      clear hkey hlk hv hat hrg1 hcl hg1 hs1 he ht
      by_cases hl : c.last = 0
      · have hd : (c.last != 0) = false := by simpa using hl
        have HS := Lib.hid (TxnP.old_stay HR.out HC.out HK.out.2.1 (.inl hl))
        clear hl
        go_wp2
        go_roundw
        case rel => exact ⟨_, cnt1, v, b, rfl, rfl, Lib.hid ⟨HRG1.out, HS.out, HB1.out⟩⟩
        case measure => rw [HRG1.out.left_eq, HK.out.1.left_eq]; exact HCL.out
      · have hd : (c.last != 0) = true := by simpa using hl
        cases b with
        | false =>
          have HS := Lib.hid (TxnP.old_take HR.out HC.out HK.out.2.1 hl (.inl rfl))
          clear hl
          go_wp2
          go_roundw
          case rel => exact ⟨_, cnt1, c.first, true, rfl, rfl, Lib.hid ⟨HRG1.out, HS.out, HB1.out⟩⟩
          case measure => rw [HRG1.out.left_eq, HK.out.1.left_eq]; exact HCL.out
        | true =>
          by_cases hf : c.first < v
          · have HS := Lib.hid (TxnP.old_take HR.out HC.out HK.out.2.1 hl (.inr hf))
            have hd2 : decide (c.first < v) = true := by simpa using hf
            clear hl hf
            go_wp2
            go_roundw
            case rel => exact ⟨_, cnt1, c.first, true, rfl, rfl, Lib.hid ⟨HRG1.out, HS.out, HB1.out⟩⟩
            case measure => rw [HRG1.out.left_eq, HK.out.1.left_eq]; exact HCL.out
          · have HS := Lib.hid (TxnP.old_stay HR.out HC.out HK.out.2.1 (.inr ⟨rfl, hf⟩))
            have hd2 : decide (c.first < v) = false := by simpa using hf
            clear hl hf
            go_wp2
            go_roundw
            case rel => exact ⟨_, cnt1, v, true, rfl, rfl, Lib.hid ⟨HRG1.out, HS.out, HB1.out⟩⟩
            case measure => rw [HRG1.out.left_eq, HK.out.1.left_eq]; exact HCL.out
end TxnW
end Go.Proofs.Ytbcpepjedhafbaa
