/-
  Texts of one claim, joined: Parts.
-/
import Derived.Test.YtiokcemlfdonnaaRecP17
import Derived.Test.YtiokcemlfdonnaaRecP16
namespace Go.Proofs.Ytiokcemlfdonnaa
open Go.RowKit
set_option linter.unusedVariables false
/-- bytes as an element -/
def PartE : El (List UInt8) where
  size := 1
  pos := by decide
  rel w B vs l := ∃ A n c, vs = [.slice A n c] ∧ Bytes w B A n c l
  len := by rintro w B vs p ⟨A, n, c, rfl, _⟩; rfl
  one := by rintro w B vs p ⟨A, n, c, rfl, _⟩ v hv; simp only [List.mem_cons, List.not_mem_nil, or_false] at hv; rw [hv]; rfl
  sub := by rintro w w' B vs p hs ⟨A, n, c, e, h⟩; exact ⟨A, n, c, e, h.sub hs⟩
  more := by rintro w B B' vs p hB ⟨A, n, c, e, h⟩; exact ⟨A, n, c, e, h.more hB⟩
namespace ConcatW
attribute [local go_sem ↓] app_fold
set_option maxRecDepth 100000 in
set_option maxHeartbeats 1000000 in
theorem concat_row (ps : List Part) (b o cc : Nat) (w : World) (hlt : b < w.heap.size) (hcell : ∀ k (h : k < ps.length), w.cell? ⟨b, o + k, none⟩ = some (.slice (ps[k]).1 (ps[k]).2.1 (ps[k]).2.2.1)) (hY : ∀ p ∈ ps, Bytes w w.heap.size p.1 p.2.1 p.2.2.1 p.2.2.2) (hs : total ps ≤ 1099511627776) (hk : ps.length ≤ 100) :
    Calls Try.prog 75 #[.slice (some ⟨b, o, none⟩) ps.length cc] w (GivesNew w (all ps)) := by
  have HY := Lib.hid hY
  have HC := Lib.hid hcell
  clear hY hcell
  obtain ⟨m, hm⟩ : ∃ m, ps.length = m := ⟨_, rfl⟩
  rw [hm] at hk ⊢
  have HM := Lib.hid hm
  clear hm
  go_enter Try.func75, Try.ntmps75
  go_wp2
  go_loopw [3, 11] (fun s i wr => ∃ k : Nat, k ≤ m ∧ i = .int .i64 (k : Int) ∧ s = .int .i64 (total (ps.take k) : Int) ∧ w = wr) (fun _ i _ => m - (intOf i).toNat)
  case atStart => exact ⟨0, Nat.zero_le _, rfl, rfl, rfl⟩
  case round =>
    obtain ⟨k, hkm, rfl, rfl, rfl⟩ := hrel
    by_cases hlt2 : k < m
    · have hx := HC.out k (by have := HM.out; omega)
      have HT := Lib.hid (total_succ ps k (by have := HM.out; omega))
      have hle := total_le ps (k + 1)
      rw [HT.out] at hle
      generalize hp : ps[k]'(by have := HM.out; omega) = p at *
      generalize total (ps.take k) = tk at *
      obtain ⟨A, n, c, l⟩ := p
      dsimp only at *
      go_wp2
      go_roundw
      case rel => exact ⟨k + 1, by omega, by go_num, by rw [HT.out]; simp, by simp⟩
      case measure => simp [intOf]; omega
    · have hkm' : m = k := by omega
      subst hkm'
      have ht : total (ps.take m) = total ps := by rw [List.take_of_length_le (by have := HM.out; omega)]
      rw [ht]
      go_wp2_with (go_at_call 107; refine (grow_any _ hs _).mono ?_; rintro e w1 ⟨A1, c1, rfl, hO1, hb1⟩)
      have HO1 := Lib.hid hO1
      have HB1 := Lib.hid hb1
      clear hO1 hb1 ht hkm hlt2
      go_loopw [6, 27] (fun s i wr => ∃ (k : Nat) (A : Option Addr) (n c : Nat), k ≤ m ∧ i = .int .i64 (k : Int) ∧ s = .slice A n c ∧ n = total (ps.take k) ∧ Own wr w.heap.size A n c (all (ps.take k)) ∧ Below w.heap.size w wr) (fun _ i _ => m - (intOf i).toNat)
      case atStart => exact ⟨0, A1, 0, c1, Nat.zero_le _, rfl, rfl, rfl, HO1.out, HB1.out⟩
      case round =>
        obtain ⟨k, A, n, c, hkm, rfl, rfl, hn, hO, hB⟩ := hrel
        by_cases hlt2 : k < m
        · have hkl : k < ps.length := by have := HM.out; omega
          have hy := (HY.out _ (List.getElem_mem hkl)).below (hB.mono (Nat.le_refl _))
          have hx : wr.cell? ⟨b, o + k, none⟩ = some (.slice (ps[k]).1 (ps[k]).2.1 (ps[k]).2.2.1) := (hB.cell (p := ⟨b, o + k, none⟩) hlt).trans (HC.out k hkl)
          have ht := total_succ ps k hkl
          have hle := total_le ps (k + 1)
          rw [ht, ← hn] at hle
          rw [← hn] at ht
          have HT := Lib.hid ht
          have HAL := Lib.hid (all_succ ps k hkl)
          generalize hp : ps[k] = p at *
          obtain ⟨A2, n2, c2, l2⟩ := p
          dsimp only at *
          obtain ⟨A3, c3, w3, happ3, hO3, hb3⟩ := hO.app hy (by omega) hB.size
          have HO3 := Lib.hid hO3
          have HB3 := Lib.hid (hB.trans hb3)
          have hws := hB.size
          have hltr : b < wr.heap.size := by omega
          clear hn ht hO hB hy hO3 hb3 hp hle
          go_wp2
          go_roundw
          case rel => exact ⟨k + 1, A3, n + n2, c3, by omega, by go_num, rfl, HT.out.symm, by rw [HAL.out]; exact HO3.out, HB3.out⟩
          case measure => simp [intOf]; omega
        · have hkm' : m = k := by omega
          subst hkm'
          rw [List.take_of_length_le (by have := HM.out; omega)] at hO
          have HO := Lib.hid hO
          have HB := Lib.hid hB
          clear hn hO hB
          go_wp2
          go_ret
          exact ⟨A, n, c, rfl, own_above HO.out, HB.out⟩
theorem parts_of {w : World} {B : Nat} : ∀ {vs : List (List Value)} {ls : List (List UInt8)}, Rel2 (PartE.rel w B) vs ls → ∃ ps : List Part, ps.length = ls.length ∧ all ps = ls.flatten ∧ (∀ p ∈ ps, Bytes w B p.1 p.2.1 p.2.2.1 p.2.2.2) ∧ (∀ k (h : k < ps.length), vs.flatten[k]? = some (partV ps[k])) ∧ total ps = ls.flatten.length
  | [], [], _ => ⟨[], rfl, rfl, (fun p hp => absurd hp (List.not_mem_nil)), (fun k h => absurd h (Nat.not_lt_zero _)), rfl⟩
  | v :: vs, l :: ls, h => by
    obtain ⟨⟨A, n, c, e, hy⟩, h2⟩ := h
    obtain ⟨ps, h3, h4, h5, h6, h7⟩ := parts_of h2
    refine ⟨(A, n, c, l) :: ps, by simp [h3], ?_, ?_, ?_, ?_⟩
    · show l ++ all ps = _
      rw [h4]; rfl
    · intro p hp
      rcases List.mem_cons.1 hp with rfl | hp
      · exact hy
      · exact h5 p hp
    · intro k hk
      rw [e]
      cases k with
      | zero => rfl
      | succ k => exact h6 k (by simpa using hk)
    · show n + total ps = _
      rw [h7, List.flatten_cons, List.length_append, hy.len]
  | [], _ :: _, h => h.elim
  | _ :: _, [], h => h.elim
theorem concat_new (ps : List Part) (b : Nat) (w : World) (hS : Str w b (ps.map partV).toArray) (hY : ∀ p ∈ ps, Bytes w w.heap.size p.1 p.2.1 p.2.2.1 p.2.2.2) (hs : total ps ≤ 1099511627776) (hk : ps.length ≤ 100) :
    Calls Try.prog 75 #[.slice (some ⟨b, 0, none⟩) ps.length ps.length] w (GivesNew w (all ps)) :=
  concat_row ps b 0 ps.length w hS.lt (fun k h => by rw [Nat.zero_add, hS.cell]; simp [h, partV]) hY hs hk
theorem concat_elems (A : Option Addr) (n c B : Nat) (ls : List (List UInt8)) (w : World) (h : Elems PartE w B A n c ls) (hB : B ≤ w.heap.size) (hn : 0 < n) (hs : ls.flatten.length ≤ 1099511627776) (hk : n ≤ 100) :
    Calls Try.prog 75 #[.slice A n c] w (GivesNew w ls.flatten) := by
  obtain ⟨vs, hr, hl, hc, hm, hx⟩ := h
  obtain ⟨b, o, rfl, hb, hcell⟩ := hx hn
  obtain ⟨ps, h3, h4, h5, h6, h7⟩ := parts_of hr
  have := concat_row ps b o c w (Nat.lt_of_lt_of_le hb hB) (fun k hk => hcell k _ (h6 k hk)) (fun p hp => (h5 p hp).more hB) (by rw [h7]; exact hs) (by omega)
  rw [h3, hl, h4] at this
  exact this
end ConcatW
end Go.Proofs.Ytiokcemlfdonnaa
