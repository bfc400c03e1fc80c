/-
  An append of bytes onto bytes of the call's own, in one step: its run, the row, what stays.
-/
import Derived.Test.YtldgdgfplgdipaaBe
import Derived.Test.YtldgdgfplgdipaaStr
namespace Go.Proofs.Ytldgdgfplgdipaa
open Go.RowKit

/-- a slice of the call's own: all of its memory is above base -/
def Own (w : World) (base : Nat) (A : Option Addr) (n c : Nat) (l : List UInt8) : Prop := w.ownsRow base 5 1 (.slice A n c) n (l.map byteV)
section
variable {w w' : World} {base n c : Nat} {A : Option Addr} {l : List UInt8}
theorem Own.bytes (h : Own w base A n c l) : Bytes w w.heap.size A n c l := Bytes.own h
theorem Own.len (h : Own w base A n c l) : l.length = n := (Own.bytes h).len
theorem Own.none_ (w : World) (base : Nat) : Own w base none 0 0 [] := World.ownsRow_nil _ _ _ _
theorem Own.next (h : Own w base A n c l) (hb : Below w.heap.size w w') : Own w' base A n c l := own_next h hb
theorem Own.alloc (h : Own w base A n c l) (o : Obj) : Own (w.alloc o) base A n c l := World.ownsRow.alloc h o
theorem Own.drewN (h : Own w base A n c l) (k : Nat) : Own (w.drewN k) base A n c l := h
theorem Own.set (h : Own w base A n c l) {b : Nat} (hb : b < base) (i : Nat) (u : Value) : Own (w.setCell ⟨b, i, none⟩ u) base A n c l := own_set h hb i u
theorem Own.one (w : World) (base : Nat) (hb : base ≤ w.heap.size) (u : UInt8) : Own (w.alloc (.cells #[.int .u8 (u.toNat : Int)] 5)) base (some ⟨w.heap.size, 0, none⟩) 1 1 [u] :=
  ⟨rfl, .inr ⟨_, _, _, rfl, hb, heap_alloc_new w _, Nat.le_refl _, by decide, rfl, rfl⟩⟩
theorem Own.app (h : Own w base A n c l) {B m c2 : Nat} {A2 : Option Addr} {l2 : List UInt8} (h2 : Bytes w B A2 m c2 l2) (hn : n + m ≤ 140737488355328) (hb : base ≤ w.heap.size) :
    ∃ A' c' w', (appSem #[22, 22] 22 #[.slice A n c, .slice A2 m c2]).run Try.prog w = .ok (.slice A' (n + m) c') w' ∧ Own w' base A' (n + m) c' (l ++ l2) ∧ Below base w w' := by
  obtain ⟨i0, hi, hz0, hz1, hz2⟩ := info_parts Be.infoU8
  obtain ⟨v', w', happ, hown, hgrow⟩ := run_append_bytes (P := Try.prog) w base 22 22 5 i0 _ Try.underlying22 hi hz0 hz1 hz2 rfl (.slice A n c) n (l.map byteV) h B A2 m c2 l2 h2 hn hb
  obtain ⟨A', c', rfl⟩ := own_slice hown
  refine ⟨A', c', w', happ, by simpa [Own] using hown, (Below.refl _ w).grown hgrow hb (own_block h)⟩
theorem Own.empty (w : World) (base : Nat) (hb : base ≤ w.heap.size) : Own (w.alloc (.cells #[] 5)) base (some ⟨w.heap.size, 0, none⟩) 0 0 [] :=
  ⟨rfl, .inr ⟨_, _, _, rfl, hb, heap_alloc_new w _, Nat.le_refl _, by decide, rfl, rfl⟩⟩
/-- an append as one step of a region that draws its order -/
theorem step_app {ops : Array Oper} {o : Oper} {a : Act} {K : Act → World → Prop} {Q : Exit → Act → World → Prop} {E : Prop} (hgd : o.guard = none) (s x : Operand)
    (ho : o.op = .call { callee := .builtin .append, args := #[s, x], argTypes := #[22, 22] }) (hty : o.type = 22)
    (hs : a.eval s = .slice A n c) (h : Own w base A n c l) {B m c2 : Nat} {A2 : Option Addr} {l2 : List UInt8} (hx : a.eval x = .slice A2 m c2) (h2 : Bytes w B A2 m c2 l2)
    (hn : n + m ≤ 140737488355328) (hb : base ≤ w.heap.size)
    (k : ∀ A' c' w', Own w' base A' (n + m) c' (l ++ l2) → Below base w w' → K (a.put o.dst (.slice A' (n + m) c')) w') :
    if Region.wanted o (yielded ops a.tmps) = true then Oper.wp Try.prog o a w K Q else E := by
  have hw : Region.wanted o (yielded ops a.tmps) = true := by simp [Region.wanted, hgd]
  rw [if_pos hw]
  obtain ⟨A', c', w', hr, hO, hB⟩ := h.app h2 hn hb
  unfold appSem at hr
  unfold Oper.wp execOp
  simp only [ho, hty, resolve, invoke, builtin, Sem.run_bind, Sem.run_pure, Result.andThen_ok, List.map_toArray, List.map_cons, List.map_nil, hs, hx, hr]
  exact k A' c' w' hO hB
theorem held_app {W w1 : World} (h : (∀ b o, b < W.heap.size → w'.cell? ⟨b, o, none⟩ = W.cell? ⟨b, o, none⟩) ∧ Below W.heap.size W w') (hb : Below W.heap.size w' w1) :
    (∀ b o, b < W.heap.size → w1.cell? ⟨b, o, none⟩ = W.cell? ⟨b, o, none⟩) ∧ Below W.heap.size W w1 :=
  ⟨fun b o hlt => (hb.cell (p := ⟨b, o, none⟩) hlt).trans (h.1 b o hlt), h.2.trans hb⟩
end
end Go.Proofs.Ytldgdgfplgdipaa
