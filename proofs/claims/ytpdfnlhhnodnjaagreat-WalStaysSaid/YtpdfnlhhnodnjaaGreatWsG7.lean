/-
  Parts of the proof of WalStays.
-/
import Derived.Test.YtpdfnlhhnodnjaaGreatWsG6
import Derived.Test.YtpdfnlhhnodnjaaGreatWsG1
import Derived.Test.YtpdfnlhhnodnjaaGreatWsG3
import Derived.Test.YtpdfnlhhnodnjaaGreatWsG0
import Derived.Lib.BufferWrite
import Derived.Lib.AppendZerosOnto
import Derived.Lib.Overlaps
section
namespace Go.Proofs.YtpdfnlhhnodnjaaGreat
open Go.RowKit
set_option linter.unusedVariables false

/-- blocks hidden -/
def hideL (w : World) : List Nat → World
  | [] => w
  | g :: bs => hide (hideL w bs) g
theorem hideL_in (w : World) (p : Addr) : ∀ bs, p.block ∈ bs → (hideL w bs).cell? p = none
  | g :: bs, h => by
    by_cases e : p.block = g
    · subst e; exact hide_none _ p
    · show (hide (hideL w bs) g).cell? p = none
      rw [hide_other _ g p e]
      exact hideL_in w p bs (by rcases List.mem_cons.1 h with h | h; exact absurd h e; exact h)
theorem hideL_out (w : World) (p : Addr) : ∀ bs, p.block ∉ bs → (hideL w bs).cell? p = w.cell? p
  | [], _ => rfl
  | g :: bs, h => by
    rw [List.mem_cons, not_or] at h
    show (hide (hideL w bs) g).cell? p = _
    rw [hide_other _ g p h.1]
    exact hideL_out w p bs h.2
theorem sub_hideL (B : Nat) (w : World) (bs : List Nat) : Sub B (hideL w bs) w := by
  intro p v hp hv
  by_cases h : p.block ∈ bs
  · rw [hideL_in w p bs h] at hv; cases hv
  · rwa [hideL_out w p bs h] at hv
theorem hideL_sub_of {B : Nat} {w w' : World} {bs bs' : List Nat} (h : ∀ k, k < B → k ∉ bs → k ∉ bs' ∧ w'.heap[k]? = w.heap[k]?) : Sub B (hideL w bs) (hideL w' bs') := by
  intro p v hp hv
  by_cases hg : p.block ∈ bs
  · rw [hideL_in w p bs hg] at hv; cases hv
  · obtain ⟨h1, h2⟩ := h _ hp hg
    rw [hideL_out w p bs hg] at hv
    rw [hideL_out w' p bs' h1, World.cell?_of_block h2]
    exact hv
theorem hideL_below {B : Nat} {w w' : World} (bs : List Nat) (h : Below B w w') : Sub B (hideL w bs) (hideL w' bs) := hideL_sub_of fun k hk hn => ⟨hn, h.block k hk⟩
/-- what lies below all that is hidden -/
theorem sub_hideL_lt {B : Nat} (w : World) (bs : List Nat) (h : ∀ b ∈ bs, B ≤ b) : Sub B w (hideL w bs) := fun p v hp hv => by rw [hideL_out w p bs (fun hm => by have := h _ hm; omega)]; exact hv
/-- bytes do not hang on rows without bytes -/
theorem Bytes.hideL {w : World} {B n c : Nat} {A : Option Addr} {l : List UInt8} (h : Bytes w B A n c l) (bs : List Nat) (hn : ∀ b ∈ bs, ∃ cs, Str w b cs ∧ notU8 cs = true) : Bytes (hideL w bs) B A n c l := by
  obtain ⟨h1, h2, h3, h4⟩ := h
  refine ⟨h1, h2, h3, fun hpos => ?_⟩
  obtain ⟨b, o, e, hb, hc⟩ := h4 hpos
  refine ⟨b, o, e, hb, fun j u hu => ?_⟩
  rw [hideL_out w ⟨b, o + j, none⟩ bs]
  · exact hc j u hu
  · intro hm
    obtain ⟨cs, hs, hn1⟩ := hn b hm
    have hx := hc j u hu
    rw [hs.cell] at hx
    have hm2 : byteV u ∈ cs.toList := by
      rw [Array.mem_toList_iff]
      exact Array.mem_of_getElem? hx
    have := List.all_eq_true.1 hn1 _ hm2
    simp [byteV] at this

/-- a word on a value and what it hangs on, below a bound -/
structure MP (β : Type) where
  pred : β → World → Nat → Prop
  mono : ∀ {v w w' B B'}, Sub B w w' → B ≤ B' → pred v w B → pred v w' B'
namespace Reg
/-- nothing that was there turns, but for these blocks -/
structure KeepB (N : Nat) (b0 : List Nat) (w w' : World) : Prop where
  os : w'.os = w.os
  tape : w'.tape = w.tape
  output : w'.output = w.output
  size : w.heap.size ≤ w'.heap.size
  block : ∀ k, k < N → k ∉ b0 → w'.heap[k]? = w.heap[k]?
theorem KeepB.of {N : Nat} {b0 : List Nat} {w w' : World} (h : Below N w w') : KeepB N b0 w w' := ⟨h.os, h.tape, h.output, h.size, fun k hk _ => h.block k hk⟩
theorem KeepB.below {N M : Nat} {b0 : List Nat} {w w' : World} (h : KeepB N b0 w w') (hM : M ≤ N) (h0 : ∀ b ∈ b0, M ≤ b) : Below M w w' := ⟨h.os, h.tape, h.output, h.size, fun k hk => h.block k (by omega) (fun hm => by have := h0 k hm; omega)⟩
theorem KeepB.cell {N : Nat} {b0 : List Nat} {w w' : World} (h : KeepB N b0 w w') {p : Addr} (h1 : p.block < N) (h2 : p.block ∉ b0) : w'.cell? p = w.cell? p := World.cell?_of_block (h.block p.block h1 h2)
theorem KeepB.str {N b : Nat} {b0 : List Nat} {w w' : World} {cs : Array Value} (h : KeepB N b0 w w') (hs : Str w b cs) (h1 : b < N) (h2 : b ∉ b0) : Str w' b cs := by
  obtain ⟨t, ht⟩ := hs
  exact ⟨t, (h.block b h1 h2).trans ht⟩
def extB (N : Nat) (b0 : List Nat) : Way := ⟨fun w w' => KeepB N b0 w w', fun w => KeepB.of (Below.refl N w), fun _ _ _ h k => ⟨k.os.trans h.os, k.tape.trans h.tape, k.output.trans h.output, Nat.le_trans h.size k.size, fun i hi hb => (k.block i hi hb).trans (h.block i hi hb)⟩, fun _ => ⟨rfl, rfl, rfl, Nat.le_refl _, fun _ _ _ => rfl⟩⟩
/-- boxes (who makes it, its slot, who stores into it), what lies in them; values (who makes it, its slot); boxes that were there (slot, block, who stores) -/
structure BxS where
  K : List (Nat × Tmp × Nat)
  Z : Tmp → Array Value
  X : Tmp → MP (Array Value)
  KM : List (Nat × Tmp)
  M : Tmp → MP Value
  K0 : List (Tmp × Nat × Nat)
def BxS.b0 (S : BxS) : List Nat := S.K0.map fun k => k.2.1
/-- the hidden blocks -/
def Bs (N : Nat) (b0 : List Nat) (w : World) (bs : List Nat) : Prop := ∀ b ∈ bs, (b ∈ b0 ∨ N ≤ b) ∧ b < w.heap.size ∧ ∃ cs, Str w b cs ∧ notU8 cs = true
section
variable {N : Nat} {S : BxS} {listed : Array Bool} {a : Act} {w w' : World} {j : Nat}
theorem Bs.next {b0 bs : List Nat} (h : Bs N b0 w bs) (hb : Below w.heap.size w w') : Bs N b0 w' bs := fun b hm => by
  obtain ⟨h1, h2, cs, h3, h4⟩ := h b hm
  exact ⟨h1, Nat.lt_of_lt_of_le h2 hb.size, cs, h3.next hb, h4⟩
end
section
variable {N : Nat} {S : BxS} {P : Program} {ops : Array Oper} {Q : Exit → Act → World → Prop} {T : List (SP (extB N S.b0))} {a0 : Act} {W : World} {j : Nat} {o : Oper} {s : List (Tmp × Option Nat)}
/-- what such an operation leaves -/
structure DoneM (S : BxS) (t : Tmp) (bs : List Nat) (a : Act) (w : World) (a' : Act) (w' : World) : Prop where
  out : ∃ v, a' = a.put (some t) v ∧ Below w.heap.size w w' ∧ (S.M t).pred v (hideL w' bs) w'.heap.size
/-- what a store into a box leaves -/
structure StoredB (S : BxS) (t : Tmp) (g : Nat) (bs : List Nat) (a : Act) (w : World) (a' : Act) (w' : World) : Prop where
  out : a' = a ∧ ∃ cs, w' = w.setRow g cs ∧ notU8 cs = true ∧ (S.X t).pred cs (hideL w bs) w.heap.size
end
section
variable {R : Way} {P : Program} {ops : Array Oper} {Q : Exit → Act → World → Prop} {T : List (SP R)} {a0 a : Act} {W w : World}
/-- THE LAW beside a word that holds at the region's head -/
theorem wp_region_box {id : Nat} (J : Word) (T : List (SP R)) (n : Nat) (L : List (List (Tmp × Option Nat))) (hn : a0.tmps.size = n) (hm : P.follows .mixedOrders = true) (hc : checkB ops n = true) (hJ0 : ∀ listed, (∀ i, listed.getD i false = false) → J listed a0 W.drew) (hL : lookAll ops 0 ops.toList = L) (hobl : OblsJ P ops Q T J a0 W 0 ops.toList L)
    (D : List (Option Tmp)) (hD : ops.toList.map (·.dst) = D) (hfin : ∀ w' listed, R.rel W w' → (∀ i, i < ops.size → listed.getD i false = true) → Fin (fun a w => J listed a w → Q .normal a w) w' D T a0) : (Code.region id ops true).wp P Q a0 W := by
  subst hn
  subst hL
  subst hD
  refine wp_region_any hm (wpAny_J (form_of hc) hobl hfin _ _ _ _ (by simp) ⟨R.drew W, rfl, rfl, by simp, fun _ _ => rfl, fun i o ho hl => ?_, fun i o ho hl e he hb => ?_⟩ (hJ0 _ fun i => ?_))
  · have hlt := (Array.getElem?_eq_some_iff.1 ho).1
    simp [hlt] at hl
  · have hlt := (Array.getElem?_eq_some_iff.1 ho).1
    simp [hlt] at hl
  · rw [Array.getD_eq_getD_getElem?]
    by_cases hi : i < ops.size
    · simp [hi]
    · simp [hi]
end
/-! what is seen by reckoning alone -/
def okB (K : List (Nat × Tmp × Nat)) (KM : List (Nat × Tmp)) (K0 : List (Tmp × Nat)) : Bool :=
  (K.all fun b => K.all fun c => (!(b.1 == c.1 || (b.2.1 == c.2.1 || b.2.2 == c.2.2)) || b == c) && b.1 != c.2.2) &&
  (K.all fun b => KM.all fun m => b.1 != m.1 && (b.2.2 != m.1 && b.2.1 != m.2)) && (KM.all fun m => KM.all fun m' => !(m.1 == m'.1 || m.2 == m'.2) || m == m') &&
  (K0.all fun k => (K.all fun b => k.2 != b.1 && k.2 != b.2.2) && KM.all fun m => k.2 != m.1)
section
variable {N : Nat} {S : BxS} {P : Program} {ops : Array Oper} {Q : Exit → Act → World → Prop} {T : List (SP (extB N S.b0))} {a0 a : Act} {W w : World} {j : Nat} {o : Oper} {s : List (Tmp × Option Nat)} {t : Tmp} {bs : List Nat}
end
end Reg
theorem hideL_append (w : World) (bs : List Nat) : ∀ obs, hideL w (obs ++ bs) = hideL (hideL w bs) obs
  | [] => rfl
  | g :: obs => congrArg (fun x => hide x g) (hideL_append w bs obs)
theorem hideL_mono {B : Nat} {w w' : World} (obs : List Nat) (h : Sub B w w') : Sub B (hideL w obs) (hideL w' obs) := by
  intro p v hp hv
  by_cases hg : p.block ∈ obs
  · rw [hideL_in w p obs hg] at hv; cases hv
  · rw [hideL_out w p obs hg] at hv
    rw [hideL_out w' p obs hg]
    exact h p v hp hv
theorem Bytes.keepB {w w' : World} {B n c : Nat} {b0 : List Nat} {A : Option Addr} {l : List UInt8} (h : Bytes w B A n c l) (hB : B ≤ w.heap.size) (hn : ∀ b ∈ b0, ∃ cs, Str w b cs ∧ notU8 cs = true) (hk : Reg.KeepB w.heap.size b0 w w') : Bytes w' B A n c l :=
  (h.hideL b0 hn).sub fun p v hp hv => by
    by_cases hm : p.block ∈ b0
    · rw [hideL_in w p b0 hm] at hv; cases hv
    · rw [hideL_out w p b0 hm] at hv
      rw [hk.cell (by omega) hm]
      exact hv
/-- bytes that hang on none of these blocks -/
def BytesH (bs : List Nat) (w : World) (A : Option Addr) (n c : Nat) (l : List UInt8) : Prop := Bytes (hideL w bs) w.heap.size A n c l
theorem BytesH.keepB {bs : List Nat} {w w' : World} {n c : Nat} {b0 : List Nat} {A : Option Addr} {l : List UInt8} (h : BytesH bs w A n c l) (hn : ∀ b ∈ b0, ∃ cs, Str w b cs ∧ notU8 cs = true) (hk : Reg.KeepB w.heap.size b0 w w') : BytesH bs w' A n c l := by
  refine Bytes.more (w := Go.Proofs.YtpdfnlhhnodnjaaGreat.hideL w' bs) (Bytes.sub (w := Go.Proofs.YtpdfnlhhnodnjaaGreat.hideL w (bs ++ b0)) (B := w.heap.size) ?_ ?_) hk.size
  · rw [hideL_append]
    obtain ⟨h1, h2, h3, h4⟩ := h
    refine ⟨h1, h2, h3, fun hpos => ?_⟩
    obtain ⟨b, o, e, hb, hc⟩ := h4 hpos
    refine ⟨b, o, e, hb, fun j u hu => ?_⟩
    have hx := hc j u hu
    have hnb : b ∉ bs := fun hm => by
      have h0 : (Go.Proofs.YtpdfnlhhnodnjaaGreat.hideL w bs).cell? ⟨b, o + j, none⟩ = none := hideL_in w ⟨b, o + j, none⟩ bs hm
      rw [h0] at hx; cases hx
    rw [hideL_out w ⟨b, o + j, none⟩ bs hnb] at hx
    rw [hideL_out _ ⟨b, o + j, none⟩ bs hnb, hideL_out w ⟨b, o + j, none⟩ b0]
    · exact hx
    · intro hm
      obtain ⟨cs, hs, hn1⟩ := hn b hm
      rw [hs.cell] at hx
      have hm2 : byteV u ∈ cs.toList := by
        rw [Array.mem_toList_iff]
        exact Array.mem_of_getElem? hx
      have := List.all_eq_true.1 hn1 _ hm2
      simp [byteV] at this
  · rw [hideL_append]
    refine hideL_mono bs fun p v hp hv => ?_
    by_cases hm : p.block ∈ b0
    · rw [hideL_in w p b0 hm] at hv; cases hv
    · rw [hideL_out w p b0 hm] at hv
      rw [hk.cell hp hm]
      exact hv
namespace Reg
end Reg
end Go.Proofs.YtpdfnlhhnodnjaaGreat
end
section
namespace Go.Proofs.YtpdfnlhhnodnjaaGreat
open Go.RowKit
set_option linter.unusedVariables false
theorem Reg.KeepB.trans {N M : Nat} {b0 : List Nat} {a b c : World} (h : Reg.KeepB N b0 a b) (k : Reg.KeepB M b0 b c) (hN : N ≤ M) : Reg.KeepB N b0 a c :=
  ⟨k.os.trans h.os, k.tape.trans h.tape, k.output.trans h.output, Nat.le_trans h.size k.size, fun i hi hb => (k.block i (by omega) hb).trans (h.block i hi hb)⟩
theorem Reg.KeepB.more {N : Nat} {b0 b1 : List Nat} {a b : World} (h : Reg.KeepB N b0 a b) (hs : ∀ x ∈ b0, x ∈ b1) : Reg.KeepB N b1 a b :=
  ⟨h.os, h.tape, h.output, h.size, fun i hi hb => h.block i hi (fun hm => hb (hs i hm))⟩
theorem Reg.KeepB.less {N M : Nat} {b0 : List Nat} {a b : World} (h : Reg.KeepB N b0 a b) (hM : M ≤ N) : Reg.KeepB M b0 a b :=
  ⟨h.os, h.tape, h.output, h.size, fun i hi hb => h.block i (by omega) hb⟩
/-- blocks that are none of the call's -/
theorem Reg.KeepB.grown {N : Nat} {b0 : List Nat} {a b c : World} {g : Nat} (h : Reg.KeepB N b0 a b) (k : b.grownBy c (some g)) (hN : N ≤ b.heap.size) (hg : N ≤ g ∨ g ∈ b0) : Reg.KeepB N b0 a c :=
  ⟨k.os.trans h.os, k.tape.trans h.tape, k.output.trans h.output, Nat.le_trans h.size k.size, fun i hi hb => (k.block i (by omega) (by intro e; injection e with e; subst e; rcases hg with h1 | h1; omega; exact hb h1)).trans (h.block i hi hb)⟩
theorem Reg.KeepB.step {N : Nat} {b0 : List Nat} {a b c : World} (h : Reg.KeepB N b0 a b) (k : Below b.heap.size b c) (hN : N ≤ b.heap.size) : Reg.KeepB N b0 a c := h.trans (Reg.KeepB.of k) hN
theorem Str.keepB {w w' : World} {b : Nat} {b0 : List Nat} {cs : Array Value} (h : Str w b cs) (k : Reg.KeepB w.heap.size b0 w w') (hb : b ∉ b0) : Str w' b cs := k.str h h.lt hb
theorem drewN_below {B : Nat} {a w : World} (h : Below B a w) (k : Nat) : Below B a (w.drewN k) := ⟨h.os, h.tape, h.output, h.size, h.block⟩
end Go.Proofs.YtpdfnlhhnodnjaaGreat
end
section
namespace Go.Proofs.YtpdfnlhhnodnjaaGreat
open Go.RowKit
open SlotP (over)

def cpSem (ts : Array TypeId) (ty : TypeId) (args : Array Value) : Sem Value := Builtin.copy_ ts ty args
theorem cp_fold (ts : Array TypeId) (ty : TypeId) (args : Array Value) : Builtin.copy_ ts ty args = cpSem ts ty args := rfl

theorem splice_map (l : List UInt8) (off : Nat) (s : List UInt8) : splice (l.map byteV) off (s.map byteV) = (over l off s).map byteV := by
  simp [splice, over]
theorem Str.cs {w : World} {b : Nat} {l : List UInt8} {t : TypeId} (h : w.heap[b]? = some (.cells ((l.map byteV).toArray) t (0, 0))) : Str w b (rowV l) := ⟨t, h⟩

section
variable {P : Program} {w : World}
theorem copy_bytes (dT sT ty e : TypeId) (hu : P.underlying dT = some (.slice e)) (hsz : (P.info? e).map (·.size) = some 1) {g off dLen dCap : Nat} {l : List UInt8} (hg : Str w g (rowV l))
    {B m c : Nat} {A : Option Addr} {src : List UInt8} (hs : Bytes w B A m c src) (hfit : off + dLen ≤ l.length) :
    ∃ w1, (cpSem #[dT, sT] ty #[.slice (some ⟨g, off, none⟩) dLen dCap, .slice A m c]).run P w = .ok (.int .i64 (Nat.min m dLen : Nat)) w1 ∧ Str w1 g (rowV (over l off (src.take dLen))) ∧ w.grownBy w1 (some g) := by
  obtain ⟨t, hg⟩ := hg
  have hl := hs.len
  have hlen : ((src.take dLen).map byteV).length = Nat.min m dLen := by
    simp only [List.length_map, List.length_take, hl]
    exact Nat.min_comm _ _
  obtain ⟨w1, hr, hh, hgr⟩ := run_copy_to (P := P) (w := w) dT sT ty e hu hsz (some ⟨g, off, none⟩) dLen dCap g off (l.map byteV) t hg A m c ((src.take dLen).map byteV) hlen
    (fun hpos => ⟨rfl, by
      obtain ⟨ad, e1, e2⟩ := hs.src (by simp at hpos ⊢; omega)
      refine ⟨ad, e1, fun j v hv => e2 j v ?_⟩
      rw [List.map_take, List.getElem?_take] at hv
      split at hv
      · exact hv
      · cases hv⟩) (by simp; omega) (byteV_one _)
  refine ⟨w1, ?_, ?_, hgr⟩
  · rw [hlen] at hr
    exact hr
  · rw [splice_map] at hh
    exact ⟨t, hh⟩
theorem copy_string (dT sT ty e : TypeId) (hu : P.underlying dT = some (.slice e)) (hsz : (P.info? e).map (·.size) = some 1) {g off dLen dCap : Nat} {l : List UInt8} (hg : Str w g (rowV l))
    (s : ByteArray) (hm : s.size ≤ dLen) (hfit : off + dLen ≤ l.length) :
    ∃ w1, (cpSem #[dT, sT] ty #[.slice (some ⟨g, off, none⟩) dLen dCap, .string s]).run P w = .ok (.int .i64 (s.size : Nat)) w1 ∧ Str w1 g (rowV (over l off s.data.toList)) ∧ w.grownBy w1 (some g) := by
  obtain ⟨t, hg⟩ := hg
  have hr := Lib.run_copy_row_string (P := P) w dT sT ty e g off dLen dCap s (rowV l) t hu hsz hg hm (by rw [rowV_size]; omega)
  have hl : s.data.toList.length = s.size := Array.length_toList
  refine ⟨_, hr, ⟨t, ?_⟩, grown_setRow w g _⟩
  have he : ((rowV l).toList.take off ++ Lib.byteCells s.data.toList ++ (rowV l).toList.drop (off + s.size)).toArray = rowV (over l off s.data.toList) := by
    have hb : Lib.byteCells s.data.toList = s.data.toList.map byteV := rfl
    rw [hb]
    simp [rowV, over, hl]
  rw [he]
  exact setRow_heap w g _ _ t _ hg
end
end Go.Proofs.YtpdfnlhhnodnjaaGreat
end
section
namespace Go.Proofs.YtpdfnlhhnodnjaaGreat
open Go.RowKit
set_option linter.unusedVariables false

/-- cells put over others -/
def overV (l : List Value) (off : Nat) (s : List Value) : List Value := l.take off ++ (s ++ l.drop (off + s.length))
theorem overV_length (l : List Value) (off : Nat) (s : List Value) (h : off + s.length ≤ l.length) : (overV l off s).length = l.length := by
  simp [overV]; omega
theorem overV_append (p q s : List Value) (off : Nat) (h : off + s.length ≤ p.length) : overV (p ++ q) off s = overV p off s ++ q := by
  unfold overV
  rw [List.take_append_of_le_length (by omega), List.drop_append_of_le_length (by omega)]
  simp [List.append_assoc]
theorem overV_shift (p q s : List Value) (off : Nat) : overV (p ++ q) (p.length + off) s = p ++ overV q off s := by
  unfold overV
  rw [List.take_length_add_append, Nat.add_assoc, List.drop_length_add_append, List.append_assoc]
/-- a part of one element written: among all -/
theorem over_flat {size : Nat} : ∀ (vs : List (List Value)), (∀ v ∈ vs, v.length = size) → ∀ (j : Nat) (v : List Value) (i : Nat) (s : List Value), vs[j]? = some v → i + s.length ≤ size → overV vs.flatten (j * size + i) s = (vs.set j (overV v i s)).flatten
  | [], _, j, v, i, s, h, _ => by simp at h
  | v0 :: vs, hl, 0, v, i, s, h, hi => by
    simp at h; subst h
    rw [List.flatten_cons, Nat.zero_mul, Nat.zero_add, overV_append _ _ _ _ (by rw [hl v0 (by simp)]; exact hi)]
    rfl
  | v0 :: vs, hl, j + 1, v, i, s, h, hi => by
    have h0 := hl v0 (by simp)
    have := over_flat vs (fun x hx => hl x (by simp [hx])) j v i s (by simpa using h) hi
    rw [List.flatten_cons, show (j + 1) * size + i = v0.length + (j * size + i) by rw [h0, Nat.add_mul]; omega, overV_shift, this]
    rfl
theorem Rel2.all {α : Type} {E : El α} {w : World} {B : Nat} {vs : List (List Value)} {l : List α} (h : Rel2 (E.rel w B) vs l) : ∀ v ∈ vs, v.length = E.size := fun v hv => by
  obtain ⟨x, hx⟩ := h.mem hv
  exact E.len hx
theorem Rel2.one {α : Type} {E : El α} {w : World} {B : Nat} {vs : List (List Value)} {l : List α} (h : Rel2 (E.rel w B) vs l) : ∀ u ∈ vs.flatten, u.oneCell' = true := fun u hu => by
  obtain ⟨v, hv, huv⟩ := List.mem_flatten.1 hu
  obtain ⟨x, hx⟩ := h.mem hv
  exact E.one hx u huv
theorem sz_setRow (w : World) (g : Nat) (cs : Array Value) : (w.setRow g cs).heap.size = w.heap.size := by simp [World.setRow]
theorem hide_setRow (w : World) (g B : Nat) (cs : Array Value) : Sub B (hide w g) (hide (w.setRow g cs) g) := hide_sub_of fun k _ hk => setRow_other w g k cs hk
section
variable {α : Type} {E : El α} {T : TypeId} {w w' : World} {base n c : Nat} {A : Option Addr} {l : List α}
/-- what is known of a row of the call's own that is not nil -/
theorem OwnE.row (h : OwnE E T w base A n c l) (hn : 0 < c) : ∃ g cur vs, A = some ⟨g, 0, none⟩ ∧ base ≤ g ∧ w.heap[g]? = some (.cells cur T (0, 0)) ∧ n ≤ c ∧ c ≤ maxLen ∧ cur.size = c * E.size ∧ cur.toList.take (n * E.size) = vs.flatten ∧ Rel2 (E.rel (hide w g) w.heap.size) vs l ∧ vs.length = n := by
  have hl := h.len
  obtain ⟨vs, h1, h2⟩ := h
  rcases h1.2 with ⟨e, h0⟩ | ⟨g, cap, cur, e, hg, hh, hnc, hm, hc, hx⟩
  · cases e; omega
  · cases e
    exact ⟨g, cur, vs, rfl, hg, hh, hnc, hm, hc, hx, h2, h2.length.trans hl⟩
theorem OwnE.mk' {g : Nat} {cur : List Value} {vs : List (List Value)} (hg : base ≤ g) (hh : w.heap[g]? = some (.cells cur.toArray T (0, 0))) (hnc : n ≤ c) (hm : c ≤ maxLen) (hc : cur.length = c * E.size) (hx : cur.take (n * E.size) = vs.flatten) (hr : Rel2 (E.rel (hide w g) w.heap.size) vs l) (hl : l.length = n) : OwnE E T w base (some ⟨g, 0, none⟩) n c l :=
  ⟨vs, ⟨by rw [hr.flat (fun _ _ => E.len), hl], .inr ⟨g, c, cur.toArray, rfl, hg, hh, hnc, hm, by simpa using hc, by simpa using hx⟩⟩, hr⟩
/-- a part of an element is written -/
theorem OwnE.write {P : Program} (h : OwnE E T w base A n c l) {j i : Nat} {s : List Value} {x : α} (hj : j < n) (hi : i + s.length ≤ E.size) (h1 : ∀ v ∈ s, v.oneCell' = true) (hrel : ∀ g vs, A = some ⟨g, 0, none⟩ → (∀ y, l[j]? = some y → E.rel (hide w g) w.heap.size vs y) → E.rel (hide w g) w.heap.size (overV vs i s) x) :
    ∃ g w1, A = some ⟨g, 0, none⟩ ∧ base ≤ g ∧ g < w.heap.size ∧ (storeCells ⟨g, j * E.size + i, none⟩ s).run P w = .ok () w1 ∧ OwnE E T w1 base A n c (l.set j x) ∧ w.grownBy w1 (some g) ∧ w1.heap.size = w.heap.size := by
  have hlen := h.len
  have hcap := h.elemsIn.cap
  obtain ⟨g, cur, vs, rfl, hg, hh, hnc, hm, hc, hx, hr, hvl⟩ := h.row (by omega)
  have hgl := (Array.getElem?_eq_some_iff.1 hh).1
  have hjs : j * E.size + E.size ≤ n * E.size := by rw [← Nat.succ_mul]; exact Nat.mul_le_mul_right _ hj
  have hns : n * E.size ≤ c * E.size := Nat.mul_le_mul_right _ hnc
  have hrun := run_storeCells_at P g (j * E.size + i) T s 0 cur w hh (by rw [hc]; omega) h1
  simp only [Nat.add_zero] at hrun
  obtain ⟨v, hv, hvr⟩ := hr.get (List.getElem?_eq_getElem (show j < l.length by omega))
  have hov : (cur.toList.take (j * E.size + i) ++ s ++ cur.toList.drop (j * E.size + i + s.length)) = overV cur.toList (j * E.size + i) s := by simp [overV]
  rw [hov] at hrun
  have hsplit : cur.toList = vs.flatten ++ cur.toList.drop (n * E.size) := by rw [← hx, List.take_append_drop]
  have hfl : vs.flatten.length = n * E.size := by rw [hr.flat (fun _ _ => E.len), hlen]
  have hnew : overV cur.toList (j * E.size + i) s = (vs.set j (overV v i s)).flatten ++ cur.toList.drop (n * E.size) := by
    rw [← over_flat vs hr.all j v i s hv hi, ← overV_append _ _ _ _ (by rw [hfl]; omega), ← hsplit]
  have hnl : (overV cur.toList (j * E.size + i) s).length = c * E.size := by rw [overV_length _ _ _ (by simp [hc]; omega)]; simpa using hc
  refine ⟨g, _, rfl, hg, hgl, hrun, ?_, grown_setRow w g _, sz_setRow _ _ _⟩
  have hset := hr.set (hrel g v rfl (fun y hy => by
    rw [List.getElem?_eq_getElem (show j < l.length by omega)] at hy
    cases hy
    exact hvr)) j
  have hfl2 : (vs.set j (overV v i s)).flatten.length = n * E.size := by rw [hset.flat (fun _ _ => E.len), List.length_set, hlen]
  exact OwnE.mk' hg (setRow_heap w g _ _ T _ hh) hnc hm hnl (by rw [hnew, List.take_left' hfl2]) (hset.imp fun _ _ hq => by rw [sz_setRow]; exact E.sub (hide_setRow _ _ _ _) hq) (by simpa using hlen)
/-- made -/
theorem own_made {P : Program} (t : TypeId) (i : TypeInfo) (z : Value) (zs : List Value) (x : α) (ht : P.underlying t = some (.slice T)) (hi : P.info? T = some i) (hz : i.zero = some z) (hs : i.size = E.size) (hzs : z.cells = zs.toArray) (hrel : ∀ w B, E.rel w B zs x)
    (n : Nat) (hbytes : i.bytes * n ≤ 281474976710656) (h63 : n ≤ 100000) (w : World) : ∃ w1, (Instr.makeSlice t (.int .i64 (n : Int)) (.int .i64 (n : Int))).run P w = .ok (.slice (some ⟨w.heap.size, 0, none⟩) n n) w1 ∧ OwnE E T w1 w.heap.size (some ⟨w.heap.size, 0, none⟩) n n (List.replicate n x) ∧ Below w.heap.size w w1 ∧ w1.heap.size = w.heap.size + 1 := by
  have hb' : (i.bytes : Int) * (n : Int) ≤ 281474976710656 := by
    have h : ((i.bytes * n : Nat) : Int) ≤ 281474976710656 := by omega
    rwa [Int.natCast_mul] at h
  have hr := run_make (P := P) w t T i z ht hi hz .i64 .i64 n n (by omega) (Int.le_refl _) hb' (by omega)
  simp only [Int.toNat_natCast] at hr
  refine ⟨_, hr, ?_, balloc (bsame w) _, by simp⟩
  have hzl : zs.length = E.size := E.len (hrel w 0)
  have hcells : (madeCells z.cells (n * i.size)).toList = (List.replicate n zs).flatten := by
    rw [hs, hzs]
    refine List.ext_getElem? fun k => ?_
    have hsz : 0 < E.size := E.pos
    by_cases hk : k < n * E.size
    · have hq : k / E.size < n := Nat.div_lt_of_lt_mul (by have := Nat.mul_comm n E.size; omega)
      have hrm : k % E.size < zs.length := by rw [hzl]; exact Nat.mod_lt _ hsz
      have h1 := flat_at (size := E.size) (List.replicate n zs) (fun v hv => by rw [(List.mem_replicate.1 hv).2]; exact hzl) (k / E.size) zs (k % E.size) zs[k % E.size] (by simp [hq]) (List.getElem?_eq_getElem hrm)
      rw [show k / E.size * E.size + k % E.size = k from Nat.div_add_mod' k E.size] at h1
      rw [h1]
      simp only [madeCells, Array.toList_map, Array.toList_range, List.getElem?_map, List.getElem?_range hk, Option.map_some, Option.some.injEq]
      have : zs.toArray.size = E.size := by simpa using hzl
      rw [this, getElem!_pos zs.toArray (k % E.size) (by simpa using hrm)]
      simp
    · rw [List.getElem?_eq_none (by simp [madeCells]; omega), List.getElem?_eq_none]
      simp [hzl]; omega
  have hrl : Rel2 (E.rel (hide (w.alloc (.cells (madeCells z.cells (n * i.size)) T)) w.heap.size) (w.alloc (.cells (madeCells z.cells (n * i.size)) T)).heap.size) (List.replicate n zs) (List.replicate n x) := by
    clear hr hcells hb' hbytes h63
    generalize hide (w.alloc (.cells (madeCells z.cells (n * i.size)) T)) w.heap.size = u
    generalize (w.alloc (.cells (madeCells z.cells (n * i.size)) T)).heap.size = B
    induction n with
    | zero => trivial
    | succ n ih => exact ⟨hrel _ _, ih⟩
  exact OwnE.mk' (cur := (List.replicate n zs).flatten) (Nat.le_refl _) (by rw [← hcells]; simpa using heap_alloc_new w (.cells (madeCells z.cells (n * i.size)) T)) (Nat.le_refl _) (by unfold maxLen; omega) (by simp [hzl]) (by rw [List.take_of_length_le (by simp [hzl])]) hrl (by simp)
end
end Go.Proofs.YtpdfnlhhnodnjaaGreat
end
section
namespace Go.Proofs.YtpdfnlhhnodnjaaGreat
open Go.RowKit
set_option linter.unusedVariables false
theorem cutA_zero (b o c s : Nat) : cutA (some ⟨b, o, none⟩) 0 c s = some ⟨b, o, none⟩ := by
  unfold cutA
  split
  · rfl
  · simp [add_none]
theorem cutA_pos {b o k c s : Nat} (h : c ≠ k) : cutA (some ⟨b, o, none⟩) k c s = some ⟨b, o + k * s, none⟩ := by
  unfold cutA
  rw [if_neg h]
  simp [add_none]
theorem cutA_some (b o k c s : Nat) : ∃ o', cutA (some ⟨b, o, none⟩) k c s = some ⟨b, o', none⟩ := by
  by_cases h : c = k
  · exact ⟨o, by unfold cutA; rw [if_pos h]⟩
  · exact ⟨_, cutA_pos h⟩
section
variable {α : Type} {E : El α} {T : TypeId} {w w' : World} {base n c : Nat} {A : Option Addr} {l : List α}
theorem OwnE.del {P : Program} (t ty : TypeId) (i : TypeInfo) (ht : P.underlying t = some (.slice T)) (hi : P.info? T = some i) (hs : i.size = E.size) (h : OwnE E T w base A n c l) (k : Nat) (hk : k < n) :
    ∃ g w1, A = some ⟨g, 0, none⟩ ∧ base ≤ g ∧ g < w.heap.size ∧ (appSem #[t, t] ty #[.slice (cutA A 0 c E.size) k c, .slice (cutA A (k + 1) c E.size) (n - (k + 1)) (c - (k + 1))]).run P w = .ok (.slice A (n - 1) c) w1 ∧ OwnE E T w1 base A (n - 1) c (l.eraseIdx k) ∧ w.grownBy w1 (some g) ∧ w1.heap.size = w.heap.size := by
  have hlen := h.len
  have hcap := h.elemsIn.cap
  obtain ⟨g, cur, vs, rfl, hg, hh, hnc, hm, hc, hx, hr, hvl⟩ := h.row (by omega)
  have hgl := (Array.getElem?_eq_some_iff.1 hh).1
  have hsz : 0 < E.size := E.pos
  have hall := hr.all
  have hnl : (vs.drop (k + 1)).flatten.length = (n - (k + 1)) * E.size := by rw [(hr.drop (k + 1)).flat (fun _ _ => E.len)]; simp [hlen]
  have hmul : k * E.size + (n - (k + 1)) * E.size = (n - 1) * E.size := by rw [← Nat.add_mul]; congr 1; omega
  have hle1 : (n - 1) * E.size ≤ c * E.size := Nat.mul_le_mul_right _ (by omega)
  have hkn : k * E.size ≤ n * E.size := Nat.mul_le_mul_right _ (by omega)
  obtain ⟨o', ho'⟩ := cutA_some g 0 (k + 1) c E.size
  have hsrc : ∀ j u, (vs.drop (k + 1)).flatten[j]? = some u → w.cell? ((⟨g, o', none⟩ : Addr).add j) = some u := by
    intro j u hu
    have hpos : 0 < (n - (k + 1)) * E.size := by rw [← hnl]; exact Nat.lt_of_le_of_lt (Nat.zero_le _) (List.getElem?_eq_some_iff.1 hu).1
    have hne : c ≠ k + 1 := by
      rintro rfl
      have : n - (k + 1) = 0 := by omega
      rw [this] at hpos; simp at hpos
    rw [cutA_pos hne] at ho'
    injection ho' with ho'
    injection ho' with _ ho' _
    rw [add_none, ← ho', Nat.zero_add]
    rw [flat_drop vs hall, List.getElem?_drop, ← hx, List.getElem?_take] at hu
    split at hu
    · simp only [World.cell?, hh]
      simpa using hu
    · cases hu
  have hrun := run_append_room (P := P) w t ty T i ht hi g k c cur hh ⟨g, o', none⟩ (n - (k + 1)) (c - (k + 1)) (vs.drop (k + 1)).flatten (by rw [hs]; exact hnl) hsrc (fun u hu => Rel2.one (hr.drop (k + 1)) u hu) (by omega) (by rw [hs, hnl, hmul, hc]; exact hle1)
  rw [hs, hnl, hmul, show k + (n - (k + 1)) = n - 1 by omega] at hrun
  refine ⟨g, _, rfl, hg, hgl, by rw [cutA_zero, ho']; exact hrun, ?_, grown_setRow w g _, sz_setRow _ _ _⟩
  have hrel : Rel2 (E.rel (hide w g) w.heap.size) (vs.eraseIdx k) (l.eraseIdx k) := by
    rw [List.eraseIdx_eq_take_drop_succ, List.eraseIdx_eq_take_drop_succ]
    exact Rel2.append (hr.drop (k + 1)) (hr.take k)
  have htk : (vs.take k).flatten = cur.toList.take (k * E.size) := by rw [flat_take vs hall, ← hx, List.take_take, Nat.min_eq_left hkn]
  have hcl : cur.toList.length = c * E.size := by simpa using hc
  refine OwnE.mk' (vs := vs.eraseIdx k) hg (setRow_heap w g _ _ T _ hh) (by omega) hm ?_ ?_ (hrel.imp fun _ _ hq => by rw [sz_setRow]; exact E.sub (hide_setRow _ _ _ _) hq) (by rw [List.length_eraseIdx_of_lt (by omega), hlen])
  · simp only [List.length_append, List.length_take, List.length_drop, hnl, hcl]
    omega
  · rw [List.eraseIdx_eq_take_drop_succ, List.flatten_append, htk, List.take_append_of_le_length (by simp only [List.length_append, List.length_take, hnl, hcl]; omega), List.take_of_length_le (by simp only [List.length_append, List.length_take, hnl, hcl]; omega)]
end
end Go.Proofs.YtpdfnlhhnodnjaaGreat
end
section
namespace Go.Proofs.YtpdfnlhhnodnjaaGreat
open Go.RowKit
set_option linter.unusedVariables false
theorem run_copy_k {P : Program} {w : World} (dT sT ty elem : TypeId) (size : Nat) (hu : P.underlying dT = some (.slice elem)) (hsz : (P.info? elem).map (·.size) = some size)
    {g off dLen dCap : Nat} {cur : Array Value} {t : TypeId} (hg : w.heap[g]? = some (.cells cur t (0, 0))) {a : Addr} {sLen sCap : Nat} {cs : List Value} (hn : cs.length = Nat.min sLen dLen * size)
    (hsrc : ∀ j v, cs[j]? = some v → w.cell? (a.add j) = some v) (hfit : off + cs.length ≤ cur.size) (h1 : ∀ v ∈ cs, v.oneCell' = true) :
    (cpSem #[dT, sT] ty #[.slice (some ⟨g, off, none⟩) dLen dCap, .slice (some a) sLen sCap]).run P w = .ok (.int .i64 (Nat.min sLen dLen : Nat)) (w.setRow g (overV cur.toList off cs).toArray) := by
  have hl := run_loadCells_list (P := P) w a cs hsrc
  have hst := run_storeCells_at P g off t cs 0 cur w hg (by simpa using hfit) h1
  simp only [Nat.add_zero] at hst
  have hov : cur.toList.take off ++ cs ++ cur.toList.drop (off + cs.length) = overV cur.toList off cs := by simp [overV]
  rw [hov] at hst
  cases hq : P.info? elem with
  | none => simp [hq] at hsz
  | some i =>
    have hi : i.size = size := by simpa [hq] using hsz
    simp [cpSem, Builtin.copy_, run_underlying hu, Builtin.lenOf, Builtin.firstCells, sizeOf, typeInfo, hq, hi, ← hn, hl, hst, goInt]
theorem over_mid (p m q s : List Value) (h : m.length = s.length) : overV (p ++ (m ++ q)) p.length s = p ++ (s ++ q) := by
  have := overV_shift p (m ++ q) s 0
  rw [Nat.add_zero] at this
  rw [this]
  unfold overV
  rw [List.take_zero, List.nil_append, Nat.zero_add, ← h, List.drop_left]
section
variable {α : Type} {E : El α} {T : TypeId} {w : World} {base n c : Nat} {A : Option Addr} {l : List α}
theorem OwnE.ins {P : Program} (t tn ty ti : TypeId) (i : TypeInfo) (z : Value) (bytes : Nat) (ht : P.underlying t = some (.slice T)) (htn : P.underlying tn = some (.int .i64)) (hi : P.info? T = some i) (hz : i.zero = some z) (hs : i.size = E.size) (hby : i.bytes = bytes) (hzs : z.cells.size = E.size)
    (h : OwnE E T w base A n c l) (k : Nat) (hk : k < n) (hc : c = n) (hn : n ≤ 100000) (hb8 : bytes ≤ 1000) {b o cv : Nat} {x : α} (hv : ElemsIn E (hid A w) w w.heap.size (some ⟨b, o, none⟩) 1 cv [x]) :
    ∃ cap wA wB wC, n + 1 ≤ cap ∧ cap ≤ maxLen ∧ (appSem #[t, tn] ty #[.slice (cutA A 0 c E.size) k c, .int .i64 ((n + 1 - k : Nat) : Int)]).run P w = .ok (.slice (some ⟨w.heap.size, 0, none⟩) (n + 1) cap) wA ∧
      (cpSem #[t, t] ti #[.slice (cutA (some ⟨w.heap.size, 0, none⟩) k cap E.size) (n + 1 - k) (cap - k), .slice (some ⟨b, o, none⟩) 1 cv]).run P wA = .ok (.int .i64 1) wB ∧
      (cpSem #[t, t] ti #[.slice (cutA (some ⟨w.heap.size, 0, none⟩) (k + 1) cap E.size) (n - k) (cap - (k + 1)), .slice (cutA A k c E.size) (n - k) (c - k)]).run P wB.drew = .ok (.int .i64 ((n - k : Nat) : Int)) wC ∧
      OwnE E T wC w.heap.size (some ⟨w.heap.size, 0, none⟩) (n + 1) cap (l.take k ++ x :: l.drop k) ∧ Below w.heap.size w wC ∧ wC.heap.size = w.heap.size + 1 := by
  subst hc
  have hlen := h.len
  obtain ⟨g, cur, vs, rfl, hg, hh, hnc, hm, hcs, hx, hr, hvl⟩ := h.row (by omega)
  have hgl := (Array.getElem?_eq_some_iff.1 hh).1
  have hall := hr.all
  have hsz : 0 < E.size := E.pos
  obtain ⟨vv, hrv, hlv, -, -, hxv⟩ := hv
  obtain ⟨b', o', e, hbl, hcv⟩ := hxv (by omega)
  cases e
  have hvv : vv.flatten.length = E.size := by rw [hrv.flat (fun _ _ => E.len)]; simp
  have hcell : ∀ m j u, (vs.drop m).flatten[j]? = some u → w.cell? ⟨g, m * E.size + j, none⟩ = some u := by
    intro m j u hu
    rw [flat_drop vs hall, List.getElem?_drop, ← hx, List.getElem?_take] at hu
    split at hu
    · simp only [World.cell?, hh]
      simpa using hu
    · cases hu
  have hol : (vs.take k).flatten.length = k * E.size := by rw [(hr.take k).flat (fun _ _ => E.len), List.length_take, hlen, Nat.min_eq_left (by omega)]
  have hdl : (vs.drop k).flatten.length = (c - k) * E.size := by rw [(hr.drop k).flat (fun _ _ => E.len)]; simp [hlen]
  have hold := run_firstCells_some (P := P) w.drew i.size k ⟨g, 0, none⟩ k c (vs.take k).flatten (by rw [hs]; exact hol) (by
    intro j u hu
    rw [add_none, Nat.zero_add]
    show w.cell? _ = _
    have := hcell 0 j u (by
      rw [List.drop_zero]
      rw [flat_take vs hall, List.getElem?_take] at hu
      split at hu
      · exact hu
      · cases hu)
    rwa [Nat.zero_mul, Nat.zero_add] at this)
  have happ := Lib.run_append_grow_zeros (P := P) w t tn ty T i z .i64 .i64 ht htn hi hz (some ⟨g, 0, none⟩) k c (vs.take k).flatten hold (c + 1 - k) (by omega) (by omega) (by omega) (by omega) (by rw [hby]; exact Nat.le_trans (Nat.mul_le_mul (show c + 1 - k ≤ 100001 by omega) hb8) (by decide)) (growslice_fits (by omega) (by rw [hby]; exact Nat.le_trans (Nat.mul_le_mul (show k + (c + 1 - k) ≤ 100001 by omega) hb8) (by decide)))
  rw [show k + (c + 1 - k) = c + 1 by omega] at happ
  have hge := grownCap_ge w (c + 1) c T
  have hle := grownCap_le_maxLen w (c + 1) c T (by unfold maxLen; omega)
  generalize grownCap w (c + 1) c T = cap at happ hge hle
  generalize hZ : Builtin.zeroCells z.cells (c + 1 - k) ++ Builtin.zeroCells z.cells (cap - (c + 1)) = Z at happ
  rw [Array.append_assoc, hZ] at happ
  have hZl : Z.toList.length = (cap - k) * E.size := by
    rw [← hZ]
    simp only [Array.toList_append, List.length_append, Array.length_toList, size_zeroCells, hzs]
    rw [← Nat.add_mul]; congr 1; omega
  obtain ⟨zl, hzl⟩ : ∃ zl, Z.toList = zl := ⟨_, rfl⟩
  rw [hzl] at hZl
  have hrow : (vs.take k).flatten.toArray ++ Z = ((vs.take k).flatten ++ zl).toArray := by rw [← hzl]; simp
  rw [hrow] at happ
  clear hrow hZ hzl
  -- the second part of the new row
  have hm1 : (cap - k) * E.size = E.size + ((c - k) * E.size + (cap - (c + 1)) * E.size) := by
    rw [show cap - k = 1 + ((c - k) + (cap - (c + 1))) by omega, Nat.add_mul, Nat.add_mul, Nat.one_mul]
  obtain ⟨z1, z2, z3, rfl, hz1, hz2, hz3⟩ : ∃ z1 z2 z3 : List Value, zl = z1 ++ (z2 ++ z3) ∧ z1.length = E.size ∧ z2.length = (c - k) * E.size ∧ z3.length = (cap - (c + 1)) * E.size :=
    ⟨zl.take E.size, (zl.drop E.size).take ((c - k) * E.size), (zl.drop E.size).drop ((c - k) * E.size), by rw [List.take_append_drop, List.take_append_drop], by simp; omega, by simp; omega, by simp; omega⟩
  have hkc : k * E.size + (cap - k) * E.size = cap * E.size := by rw [← Nat.add_mul]; congr 1; omega
  have hA : (w.drew.alloc (.cells ((vs.take k).flatten ++ (z1 ++ (z2 ++ z3))).toArray T)).heap[w.heap.size]? = some (.cells ((vs.take k).flatten ++ (z1 ++ (z2 ++ z3))).toArray T (0, 0)) := heap_alloc_new w.drew _
  generalize hwA : w.drew.alloc (.cells ((vs.take k).flatten ++ (z1 ++ (z2 ++ z3))).toArray T) = wA at happ hA
  have hbA : Below w.heap.size w wA := by rw [← hwA]; exact ((bsame w).drew).alloc (by simp) _
  have hzA : wA.heap.size = w.heap.size + 1 := by rw [← hwA]; simp
  have hcpB := run_copy_k (P := P) (w := wA) t t ti T E.size ht (by rw [hi]; simp [hs]) (g := w.heap.size) (off := k * E.size) (dLen := c + 1 - k) (dCap := cap - k) hA (a := ⟨b, o, none⟩) (sLen := 1) (sCap := cv) (cs := vv.flatten) (by rw [hvv, show Nat.min 1 (c + 1 - k) = 1 from Nat.min_eq_left (by omega), Nat.one_mul])
    (by intro j u hu; rw [add_none]; exact (hbA.cell (p := ⟨b, o + j, none⟩) hbl).trans (hcv j u hu)) (by simp only [List.size_toArray, List.length_append, hol, hz1, hvv]; omega) (Rel2.one hrv)
  rw [show Nat.min 1 (c + 1 - k) = 1 from Nat.min_eq_left (by omega)] at hcpB
  have eB : overV ((vs.take k).flatten ++ (z1 ++ (z2 ++ z3))) (k * E.size) vv.flatten = ((vs.take k).flatten ++ vv.flatten) ++ (z2 ++ z3) := by
    have := over_mid (vs.take k).flatten z1 (z2 ++ z3) vv.flatten (by rw [hz1, hvv])
    rw [hol] at this
    rw [this, List.append_assoc]
  rw [show (((vs.take k).flatten ++ (z1 ++ (z2 ++ z3))).toArray).toList = (vs.take k).flatten ++ (z1 ++ (z2 ++ z3)) from by simp, eB] at hcpB
  have hB := setRow_heap wA w.heap.size _ (((vs.take k).flatten ++ vv.flatten) ++ (z2 ++ z3)).toArray T _ hA
  have hbB : Below w.heap.size w (wA.setRow w.heap.size (((vs.take k).flatten ++ vv.flatten) ++ (z2 ++ z3)).toArray) := below_setRow hbA (Nat.le_refl _) _
  have hzB : (wA.setRow w.heap.size (((vs.take k).flatten ++ vv.flatten) ++ (z2 ++ z3)).toArray).heap.size = w.heap.size + 1 := (sz_setRow _ _ _).trans hzA
  generalize wA.setRow w.heap.size (((vs.take k).flatten ++ vv.flatten) ++ (z2 ++ z3)).toArray = wB at hcpB hB hbB hzB
  have hlp : ((vs.take k).flatten ++ vv.flatten).length = (k + 1) * E.size := by rw [List.length_append, hol, hvv, Nat.add_mul, Nat.one_mul]
  have hcpC := run_copy_k (P := P) (w := wB.drew) t t ti T E.size ht (by rw [hi]; simp [hs]) (g := w.heap.size) (off := (k + 1) * E.size) (dLen := c - k) (dCap := cap - (k + 1)) (cur := (((vs.take k).flatten ++ vv.flatten) ++ (z2 ++ z3)).toArray) hB (a := ⟨g, k * E.size, none⟩) (sLen := c - k) (sCap := c - k) (cs := (vs.drop k).flatten) (by rw [hdl, show Nat.min (c - k) (c - k) = c - k from Nat.min_self _])
    (by intro j u hu; rw [add_none]; exact (hbB.cell (p := ⟨g, k * E.size + j, none⟩) hgl).trans (hcell k j u hu)) (by
      have : (k + 1) * E.size + (c - k) * E.size ≤ (k + 1) * E.size + ((c - k) * E.size + z3.length) := by omega
      simp only [List.size_toArray, List.length_append, hz2, hdl] at *
      omega) (Rel2.one (hr.drop k))
  rw [show Nat.min (c - k) (c - k) = c - k from Nat.min_self _] at hcpC
  have eC : overV (((vs.take k).flatten ++ vv.flatten) ++ (z2 ++ z3)) ((k + 1) * E.size) (vs.drop k).flatten = ((vs.take k).flatten ++ vv.flatten) ++ ((vs.drop k).flatten ++ z3) := by
    have := over_mid ((vs.take k).flatten ++ vv.flatten) z2 z3 (vs.drop k).flatten (by rw [hz2, hdl])
    rw [hlp] at this
    exact this
  rw [show ((((vs.take k).flatten ++ vv.flatten) ++ (z2 ++ z3)).toArray).toList = ((vs.take k).flatten ++ vv.flatten) ++ (z2 ++ z3) from by simp, eC] at hcpC
  refine ⟨cap, wA, wB, _, hge, hle, by rw [cutA_zero]; exact happ, by rw [cutA_pos (by omega), Nat.zero_add]; exact hcpB, by rw [cutA_pos (by omega), cutA_pos (by omega), Nat.zero_add, Nat.zero_add]; exact hcpC, ?_, below_setRow (hbB.drew) (Nat.le_refl _) _, by rw [sz_setRow]; exact hzB⟩
  have hsubC : Sub w.heap.size (hide w g) (hide (wB.drew.setRow w.heap.size (((vs.take k).flatten ++ vv.flatten) ++ ((vs.drop k).flatten ++ z3)).toArray) w.heap.size) :=
    (sub_hide _ w g).trans ((sub_below (below_setRow (hbB.drew) (Nat.le_refl _) _)).trans (sub_hide_lt _ (Nat.le_refl _)))
  have hup : w.heap.size ≤ (wB.drew.setRow w.heap.size (((vs.take k).flatten ++ vv.flatten) ++ ((vs.drop k).flatten ++ z3)).toArray).heap.size := by rw [sz_setRow]; show _ ≤ wB.heap.size; omega
  have hrl : Rel2 (E.rel (hide w g) w.heap.size) (vs.take k ++ (vv ++ vs.drop k)) (l.take k ++ x :: l.drop k) := Rel2.append (Rel2.append (hr.drop k) hrv) (hr.take k)
  have hcl : (c + 1) * E.size = (k + 1) * E.size + (c - k) * E.size := by rw [← Nat.add_mul]; congr 1; omega
  have hcap2 : cap * E.size = (c + 1) * E.size + (cap - (c + 1)) * E.size := by rw [← Nat.add_mul]; congr 1; omega
  refine OwnE.mk' (vs := vs.take k ++ (vv ++ vs.drop k)) (Nat.le_refl _) (setRow_heap wB.drew w.heap.size _ _ T _ hB) hge hle ?_ ?_ (hrl.imp fun _ _ hq => E.more hup (E.sub hsubC hq)) (by simp [hlen]; omega)
  · rw [List.length_append, hlp, List.length_append, hdl, hz3, hcap2, hcl]; omega
  · rw [← List.append_assoc, List.take_append_of_le_length (by rw [List.length_append, hlp, hdl, hcl]; exact Nat.le_refl _), List.take_of_length_le (by rw [List.length_append, hlp, hdl, hcl]; exact Nat.le_refl _)]
    simp [List.append_assoc]
end
end Go.Proofs.YtpdfnlhhnodnjaaGreat
end
section
namespace Go.Proofs.YtpdfnlhhnodnjaaGreat
open Go.RowKit
set_option linter.unusedVariables false
section
variable {α : Type} {E : El α} {T : TypeId} {w : World} {base n c : Nat} {A : Option Addr} {l : List α}
end
end Go.Proofs.YtpdfnlhhnodnjaaGreat
end
