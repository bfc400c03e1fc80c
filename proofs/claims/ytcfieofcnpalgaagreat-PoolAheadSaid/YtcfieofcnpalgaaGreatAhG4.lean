/-
  Parts of the proof of PoolAhead.
-/
import Derived.Test.YtcfieofcnpalgaaGreatAhG3
import Derived.Test.YtcfieofcnpalgaaGreatAhG2
import Derived.Test.YtcfieofcnpalgaaGreatAhG0
import Derived.BigQuiet
import Derived.Test.YtcfieofcnpalgaaGreatAhG1
import Derived.Laws.Externs
section
namespace Go.Proofs.YtcfieofcnpalgaaGreat
open Go.RowKit
set_option linter.unusedVariables false

/-- blocks hidden -/
def hideL (w : World) : List Nat → World
  | [] => w
  | g :: bs => hide (hideL w bs) g
theorem hideL_in (w : World) (p : Addr) : ∀ bs, p.block ∈ bs → (hideL w bs).cell? p = none
  | g :: bs, h => by
    by_cases e : p.block = g
    · subst e; exact hide_none _ p
    · show (hide (hideL w bs) g).cell? p = none
      rw [hide_other _ g p e]
      exact hideL_in w p bs (by rcases List.mem_cons.1 h with h | h; exact absurd h e; exact h)
theorem hideL_out (w : World) (p : Addr) : ∀ bs, p.block ∉ bs → (hideL w bs).cell? p = w.cell? p
  | [], _ => rfl
  | g :: bs, h => by
    rw [List.mem_cons, not_or] at h
    show (hide (hideL w bs) g).cell? p = _
    rw [hide_other _ g p h.1]
    exact hideL_out w p bs h.2
/-- bytes do not hang on rows without bytes -/
theorem Bytes.hideL {w : World} {B n c : Nat} {A : Option Addr} {l : List UInt8} (h : Bytes w B A n c l) (bs : List Nat) (hn : ∀ b ∈ bs, ∃ cs, Str w b cs ∧ notU8 cs = true) : Bytes (hideL w bs) B A n c l := by
  obtain ⟨h1, h2, h3, h4⟩ := h
  refine ⟨h1, h2, h3, fun hpos => ?_⟩
  obtain ⟨b, o, e, hb, hc⟩ := h4 hpos
  refine ⟨b, o, e, hb, fun j u hu => ?_⟩
  rw [hideL_out w ⟨b, o + j, none⟩ bs]
  · exact hc j u hu
  · intro hm
    obtain ⟨cs, hs, hn1⟩ := hn b hm
    have hx := hc j u hu
    rw [hs.cell] at hx
    have hm2 : byteV u ∈ cs.toList := by
      rw [Array.mem_toList_iff]
      exact Array.mem_of_getElem? hx
    have := List.all_eq_true.1 hn1 _ hm2
    simp [byteV] at this

/-- a word on a value and what it hangs on, below a bound -/
structure MP (β : Type) where
  pred : β → World → Nat → Prop
  mono : ∀ {v w w' B B'}, Sub B w w' → B ≤ B' → pred v w B → pred v w' B'
namespace Reg
/-- nothing that was there turns, but for these blocks -/
structure KeepB (N : Nat) (b0 : List Nat) (w w' : World) : Prop where
  os : w'.os = w.os
  tape : w'.tape = w.tape
  output : w'.output = w.output
  size : w.heap.size ≤ w'.heap.size
  block : ∀ k, k < N → k ∉ b0 → w'.heap[k]? = w.heap[k]?
theorem KeepB.of {N : Nat} {b0 : List Nat} {w w' : World} (h : Below N w w') : KeepB N b0 w w' := ⟨h.os, h.tape, h.output, h.size, fun k hk _ => h.block k hk⟩
theorem KeepB.below {N M : Nat} {b0 : List Nat} {w w' : World} (h : KeepB N b0 w w') (hM : M ≤ N) (h0 : ∀ b ∈ b0, M ≤ b) : Below M w w' := ⟨h.os, h.tape, h.output, h.size, fun k hk => h.block k (by omega) (fun hm => by have := h0 k hm; omega)⟩
theorem KeepB.cell {N : Nat} {b0 : List Nat} {w w' : World} (h : KeepB N b0 w w') {p : Addr} (h1 : p.block < N) (h2 : p.block ∉ b0) : w'.cell? p = w.cell? p := World.cell?_of_block (h.block p.block h1 h2)
theorem KeepB.str {N b : Nat} {b0 : List Nat} {w w' : World} {cs : Array Value} (h : KeepB N b0 w w') (hs : Str w b cs) (h1 : b < N) (h2 : b ∉ b0) : Str w' b cs := by
  obtain ⟨t, ht⟩ := hs
  exact ⟨t, (h.block b h1 h2).trans ht⟩
def extB (N : Nat) (b0 : List Nat) : Way := ⟨fun w w' => KeepB N b0 w w', fun w => KeepB.of (Below.refl N w), fun _ _ _ h k => ⟨k.os.trans h.os, k.tape.trans h.tape, k.output.trans h.output, Nat.le_trans h.size k.size, fun i hi hb => (k.block i hi hb).trans (h.block i hi hb)⟩, fun _ => ⟨rfl, rfl, rfl, Nat.le_refl _, fun _ _ _ => rfl⟩⟩
/-- boxes (who makes it, its slot, who stores into it), what lies in them; values (who makes it, its slot); boxes that were there (slot, block, who stores) -/
structure BxS where
  K : List (Nat × Tmp × Nat)
  Z : Tmp → Array Value
  X : Tmp → MP (Array Value)
  KM : List (Nat × Tmp)
  M : Tmp → MP Value
  K0 : List (Tmp × Nat × Nat)
def BxS.b0 (S : BxS) : List Nat := S.K0.map fun k => k.2.1
/-- the hidden blocks -/
def Bs (N : Nat) (b0 : List Nat) (w : World) (bs : List Nat) : Prop := ∀ b ∈ bs, (b ∈ b0 ∨ N ≤ b) ∧ b < w.heap.size ∧ ∃ cs, Str w b cs ∧ notU8 cs = true
section
variable {N : Nat} {S : BxS} {listed : Array Bool} {a : Act} {w w' : World} {j : Nat}
theorem Bs.next {b0 bs : List Nat} (h : Bs N b0 w bs) (hb : Below w.heap.size w w') : Bs N b0 w' bs := fun b hm => by
  obtain ⟨h1, h2, cs, h3, h4⟩ := h b hm
  exact ⟨h1, Nat.lt_of_lt_of_le h2 hb.size, cs, h3.next hb, h4⟩
end
section
variable {N : Nat} {S : BxS} {P : Program} {ops : Array Oper} {Q : Exit → Act → World → Prop} {T : List (SP (extB N S.b0))} {a0 : Act} {W : World} {j : Nat} {o : Oper} {s : List (Tmp × Option Nat)}
/-- what such an operation leaves -/
structure DoneM (S : BxS) (t : Tmp) (bs : List Nat) (a : Act) (w : World) (a' : Act) (w' : World) : Prop where
  out : ∃ v, a' = a.put (some t) v ∧ Below w.heap.size w w' ∧ (S.M t).pred v (hideL w' bs) w'.heap.size
/-- what a store into a box leaves -/
structure StoredB (S : BxS) (t : Tmp) (g : Nat) (bs : List Nat) (a : Act) (w : World) (a' : Act) (w' : World) : Prop where
  out : a' = a ∧ ∃ cs, w' = w.setRow g cs ∧ notU8 cs = true ∧ (S.X t).pred cs (hideL w bs) w.heap.size
end
section
variable {R : Way} {P : Program} {ops : Array Oper} {Q : Exit → Act → World → Prop} {T : List (SP R)} {a0 a : Act} {W w : World}
/-- THE LAW beside a word that holds at the region's head -/
theorem wp_region_box {id : Nat} (J : Word) (T : List (SP R)) (n : Nat) (L : List (List (Tmp × Option Nat))) (hn : a0.tmps.size = n) (hm : P.follows .mixedOrders = true) (hc : checkB ops n = true) (hJ0 : ∀ listed, (∀ i, listed.getD i false = false) → J listed a0 W.drew) (hL : lookAll ops 0 ops.toList = L) (hobl : OblsJ P ops Q T J a0 W 0 ops.toList L)
    (D : List (Option Tmp)) (hD : ops.toList.map (·.dst) = D) (hfin : ∀ w' listed, R.rel W w' → (∀ i, i < ops.size → listed.getD i false = true) → Fin (fun a w => J listed a w → Q .normal a w) w' D T a0) : (Code.region id ops true).wp P Q a0 W := by
  subst hn
  subst hL
  subst hD
  refine wp_region_any hm (wpAny_J (form_of hc) hobl hfin _ _ _ _ (by simp) ⟨R.drew W, rfl, rfl, by simp, fun _ _ => rfl, fun i o ho hl => ?_, fun i o ho hl e he hb => ?_⟩ (hJ0 _ fun i => ?_))
  · have hlt := (Array.getElem?_eq_some_iff.1 ho).1
    simp [hlt] at hl
  · have hlt := (Array.getElem?_eq_some_iff.1 ho).1
    simp [hlt] at hl
  · rw [Array.getD_eq_getD_getElem?]
    by_cases hi : i < ops.size
    · simp [hi]
    · simp [hi]
end
/-! what is seen by reckoning alone -/
def okB (K : List (Nat × Tmp × Nat)) (KM : List (Nat × Tmp)) (K0 : List (Tmp × Nat)) : Bool :=
  (K.all fun b => K.all fun c => (!(b.1 == c.1 || (b.2.1 == c.2.1 || b.2.2 == c.2.2)) || b == c) && b.1 != c.2.2) &&
  (K.all fun b => KM.all fun m => b.1 != m.1 && (b.2.2 != m.1 && b.2.1 != m.2)) && (KM.all fun m => KM.all fun m' => !(m.1 == m'.1 || m.2 == m'.2) || m == m') &&
  (K0.all fun k => (K.all fun b => k.2 != b.1 && k.2 != b.2.2) && KM.all fun m => k.2 != m.1)
section
variable {N : Nat} {S : BxS} {P : Program} {ops : Array Oper} {Q : Exit → Act → World → Prop} {T : List (SP (extB N S.b0))} {a0 a : Act} {W w : World} {j : Nat} {o : Oper} {s : List (Tmp × Option Nat)} {t : Tmp} {bs : List Nat}
end
end Reg
theorem hideL_append (w : World) (bs : List Nat) : ∀ obs, hideL w (obs ++ bs) = hideL (hideL w bs) obs
  | [] => rfl
  | g :: obs => congrArg (fun x => hide x g) (hideL_append w bs obs)
theorem hideL_mono {B : Nat} {w w' : World} (obs : List Nat) (h : Sub B w w') : Sub B (hideL w obs) (hideL w' obs) := by
  intro p v hp hv
  by_cases hg : p.block ∈ obs
  · rw [hideL_in w p obs hg] at hv; cases hv
  · rw [hideL_out w p obs hg] at hv
    rw [hideL_out w' p obs hg]
    exact h p v hp hv
theorem Bytes.keepB {w w' : World} {B n c : Nat} {b0 : List Nat} {A : Option Addr} {l : List UInt8} (h : Bytes w B A n c l) (hB : B ≤ w.heap.size) (hn : ∀ b ∈ b0, ∃ cs, Str w b cs ∧ notU8 cs = true) (hk : Reg.KeepB w.heap.size b0 w w') : Bytes w' B A n c l :=
  (h.hideL b0 hn).sub fun p v hp hv => by
    by_cases hm : p.block ∈ b0
    · rw [hideL_in w p b0 hm] at hv; cases hv
    · rw [hideL_out w p b0 hm] at hv
      rw [hk.cell (by omega) hm]
      exact hv
/-- bytes that hang on none of these blocks -/
def BytesH (bs : List Nat) (w : World) (A : Option Addr) (n c : Nat) (l : List UInt8) : Prop := Bytes (hideL w bs) w.heap.size A n c l
theorem BytesH.keepB {bs : List Nat} {w w' : World} {n c : Nat} {b0 : List Nat} {A : Option Addr} {l : List UInt8} (h : BytesH bs w A n c l) (hn : ∀ b ∈ b0, ∃ cs, Str w b cs ∧ notU8 cs = true) (hk : Reg.KeepB w.heap.size b0 w w') : BytesH bs w' A n c l := by
  refine Bytes.more (w := Go.Proofs.YtcfieofcnpalgaaGreat.hideL w' bs) (Bytes.sub (w := Go.Proofs.YtcfieofcnpalgaaGreat.hideL w (bs ++ b0)) (B := w.heap.size) ?_ ?_) hk.size
  · rw [hideL_append]
    obtain ⟨h1, h2, h3, h4⟩ := h
    refine ⟨h1, h2, h3, fun hpos => ?_⟩
    obtain ⟨b, o, e, hb, hc⟩ := h4 hpos
    refine ⟨b, o, e, hb, fun j u hu => ?_⟩
    have hx := hc j u hu
    have hnb : b ∉ bs := fun hm => by
      have h0 : (Go.Proofs.YtcfieofcnpalgaaGreat.hideL w bs).cell? ⟨b, o + j, none⟩ = none := hideL_in w ⟨b, o + j, none⟩ bs hm
      rw [h0] at hx; cases hx
    rw [hideL_out w ⟨b, o + j, none⟩ bs hnb] at hx
    rw [hideL_out _ ⟨b, o + j, none⟩ bs hnb, hideL_out w ⟨b, o + j, none⟩ b0]
    · exact hx
    · intro hm
      obtain ⟨cs, hs, hn1⟩ := hn b hm
      rw [hs.cell] at hx
      have hm2 : byteV u ∈ cs.toList := by
        rw [Array.mem_toList_iff]
        exact Array.mem_of_getElem? hx
      have := List.all_eq_true.1 hn1 _ hm2
      simp [byteV] at this
  · rw [hideL_append]
    refine hideL_mono bs fun p v hp hv => ?_
    by_cases hm : p.block ∈ b0
    · rw [hideL_in w p b0 hm] at hv; cases hv
    · rw [hideL_out w p b0 hm] at hv
      rw [hk.cell hp hm]
      exact hv
namespace Reg
end Reg
end Go.Proofs.YtcfieofcnpalgaaGreat
end
section
namespace Go.Proofs.YtcfieofcnpalgaaGreat
open Go.RowKit
set_option linter.unusedVariables false
theorem Reg.KeepB.trans {N M : Nat} {b0 : List Nat} {a b c : World} (h : Reg.KeepB N b0 a b) (k : Reg.KeepB M b0 b c) (hN : N ≤ M) : Reg.KeepB N b0 a c :=
  ⟨k.os.trans h.os, k.tape.trans h.tape, k.output.trans h.output, Nat.le_trans h.size k.size, fun i hi hb => (k.block i (by omega) hb).trans (h.block i hi hb)⟩
theorem Reg.KeepB.more {N : Nat} {b0 b1 : List Nat} {a b : World} (h : Reg.KeepB N b0 a b) (hs : ∀ x ∈ b0, x ∈ b1) : Reg.KeepB N b1 a b :=
  ⟨h.os, h.tape, h.output, h.size, fun i hi hb => h.block i hi (fun hm => hb (hs i hm))⟩
theorem Reg.KeepB.less {N M : Nat} {b0 : List Nat} {a b : World} (h : Reg.KeepB N b0 a b) (hM : M ≤ N) : Reg.KeepB M b0 a b :=
  ⟨h.os, h.tape, h.output, h.size, fun i hi hb => h.block i (by omega) hb⟩
/-- blocks that are none of the call's -/
theorem Reg.KeepB.grown {N : Nat} {b0 : List Nat} {a b c : World} {g : Nat} (h : Reg.KeepB N b0 a b) (k : b.grownBy c (some g)) (hN : N ≤ b.heap.size) (hg : N ≤ g ∨ g ∈ b0) : Reg.KeepB N b0 a c :=
  ⟨k.os.trans h.os, k.tape.trans h.tape, k.output.trans h.output, Nat.le_trans h.size k.size, fun i hi hb => (k.block i (by omega) (by intro e; injection e with e; subst e; rcases hg with h1 | h1; omega; exact hb h1)).trans (h.block i hi hb)⟩
theorem Reg.KeepB.step {N : Nat} {b0 : List Nat} {a b c : World} (h : Reg.KeepB N b0 a b) (k : Below b.heap.size b c) (hN : N ≤ b.heap.size) : Reg.KeepB N b0 a c := h.trans (Reg.KeepB.of k) hN
theorem Str.keepB {w w' : World} {b : Nat} {b0 : List Nat} {cs : Array Value} (h : Str w b cs) (k : Reg.KeepB w.heap.size b0 w w') (hb : b ∉ b0) : Str w' b cs := k.str h h.lt hb
theorem drewN_below {B : Nat} {a w : World} (h : Below B a w) (k : Nat) : Below B a (w.drewN k) := ⟨h.os, h.tape, h.output, h.size, h.block⟩
end Go.Proofs.YtcfieofcnpalgaaGreat
end
section
namespace Go.Proofs.YtcfieofcnpalgaaGreat.SameL
open Go.RowKit
set_option linter.unusedVariables false
set_option linter.unusedSimpArgs false
theorem int_at {wr w : World} {B n c k : Nat} {A : Option Addr} {l : List Int} (h : ElemsIn IntE wr w B A n c l) (hk : k < n) : ∃ b o x, A = some ⟨b, o, none⟩ ∧ b < B ∧ l[k]? = some x ∧ w.cell? ⟨b, o + k, none⟩ = some (.int .i64 x) := by
  have hl : k < l.length := by rw [h.len]; exact hk
  obtain ⟨b, o, vs, e, hb, rfl, hc⟩ := h.at_ hk
  refine ⟨b, o, _, e, hb, List.getElem?_eq_getElem hl, ?_⟩
  have := hc 0 _ rfl
  rwa [show o + k * IntE.size + 0 = o + k from by show o + k * 1 + 0 = _; omega] at this
set_option maxRecDepth 100000 in
set_option maxHeartbeats 1000000 in
theorem sameList_any {A : Option Addr} {n c : Nat} {A' : Option Addr} {n' c' : Nat} {l l' : List Int} (w : World) (hE : Elems IntE w w.heap.size A n c l) (hE' : Elems IntE w w.heap.size A' n' c' l') :
    Calls Tryz.prog 27 #[.slice A n c, .slice A' n' c'] w fun e w' => e = .returned (.bool (decide (l = l'))) ∧ Below w.heap.size w w' := by
  have HE := Lib.hid hE
  have HE' := Lib.hid hE'
  have hcap := Nat.le_trans hE.cap.1 hE.cap.2
  unfold maxLen at hcap
  have hln := hE.len
  have hln' := hE'.len
  clear hE hE'
  by_cases hnn : n = n'
  · subst hnn
    go_enter Tryz.func27, Tryz.ntmps27
    go_wp2
    go_loopw [5] (fun i wr => ∃ k : Nat, k ≤ n ∧ i = .int .i64 (k : Int) ∧ Hid (l.take k = l'.take k ∧ Below w.heap.size w wr)) (fun i _ => n - (intOf i).toNat)
    case atStart => exact ⟨0, Nat.zero_le _, rfl, Lib.hid ⟨rfl, bsame w⟩⟩
    case round =>
      obtain ⟨i, hi, rfl, HG⟩ := hrel
      have HB := Lib.hid HG.out.2
      have hsz := HB.out.size
      by_cases hlt : i < n
      · have hd : decide ((i : Int) < (n : Int)) = true := by simpa using hlt
        obtain ⟨b, o, x, rfl, hb, hx, q0⟩ := int_at HE.out hlt
        obtain ⟨b', o', x', rfl, hb', hx', q0'⟩ := int_at HE'.out hlt
        replace q0 := (HB.out.cell (p := ⟨b, o + i, none⟩) hb).trans q0
        replace q0' := (HB.out.cell (p := ⟨b', o' + i, none⟩) hb').trans q0'
        by_cases he : x = x'
        · subst he
          have hd2 : (x != x) = false := by simp
          have HN : Hid (l.take (i + 1) = l'.take (i + 1)) := Lib.hid (by rw [List.take_add_one, List.take_add_one, hx, hx', HG.out.1])
          clear HG hx hx' hln hln'
          go_wp2_with (first | go_quiet (fail) | go_in)
          go_wp2
          go_roundw
          case rel => exact ⟨i + 1, by omega, by go_num, Lib.hid ⟨HN.out, drewN_below HB.out _⟩⟩
          case measure => simp [intOf]; omega
        · have hd2 : (x != x') = true := by simpa using he
          have HN : Hid (decide (l = l') = false) := Lib.hid (by simp only [decide_eq_false_iff_not]; rintro rfl; rw [hx] at hx'; cases hx'; exact he rfl)
          clear HG hx hx' hln hln' he
          go_wp2_with (first | go_quiet (fail) | go_in)
          go_wp2
          go_ret
          exact ⟨by rw [HN.out]; rfl, drewN_below HB.out _⟩
      · have hd : decide ((i : Int) < (n : Int)) = false := by simp; omega
        have hin : i = n := by omega
        subst hin
        have HN : Hid (decide (l = l') = true) := Lib.hid (by
          have := HG.out.1
          rw [List.take_of_length_le (by omega), List.take_of_length_le (by omega)] at this
          simpa using this)
        go_wp2
        go_ret
        exact ⟨by rw [HN.out]; rfl, HB.out⟩
  · have hd : ((n : Int) != (n' : Int)) = true := by simp; omega
    have HN : Hid (decide (l = l') = false) := Lib.hid (by simp only [decide_eq_false_iff_not]; rintro rfl; omega)
    go_enter Tryz.func27, Tryz.ntmps27
    go_wp2
    go_ret
    exact ⟨by rw [HN.out]; rfl, bsame _⟩
end Go.Proofs.YtcfieofcnpalgaaGreat.SameL
end
section
namespace Go.Proofs.YtcfieofcnpalgaaGreat
open Go.RowKit
set_option linter.unusedVariables false
set_option linter.unusedSimpArgs false
/-- a slice of numbers in a slice -/
def RowE : El (List Int) where
  size := 1
  pos := by decide
  rel w B vs l := ∃ A n c, vs = [.slice A n c] ∧ Elems IntE w B A n c l
  len := by rintro w B vs l ⟨A, n, c, rfl, -⟩; rfl
  one := by rintro w B vs l ⟨A, n, c, rfl, -⟩ v hv; simp only [List.mem_singleton] at hv; subst hv; rfl
  sub := by rintro w w' B vs l hs ⟨A, n, c, e, h⟩; exact ⟨A, n, c, e, h.sub hs⟩
  more := by rintro w B B' vs l hB ⟨A, n, c, e, h⟩; exact ⟨A, n, c, e, h.more hB⟩
theorem IntE.empty (w : World) (T : TypeId) (base : Nat) (hb : base ≤ w.heap.size) : OwnE IntE T (w.alloc (.cells #[] T)) base (some ⟨w.heap.size, 0, none⟩) 0 0 [] :=
  OwnE.mk' (cur := []) (vs := []) hb (heap_alloc_new w _) (Nat.le_refl _) (by unfold maxLen; omega) rfl rfl trivial rfl
theorem RowE.empty (w : World) (T : TypeId) (base : Nat) (hb : base ≤ w.heap.size) : OwnE RowE T (w.alloc (.cells #[] T)) base (some ⟨w.heap.size, 0, none⟩) 0 0 [] :=
  OwnE.mk' (cur := []) (vs := []) hb (heap_alloc_new w _) (Nat.le_refl _) (by unfold maxLen; omega) rfl rfl trivial rfl
theorem infoRI : (Tryz.prog.info? 25).map (fun i => (i.zero, i.size, i.bytes)) = some (some (.slice none 0 0), 1, 24) := by kernel_rfl
namespace RefDev
/-- the call hands back a slice of numbers -/
def GivesRow (w : World) (l : List Int) (e : Ending) (w' : World) : Prop := ∃ A n c, e = .returned (.slice A n c) ∧ Elems IntE w' w'.heap.size A n c l ∧ (∀ a, A = some a → w.heap.size ≤ a.block) ∧ Below w.heap.size w w'
/-- append([]int{}, l...) -/
theorem copy_ints {A : Option Addr} {n c B : Nat} {l : List Int} (w : World) (h : Elems IntE w B A n c l) (hB : B ≤ w.heap.size) (hn : n ≤ 1000000) :
    ∃ A' c' w', (appSem #[25, 25] 25 #[.slice (some ⟨w.heap.size, 0, none⟩) 0 0, .slice A n c]).run Tryz.prog (w.alloc (.cells #[] 3)) = .ok (.slice A' n c') w' ∧ OwnE IntE 3 w' w.heap.size A' n c' l ∧ Below w.heap.size w w' := by
  obtain ⟨i0, hi0, hz0, hz1, hz2⟩ := info_parts infoI
  have hb0 : Below w.heap.size w (w.alloc (.cells #[] 3)) := balloc (bsame w) _
  have hO := IntE.empty w 3 w.heap.size (Nat.le_refl _)
  have hE := (h.below (hb0.mono hB)).more hB
  obtain ⟨A1, c1, W1, happ, hO1, hb1, hg1, hA1⟩ := hO.app (P := Tryz.prog) 25 25 i0 _ 8 Tryz.underlying25 hi0 hz0 hz1 hz2 rfl (hO.src hE (Nat.le_refl _) (by simp)) (by unfold maxLen; omega) (by omega) (by simp)
  simp only [Nat.zero_add, List.nil_append] at happ hO1
  exact ⟨A1, c1, W1, happ, hO1, hb0.trans hb1⟩
attribute [local go_sem ↓] app_fold
set_option maxRecDepth 100000 in
set_option maxHeartbeats 1000000 in
theorem set_any (A : Option Addr) (n c k : Nat) (v : Int) (l : List Int) (w : World) (h : Elems IntE w w.heap.size A n c l) (hn : n ≤ 100000) (hk : k < n) :
    Calls Tryz.prog 67 #[.slice A n c, .int .i64 (k : Int), .int .i64 v] w (GivesRow w (l.set k v)) := by
  obtain ⟨A1, c1, W1, happ, hO, hb⟩ := copy_ints w h (Nat.le_refl _) (by omega)
  obtain ⟨g, rfl, hg, hgl, hcs, hfz, hO2⟩ := hO.write1 (P := Tryz.prog) (j := k) (i := 0) (v := .int .i64 v) (x := v) hk (by show 0 < 1; omega) rfl (fun g vs e hr => by
    have hlen := hO.len
    have hv := hr l[k] (List.getElem?_eq_getElem (by omega))
    have hv' : vs = [.int .i64 l[k]] := hv
    subst hv'
    rfl)
  rw [show k * IntE.size + 0 = k from by show k * 1 + 0 = k; omega] at hcs hfz hO2
  obtain ⟨x0, hx0⟩ := Option.isSome_iff_exists.1 hcs
  have HE := Lib.hid hO2.elems
  have hbs := hb.size
  have HB := Lib.hid (below_grown hb (grown_set (grown_refl W1 g) k (.int .i64 v)) hg)
  have hlt : decide ((k : Int) < (n : Int)) = true := by simp; omega
  clear h hO hO2 hb
  go_enter Tryz.func67, Tryz.ntmps67
  go_wp2_with fail
  go_ret
  exact ⟨some ⟨g, 0, none⟩, n, c1, by simp, HE.out, fun a e => (by cases e; exact hg), HB.out⟩
end RefDev
end Go.Proofs.YtcfieofcnpalgaaGreat
end
section
namespace Go.Proofs.YtcfieofcnpalgaaGreat
open Go.RowKit
set_option linter.unusedVariables false
set_option linter.unusedSimpArgs false
namespace RefDev
/-- the reference's device, as a value -/
def devV (As : Option Addr) (ns cs : Nat) (Ah : Option Addr) (nh ch : Nat) (k : Int) : Array Value := #[.slice As ns cs, .slice Ah nh ch, .slice none 0 0, .int .i64 0, .int .i64 0, .int .i64 (-1), .bool false, .int .i64 k]
def RDev (w : World) (S : List Int) (H : List (List Int)) (k : Int) (v : Value) : Prop := ∃ As ns cs Ah nh ch, v = .agg (devV As ns cs Ah nh ch k) ∧ Elems IntE w w.heap.size As ns cs S ∧ Elems RowE w w.heap.size Ah nh ch H
def GivesDev (w : World) (S : List Int) (H : List (List Int)) (k : Int) (e : Ending) (w' : World) : Prop := ∃ v, e = .returned v ∧ RDev w' S H k v ∧ Below w.heap.size w w'
theorem mk_ints (W : World) : (Instr.makeSlice 25 (.int .i64 5) (.int .i64 5)).run Tryz.prog W = .ok (.slice (some ⟨W.heap.size, 0, none⟩) 5 5) (W.alloc (.cells #[.int .i64 0, .int .i64 0, .int .i64 0, .int .i64 0, .int .i64 0] 3)) := by kernel_rfl
theorem mk_rows (W : World) : (Instr.makeSlice 26 (.int .i64 5) (.int .i64 5)).run Tryz.prog W = .ok (.slice (some ⟨W.heap.size, 0, none⟩) 5 5) (W.alloc (.cells #[.slice none 0 0, .slice none 0 0, .slice none 0 0, .slice none 0 0, .slice none 0 0] 25)) := by kernel_rfl
theorem ints5 {w : World} {b : Nat} (h : Str w b #[.int .i64 0, .int .i64 0, .int .i64 0, .int .i64 0, .int .i64 0]) : Elems IntE w w.heap.size (some ⟨b, 0, none⟩) 5 5 [0, 0, 0, 0, 0] :=
  ⟨[[.int .i64 0], [.int .i64 0], [.int .i64 0], [.int .i64 0], [.int .i64 0]], ⟨rfl, rfl, rfl, rfl, rfl, trivial⟩, rfl, Nat.le_refl _, by unfold maxLen; omega, fun _ => ⟨b, 0, rfl, h.lt, fun j v hv => by
    rw [h.cell, Nat.zero_add]
    simpa using hv⟩⟩
theorem row0 (w : World) (B : Nat) : RowE.rel w B [.slice none 0 0] [] := ⟨none, 0, 0, rfl, Elems.none_ _ _ _⟩
theorem rows5 {w : World} {b : Nat} (h : Str w b #[.slice none 0 0, .slice none 0 0, .slice none 0 0, .slice none 0 0, .slice none 0 0]) : Elems RowE w w.heap.size (some ⟨b, 0, none⟩) 5 5 [[], [], [], [], []] :=
  ⟨[[.slice none 0 0], [.slice none 0 0], [.slice none 0 0], [.slice none 0 0], [.slice none 0 0]], ⟨row0 _ _, row0 _ _, row0 _ _, row0 _ _, row0 _ _, trivial⟩, rfl, Nat.le_refl _, by unfold maxLen; omega, fun _ => ⟨b, 0, rfl, h.lt, fun j v hv => by
    rw [h.cell, Nat.zero_add]
    simpa using hv⟩⟩
theorem new_two (w : World) (o : Obj) (P Q : Array Value) (T U : TypeId) : Str (((w.alloc o).alloc (.cells P T)).alloc (.cells Q U)).drew (w.heap.size + 1) P ∧ Str (((w.alloc o).alloc (.cells P T)).alloc (.cells Q U)).drew (w.heap.size + 1 + 1) Q ∧ Below w.heap.size w (((w.alloc o).alloc (.cells P T)).alloc (.cells Q U)).drew := by
  have e1 : (w.alloc o).heap.size = w.heap.size + 1 := by simp
  have e2 : ((w.alloc o).alloc (.cells P T)).heap.size = w.heap.size + 1 + 1 := by simp
  have h1 := (Str.new (w.alloc o) P T).alloc (.cells Q U)
  have h2 := Str.new ((w.alloc o).alloc (.cells P T)) Q U
  rw [e1] at h1
  rw [e2] at h2
  exact ⟨h1, h2, (balloc (balloc (balloc (bsame w) _) _) _).drew⟩
set_option maxRecDepth 100000 in
set_option maxHeartbeats 1000000 in
theorem new_any (w : World) : Calls Tryz.prog 29 #[.int .i64 5] w (GivesDev w [0, 0, 0, 0, 0] [[], [], [], [], []] 0) := by
  have hm1 := mk_ints
  have hm2 := mk_rows
  go_enter Tryz.func29, Tryz.ntmps29
  go_wp2_with fail
  go_region
  all_goals go_wp2_with fail
  · refine bodyPost_ret (v := .agg (devV (some ⟨w.heap.size + 1, 0, none⟩) 5 5 (some ⟨w.heap.size + 1 + 1, 0, none⟩) 5 5 0)) (by simp [results, Tryz.results29, go_sem, devV, *]) rfl ⟨_, rfl, ?_, ?_⟩
    · exact ⟨_, _, _, _, _, _, rfl, ints5 (new_two _ _ _ _ _ _).1, rows5 (new_two _ _ _ _ _ _).2.1⟩
    · exact (new_two _ _ _ _ _ _).2.2
  · refine bodyPost_ret (v := .agg (devV (some ⟨w.heap.size + 1 + 1, 0, none⟩) 5 5 (some ⟨w.heap.size + 1, 0, none⟩) 5 5 0)) (by simp [results, Tryz.results29, go_sem, devV, *]) rfl ⟨_, rfl, ?_, ?_⟩
    · exact ⟨_, _, _, _, _, _, rfl, ints5 (new_two _ _ _ _ _ _).2.1, rows5 (new_two _ _ _ _ _ _).1⟩
    · exact (new_two _ _ _ _ _ _).2.2
end RefDev
end Go.Proofs.YtcfieofcnpalgaaGreat
end
section
namespace Go.Proofs.YtcfieofcnpalgaaGreat
open Go.RowKit
set_option linter.unusedVariables false
set_option linter.unusedSimpArgs false
namespace RefDev
set_option maxRecDepth 100000 in
set_option maxHeartbeats 1000000 in
theorem may_write (As : Option Addr) (ns cs : Nat) (Ah : Option Addr) (nh ch : Nat) (k v : Int) (hk0 : 0 ≤ k) (hk : k ≤ 1000) (no : Int) (h0 : 0 ≤ no) (h1 : no < (ns : Int)) (w : World) :
    Calls Tryz.prog 50 #[.agg #[.slice As ns cs, .slice Ah nh ch, .slice none 0 0, .int .i64 0, .int .i64 0, .int .i64 (-1), .bool false, .int .i64 k], .agg #[.int .i64 1, .int .i64 no, .int .i64 v, .slice none 0 0, .slice none 0 0, .int .i64 0]] w fun e w' => e = .returned (.tuple #[.agg (devV As ns cs Ah nh ch (k + 1)), .int .i64 0]) ∧ Below w.heap.size w w' := by
  have d0 : decide (no < 0) = false := by simp; omega
  have d1 : decide ((ns : Int) ≤ no) = false := by simp; omega
  have hwr : wrap64 (k + 1) = k + 1 := IntWalk.wrap64_in _ (by omega)
  have HB := Lib.hid (bsame w)
  go_enter Tryz.func50, Tryz.ntmps50
  go_wp2_with fail
  go_region
  go_wp2_with fail
  exact bodyPost_ret (v := .tuple #[.agg (devV As ns cs Ah nh ch (k + 1)), .int .i64 0]) (by simp [results, Tryz.results50, go_sem, devV, *]) rfl ⟨rfl, (balloc (balloc (balloc (bsame w) _) _) _).drew⟩
set_option maxRecDepth 100000 in
set_option maxHeartbeats 1000000 in
theorem may_sync (As : Option Addr) (ns cs : Nat) (Ah : Option Addr) (nh ch : Nat) (k v : Int) (hk0 : 0 ≤ k) (hk : k ≤ 1000)  (w : World) :
    Calls Tryz.prog 50 #[.agg #[.slice As ns cs, .slice Ah nh ch, .slice none 0 0, .int .i64 0, .int .i64 0, .int .i64 (-1), .bool false, .int .i64 k], .agg #[.int .i64 2, .int .i64 0, .int .i64 0, .slice none 0 0, .slice none 0 0, .int .i64 0]] w fun e w' => e = .returned (.tuple #[.agg (devV As ns cs Ah nh ch (k + 1)), .int .i64 0]) ∧ Below w.heap.size w w' := by
  have hwr : wrap64 (k + 1) = k + 1 := IntWalk.wrap64_in _ (by omega)
  have HB := Lib.hid (bsame w)
  go_enter Tryz.func50, Tryz.ntmps50
  go_wp2_with fail
  go_region
  go_wp2_with fail
  exact bodyPost_ret (v := .tuple #[.agg (devV As ns cs Ah nh ch (k + 1)), .int .i64 0]) (by simp [results, Tryz.results50, go_sem, devV, *]) rfl ⟨rfl, (balloc (balloc (balloc (bsame w) _) _) _).drew⟩
end RefDev
end Go.Proofs.YtcfieofcnpalgaaGreat
end
section
namespace Go.Proofs.YtcfieofcnpalgaaGreat
open Go.RowKit
set_option linter.unusedVariables false
set_option linter.unusedSimpArgs false
namespace RefDev
end RefDev
end Go.Proofs.YtcfieofcnpalgaaGreat
end
section
namespace Go.Proofs.YtcfieofcnpalgaaGreat
open Go.RowKit
set_option linter.unusedVariables false
/-- an append in a region, of slices of any kind -/
theorem wp_appT {P : Program} {o : Oper} {a : Act} {w w' : World} {K : Act → World → Prop} {Q : Exit → Act → World → Prop} {A A2 A' : Option Addr} {n c m c2 n' c' : Nat} {t : TypeId} (s x : Operand)
    (ho : o.op = .call { callee := .builtin .append, args := #[s, x], argTypes := #[t, t] }) (hty : o.type = t) (hs : a.eval s = .slice A n c) (hx : a.eval x = .slice A2 m c2)
    (hr : (appSem #[t, t] t #[.slice A n c, .slice A2 m c2]).run P w = .ok (.slice A' n' c') w') (k : K (a.put o.dst (.slice A' n' c')) w') : Oper.wp P o a w K Q := by
  unfold appSem at hr
  unfold Oper.wp execOp
  simp only [ho, hty, resolve, invoke, builtin, Sem.run_bind, Sem.run_pure, Result.andThen_ok, List.map_toArray, List.map_cons, List.map_nil, hs, hx, hr]
  exact k
namespace Reg
theorem eval_ne {t : Tmp} {a : Act} {d : Option Tmp} {v : Value} (h : d ≠ some t) : (a.put d v).eval (.tmp t) = a.eval (.tmp t) := eval_of (put_other a d v t h)
theorem obl_freeL {R : Way} {P : Program} {ops : Array Oper} {Q : Exit → Act → World → Prop} {T : List (SP R)} {j : Nat} {o : Oper} {a : Act} {w : World} (hg : o.guard = none) (h : o.wp P a w (DoneB T j o a w) Q) : (Region.wanted o (yielded ops a.tmps) = true → o.wp P a w (DoneB T j o a w) Q) ∧ (Region.wanted o (yielded ops a.tmps) = false → predAt T j undef w) :=
  ⟨fun _ => h, fun hw => by simp [Region.wanted, hg] at hw⟩
theorem extB_next {N : Nat} {b0 : List Nat} {W : World} (hN : N = W.heap.size) : ∀ w w', (extB N b0).rel W w → Below w.heap.size w w' → (extB N b0).rel w w' := fun w w' h k => KeepB.of (k.mono (by rw [hN]; exact KeepB.size h))
/-- what so many of the line have brought about, and whether the one beside them has come up -/
abbrev LS := Nat → Bool → Act → World → Prop
/-- the line: who they are; the one beside them; what they bring about -/
structure Line where
  C : List Nat
  q : Nat
  S : LS
def LineJ (l : Line) : Word := fun listed a w => ∃ k, k ≤ l.C.length ∧ (∀ i c, l.C[i]? = some c → listed.getD c false = decide (i < k)) ∧ l.S k (listed.getD l.q false) a w
theorem line_zero {l : Line} {listed : Array Bool} {a : Act} {w : World} (h0 : l.S 0 false a w) (h : ∀ i, listed.getD i false = false) : LineJ l listed a w :=
  ⟨0, Nat.zero_le _, fun i c _ => by rw [h]; simp, by rw [h]; exact h0⟩
theorem line_end {l : Line} {listed : Array Bool} {a : Act} {w : World} {n : Nat} (hall : ∀ i, i < n → listed.getD i false = true) (hC : ∀ c ∈ l.C, c < n) (hJ : LineJ l listed a w) : ∃ b, (l.q < n → b = true) ∧ l.S l.C.length b a w := by
  obtain ⟨k, hk, hl, hS⟩ := hJ
  have e : k = l.C.length := by
    by_cases h : k < l.C.length
    · have h1 := hl k l.C[k] (List.getElem?_eq_getElem h)
      rw [hall _ (hC _ (List.getElem_mem h))] at h1
      simp at h1
    · omega
  subst e
  exact ⟨_, fun h => hall _ h, hS⟩
section
variable {R : Way} {l : Line} {P : Program} {ops : Array Oper} {Q : Exit → Act → World → Prop} {T : List (SP R)} {a0 : Act} {W : World} {j : Nat} {o : Oper} {s : List (Tmp × Option Nat)}
/-- an operation that is none of these -/
theorem oblL_ord (hj : j ∉ l.C ∧ j ≠ l.q) (hR : ∀ w w', R.rel W w → Below w.heap.size w w' → R.rel w w') (hst : ∀ k b a w v w', l.S k b a w → Below w.heap.size w w' → l.S k b (a.put o.dst v) w')
    (h : ∀ a w, R.rel W w → sights T a0 a w s → (Region.wanted o (yielded ops a.tmps) = true → o.wp P a w (DoneB T j o a w) Q) ∧ (Region.wanted o (yielded ops a.tmps) = false → predAt T j undef w)) : OblJ P ops Q T (LineJ l) a0 W j o s := by
  intro listed a w hx hs _ _ hun hwt hJ
  obtain ⟨h1, h2⟩ := h a w hx hs
  have key : ∀ v w', Below w.heap.size w w' → LineJ l (listed.setIfInBounds j true) (a.put o.dst v) w' := fun v w' hb => by
    obtain ⟨k, hk, hl, hS⟩ := hJ
    refine ⟨k, hk, fun i c hc => ?_, ?_⟩
    · rw [getD_set_ne false (fun e => hj.1 (by rw [e]; exact List.mem_of_getElem? hc))]
      exact hl i c hc
    · rw [getD_set_ne false hj.2]
      exact hst k _ a w v w' hS hb
  refine ⟨fun hw => Oper.wp_mono (fun a' w' ⟨v, e, hz, hp, hb⟩ => ?_) (h1 hw), fun hw => ⟨h2 hw, key _ _ (bsame w)⟩⟩
  subst e
  exact ⟨⟨v, rfl, hz, hp, hR w w' hx hb⟩, key v w' hb⟩
/-- one of the line -/
theorem oblL_line {k : Nat} (hg : o.guard = none) (hc : l.C[k]? = some j) (hnd : l.C.Nodup) (hq : j ≠ l.q) (hjl : j < ops.size) (hw : k = 0 ∨ ∃ c, l.C[k - 1]? = some c ∧ waits ops j c = true)
    (h : ∀ b a w, R.rel W w → sights T a0 a w s → a.tmps.size = a0.tmps.size → (waits ops j l.q = true → b = true) → l.S k b a w → o.wp P a w (fun a' w' => Done T j o a w a' w' ∧ l.S (k + 1) b a' w') Q) : OblJ P ops Q T (LineJ l) a0 W j o s := by
  intro listed a w hx hs hls has hun hwt hJ
  obtain ⟨k', hk', hl, hS⟩ := hJ
  have h1 := hl k j hc
  rw [getD_ft hun] at h1
  have hle : k' ≤ k := by
    have : ¬ k < k' := by simpa using h1.symm
    omega
  have he : k' = k := by
    rcases hw with rfl | ⟨c, h2, h3⟩
    · omega
    · have h4 := hl _ c h2
      rw [hwt c h3] at h4
      have : k - 1 < k' := by simpa using h4.symm
      omega
  subst he
  have hlt := (List.getElem?_eq_some_iff.1 hc).1
  refine free hg (Oper.wp_mono (fun a' w' ⟨h5, h6⟩ => ⟨h5, k' + 1, hlt, fun i c hi => ?_, ?_⟩) (h _ a w hx hs has (fun hw => hwt _ hw) hS))
  · by_cases e : i = k'
    · subst e
      rw [hc] at hi
      cases hi
      rw [getD_set_self (by omega)]
      simp
    · have hne : j ≠ c := fun e2 => e (by
        subst e2
        have g1 := (List.getElem?_eq_some_iff.1 hi).1
        have g3 := (List.getElem?_eq_some_iff.1 hi).2.trans (List.getElem?_eq_some_iff.1 hc).2.symm
        have g4 := List.pairwise_iff_getElem.1 hnd
        rcases Nat.lt_or_gt_of_ne e with e4 | e4
        · exact absurd g3 (g4 i k' g1 hlt e4)
        · exact absurd g3.symm (g4 k' i hlt g1 e4))
      rw [getD_set_ne false hne, hl i c hi]
      by_cases h7 : i < k'
      · simp [h7]; omega
      · simp [h7]; omega
  · rw [getD_set_ne false hq]
    exact h6
/-- the one beside them -/
theorem oblL_side (hg : o.guard = none) (hj : j = l.q) (hn : j ∉ l.C) (hjl : j < ops.size)
    (h : ∀ k a w, R.rel W w → sights T a0 a w s → a.tmps.size = a0.tmps.size → l.S k false a w → o.wp P a w (fun a' w' => Done T j o a w a' w' ∧ l.S k true a' w') Q) : OblJ P ops Q T (LineJ l) a0 W j o s := by
  intro listed a w hx hs hls has hun hwt hJ
  obtain ⟨k, hk, hl, hS⟩ := hJ
  have hf : listed.getD l.q false = false := by rw [← hj]; exact getD_ft hun
  rw [hf] at hS
  refine free hg (Oper.wp_mono (fun a' w' ⟨h5, h6⟩ => ⟨h5, k, hk, fun i c hi => ?_, ?_⟩) (h k a w hx hs has hS))
  · rw [getD_set_ne false (fun e => hn (by rw [e]; exact List.mem_of_getElem? hi))]
    exact hl i c hi
  · rw [← hj, getD_set_self (by omega)]
    exact h6
end
end Reg
end Go.Proofs.YtcfieofcnpalgaaGreat
end
section
namespace Go.Proofs.YtcfieofcnpalgaaGreat
open Go.RowKit
set_option linter.unusedVariables false
/-- what an element reads as hangs on no world -/
def El.Pure {α : Type} (E : El α) : Prop := ∀ w w' B B' vs x, E.rel w B vs x → E.rel w' B' vs x
theorem OwnE.grownP {α : Type} {E : El α} (hE : E.Pure) {T : TypeId} {w w' : World} {base n c : Nat} {A : Option Addr} {l : List α} {k : Option Nat} (h : OwnE E T w base A n c l) (hg : w.grownBy w' k) (hne : ∀ a, A = some a → k ≠ some a.block) : OwnE E T w' base A n c l := by
  obtain ⟨vs, ⟨h0, h1⟩, h2⟩ := h
  refine ⟨vs, ⟨h0, ?_⟩, h2.imp fun _ _ hr => hE _ _ _ _ _ _ hr⟩
  rcases h1 with e | ⟨g, cap, cur, e, hg2, hh, r⟩
  · exact .inl e
  · cases e
    refine .inr ⟨g, c, cur, rfl, hg2, ?_, r⟩
    exact (hg.block g (Array.getElem?_eq_some_iff.1 hh).1 (fun e => hne _ rfl e.symm)).trans hh
namespace Reg
/-- a row, the element that is to come behind it; who makes the row of one, who appends, who hands on; the slots -/
structure Row1 (α : Type) where
  E : El α
  T : TypeId
  base : Nat
  A : Option Addr
  n : Nat
  c : Nat
  l : List α
  x : α
  jr : Nat
  ja : Nat
  jf : Nat
  tr : Tmp
  ts : Tmp
  tf : Tmp
def Row1.Has {α : Type} (I : Row1 α) (N : Nat) (w : World) (A' : Option Addr) (c' : Nat) : Prop := OwnE I.E I.T w I.base A' (I.n + 1) c' (I.l ++ [I.x]) ∧ ∀ d, A' = some d → I.A = A' ∨ N ≤ d.block
def Row1.J {α : Type} (N : Nat) (I : Row1 α) : Word := fun listed a w =>
  (listed.getD I.ja false = false → OwnE I.E I.T w I.base I.A I.n I.c I.l ∧
    (listed.getD I.jr false = true → ∃ g vs, a.eval (.tmp I.tr) = .slice (some ⟨g, 0, none⟩) 1 1 ∧ N ≤ g ∧ Str w g vs.toArray ∧ I.E.rel w w.heap.size vs I.x)) ∧
  (listed.getD I.ja false = true → ∃ A' c', a.eval (.tmp I.ts) = .slice A' (I.n + 1) c' ∧ (listed.getD I.jf false = true → a.eval (.tmp I.tf) = .slice A' (I.n + 1) c') ∧ I.Has N w A' c') ∧
  (listed.getD I.jf false = true → listed.getD I.ja false = true)
def Row1.ok {α : Type} (I : Row1 α) (N k : Nat) : Prop := I.E.Pure ∧ I.jr ≠ I.ja ∧ I.jf ≠ I.ja ∧ I.jf ≠ I.jr ∧ I.tr ≠ I.ts ∧ I.tf ≠ I.ts ∧ I.tf ≠ I.tr ∧ I.jr < k ∧ I.ja < k ∧ I.jf < k
/-- an operation is none of the row's, and its slot none of its slots -/
def Row1.Off {α : Type} (I : Row1 α) (j : Nat) (d : Option Tmp) : Prop := j ≠ I.jr ∧ j ≠ I.ja ∧ j ≠ I.jf ∧ d ≠ some I.tr ∧ d ≠ some I.ts ∧ d ≠ some I.tf
/-- a block is none of the row's -/
def Row1.Out {α : Type} (I : Row1 α) (N : Nat) (k : Option Nat) : Prop := ∀ g, k = some g → g < N ∧ ∀ a, I.A = some a → a.block ≠ g
theorem Str.by_ {w w' : World} {b : Nat} {cs : Array Value} {k : Option Nat} (h : Str w b cs) (hg : w.grownBy w' k) (hk : k ≠ some b) : Str w' b cs := by
  have hl := h.lt
  obtain ⟨t, ht⟩ := h
  exact ⟨t, (hg.block b hl (fun e => hk e.symm)).trans ht⟩
section
variable {α β : Type} {I : Row1 α} {I2 : Row1 β} {N : Nat} {listed : Array Bool} {a : Act} {w w' : World} {j : Nat} {d : Option Tmp} {v : Value} {k : Option Nat}
theorem Row1.step (hE : I.E.Pure) (h : I.J N listed a w) (hj : I.Off j d) (hg : w.grownBy w' k) (ho : I.Out N k) : I.J N (listed.setIfInBounds j true) (a.put d v) w' := by
  obtain ⟨j1, j2, j3, d1, d2, d3⟩ := hj
  unfold Row1.J
  rw [getD_set_ne false j2, getD_set_ne false j1, getD_set_ne false j3, eval_ne d1, eval_ne d2, eval_ne d3]
  refine ⟨fun hf => ?_, fun ht => ?_, h.2.2⟩
  · obtain ⟨h1, h2⟩ := h.1 hf
    refine ⟨h1.grownP hE hg (fun ad e ek => (ho _ ek).2 ad e rfl), fun hr => ?_⟩
    obtain ⟨g, vs, e, hN, hs, hrel⟩ := h2 hr
    exact ⟨g, vs, e, hN, Str.by_ hs hg (fun ek => by have := (ho _ ek).1; omega), hE _ _ _ _ _ _ hrel⟩
  · obtain ⟨A', c', e, ef, h1, h2⟩ := h.2.1 ht
    refine ⟨A', c', e, ef, h1.grownP hE hg (fun ad e2 ek => ?_), h2⟩
    obtain ⟨k1, k2⟩ := ho _ ek
    rcases h2 ad e2 with e3 | e3
    · exact k2 ad (by rw [e3, e2]) rfl
    · omega
end
section
variable {α β : Type} {I : Row1 α} {I2 : Row1 β} {N : Nat} {bl : List Nat} {P : Program} {ops : Array Oper} {Q : Exit → Act → World → Prop} {T : List (SP (extB N bl))} {a0 : Act} {W : World} {j : Nat} {o : Oper} {s : List (Tmp × Option Nat)}
end
end Reg
end Go.Proofs.YtcfieofcnpalgaaGreat
end
section
namespace Go.Proofs.YtcfieofcnpalgaaGreat.WideP
def hi (x : Int) : Int := x / 18446744073709551616
def lo (x : Int) : Int := x % 18446744073709551616
/-- a number of 64 bits? -/
def fits (x : Int) : Bool := decide (-9223372036854775808 ≤ x) && decide (x ≤ 9223372036854775807)
def num (x : Int) : Int := if fits x then x else 0
end Go.Proofs.YtcfieofcnpalgaaGreat.WideP
namespace Go.Proofs.YtcfieofcnpalgaaGreat.WideW
open Go.RowKit

end Go.Proofs.YtcfieofcnpalgaaGreat.WideW
end
section
namespace Go.Proofs.YtcfieofcnpalgaaGreat
end Go.Proofs.YtcfieofcnpalgaaGreat
namespace Go.Proofs.YtcfieofcnpalgaaGreat.UndoP
def none : Undo := ⟨0, ByteArray.empty, SlotP.none, 0⟩
/-- does the slot stand for this key? -/
def stands (x : Item) (k : ByteArray) : Prop := (x.state = 1 ∨ x.state = 2) ∧ x.key = k
/-- how an operation is taken back -/
noncomputable def of (x : OpX) (was thn : Item) : Undo := by
  classical
  exact if x.act = 4 then ⟨3, x.key, SlotP.none, x.n⟩ else if x.act = 5 then ⟨2, x.key, SlotP.none, x.n⟩ else
    if x.act = 1 ∨ x.act = 2 ∨ x.act = 3 then (if stands was x.key then ⟨1, x.key, was, 0⟩ else ⟨1, x.key, ⟨2, thn.key, thn.cell⟩, 0⟩) else none
/-- the sum, or the difference -/
def sum (u : Undo) (now : Item) : Int := if u.act = 3 then now.cell.val - u.n else now.cell.val + u.n
/-- what a slot becomes -/
noncomputable def apply (u : Undo) (now : Item) : Item × Int := by
  classical
  exact if u.act = 1 then (u.item, 0) else if u.act = 2 ∨ u.act = 3 then
    (if now.state = 1 ∧ now.key = u.key then
      (if now.cell.kind = 2 ∧ CellP.right now.cell = true then
        (if sum u now < now.cell.lo ∨ now.cell.hi < sum u now then (SlotP.none, 8) else (⟨1, now.key, ⟨2, [], now.cell.lo, now.cell.hi, sum u now⟩⟩, 0)) else (SlotP.none, 6)) else (SlotP.none, 5)) else (SlotP.none, 1)
/-- are all fields the same? -/
def same (a b : Undo) : Bool := a.act == b.act && (a.key.toList == b.key.toList && (a.n == b.n && SlotP.same a.item b.item))
end Go.Proofs.YtcfieofcnpalgaaGreat.UndoP
namespace Go.Proofs.YtcfieofcnpalgaaGreat.UndoP
/-- may it be? -/
def right (u : Undo) : Bool :=
  if u.act = 0 then same u none
  else if u.act = 1 then KeyP.right u.key.data.toList && ((u.item.state == 1 || u.item.state == 2) && (SlotP.right u.item && (u.item.key.toList == u.key.toList && u.n == 0)))
  else if u.act = 2 ∨ u.act = 3 then KeyP.right u.key.data.toList && (decide (0 ≤ u.n) && SlotP.same u.item SlotP.none) else false
/-- its bytes, if it may be -/
def bytes (u : Undo) : List UInt8 :=
  if right u = true then (if u.act = 0 then [0] else [UInt8.ofNat u.act.toNat, UInt8.ofNat u.key.size] ++ (u.key.data.toList ++ (if u.act = 1 then SlotP.bytes u.item else BeP.parts 8 u.n))) else []
end Go.Proofs.YtcfieofcnpalgaaGreat.UndoP
end
