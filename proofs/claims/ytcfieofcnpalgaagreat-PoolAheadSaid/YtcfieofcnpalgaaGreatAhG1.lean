/-
  Parts of the proof of PoolAhead.
-/
import Derived.Test.YtcfieofcnpalgaaGreatAhG0
import Derived.Deep.Heap
import Derived.Laws.BitsAllLaws
import Derived.Test.YtcfieofcnpalgaaGreatProg
import Derived.Deep.WholeRow
import Derived.Laws.StructEq
import Derived.ChangeKeysEq
import Derived.Laws.CopyOwn
import Derived.Lib.BufferWrite
import Derived.Lib.AppendZerosOnto
section
namespace Go.Proofs.YtcfieofcnpalgaaGreat
open Go.RowKit

theorem Str.set {w : World} {b : Nat} {cs : Array Value} (h : Str w b cs) (i : Nat) (v : Value) : Str (w.setCell ⟨b, i, none⟩ v) b (cs.setIfInBounds i v) := by
  obtain ⟨t, h⟩ := h
  refine ⟨t, ?_⟩
  have hl := (Array.getElem?_eq_some_iff.1 h).1
  simp [World.setCell, Array.getElem?_modify, h]
theorem Str.other {w : World} {b b' : Nat} {cs : Array Value} (h : Str w b cs) (i : Nat) (v : Value) (hne : b ≠ b') : Str (w.setCell ⟨b', i, none⟩ v) b cs := by
  obtain ⟨t, h⟩ := h
  exact ⟨t, (Deep.blk_setCell_other w ⟨b', i, none⟩ v b hne).trans h⟩
theorem own_set {w : World} {base : Nat} {e : TypeId} {size n : Nat} {v : Value} {xs : List Value} (h : w.ownsRow base e size v n xs) {b : Nat} (hb : b < base) (i : Nat) (u : Value) : (w.setCell ⟨b, i, none⟩ u).ownsRow base e size v n xs := by
  obtain ⟨h1, h2⟩ := h
  refine ⟨h1, ?_⟩
  rcases h2 with h2 | ⟨g, cap, cur, hv, hg, hh, r⟩
  · exact .inl h2
  · exact .inr ⟨g, cap, cur, hv, hg, (Deep.blk_setCell_other w ⟨b, i, none⟩ u g (by show g ≠ b; omega)).trans hh, r⟩
theorem Bytes.own {w : World} {A : Option Addr} {n c base k : Nat} {l : List UInt8} {e : TypeId} (h : w.ownsRow base e 1 (.slice A n c) k (l.map byteV)) : Bytes w w.heap.size A n c l := by
  obtain ⟨A', n', c', e', h'⟩ := Bytes.of_own h
  cases e'
  exact h'
theorem str1 {w : World} {b : Nat} {c0 : Value} (h : Str w b #[c0]) : w.cell? ⟨b, 0, none⟩ = some c0 := h.cell 0
theorem str2 {w : World} {b : Nat} {c0 c1 : Value} (h : Str w b #[c0, c1]) : w.cell? ⟨b, 0, none⟩ = some c0 ∧ w.cell? ⟨b, 1, none⟩ = some c1 := ⟨h.cell 0, h.cell 1⟩
theorem str4 {w : World} {b : Nat} {c0 c1 c2 c3 : Value} (h : Str w b #[c0, c1, c2, c3]) : w.cell? ⟨b, 0, none⟩ = some c0 ∧ w.cell? ⟨b, 1, none⟩ = some c1 ∧ w.cell? ⟨b, 2, none⟩ = some c2 ∧ w.cell? ⟨b, 3, none⟩ = some c3 := ⟨h.cell 0, h.cell 1, h.cell 2, h.cell 3⟩
end Go.Proofs.YtcfieofcnpalgaaGreat
end
section
namespace Go.Proofs.YtcfieofcnpalgaaGreat.BeP

/-- a number of 64 bits, as a natural number -/
def u64 (m : Int) : Nat := (m % 18446744073709551616).toNat
/-- byte k of the lowest width bytes of m -/
def part (width : Nat) (m : Int) (k : Nat) : UInt8 := UInt8.ofNat (u64 m / 2 ^ (8 * (width - 1 - k)))
/-- the lowest width bytes of m, the greatest one ahead -/
def parts (width : Nat) (m : Int) : List UInt8 := (List.range width).map (part width m)
theorem parts_length (width : Nat) (m : Int) : (parts width m).length = width := by simp [parts]
theorem parts_take (width : Nat) (m : Int) (k : Nat) (h : k < width) : (parts width m).take (k + 1) = (parts width m).take k ++ [part width m k] := by
  have hl : k < (parts width m).length := by rw [parts_length]; exact h
  rw [List.take_succ_eq_append_getElem hl]
  simp [parts]
theorem parts_all (width : Nat) (m : Int) (k : Nat) (h : ¬ k < width) : (parts width m).take k = parts width m := List.take_of_length_le (by rw [parts_length]; omega)
theorem u64_wrap (m : Int) : IntKind.u64.wrap m = (u64 m : Int) := by
  simp only [IntKind.wrap, IntKind.bits, IntKind.signed, u64]
  simp
  omega
/-- as the walk spells it -/
theorem part_walk (width : Nat) (m : Int) (k : Nat) (h : k < width) : IntKind.u64.wrap m / 2 ^ (8 * (width - 1) - 8 * k) % 256 = ((part width m k).toNat : Int) := by
  have e : 8 * (width - 1) - 8 * k = 8 * (width - 1 - k) := by omega
  rw [u64_wrap, e, part]
  generalize 8 * (width - 1 - k) = j
  generalize u64 m = u
  have h1 : (UInt8.ofNat (u / 2 ^ j)).toNat = u / 2 ^ j % 256 := by simp
  rw [h1]
  simp
end Go.Proofs.YtcfieofcnpalgaaGreat.BeP
end
section
namespace Go.Proofs.YtcfieofcnpalgaaGreat.CellP

/-- the empty cell -/
def none : Cell := ⟨0, [], 0, 0, 0⟩
/-- may a cell be? -/
def right (c : Cell) : Bool :=
  if c.kind = 1 then decide (c.data.length ≤ 32) && (c.lo == 0 && (c.hi == 0 && c.val == 0))
  else c.kind == 2 && (c.data.length == 0 && (decide (c.lo ≤ c.val) && decide (c.val ≤ c.hi)))
def same (a b : Cell) : Bool := a.kind == b.kind && (a.data == b.data && (a.lo == b.lo && (a.hi == b.hi && a.val == b.val)))
def code (b : Bool) : Int := if b then 0 else 1
/-- a counter with another value, and the error's number -/
def set (c : Cell) (v : Int) : Cell × Int :=
  if c.kind = 2 ∧ right c = true then (if v < c.lo ∨ c.hi < v then (none, 8) else (⟨2, [], c.lo, c.hi, v⟩, 0)) else (none, 6)
/-- the bytes of a cell that may be -/
def bytes (c : Cell) : List UInt8 :=
  if right c = true then (if c.kind = 1 then [1, UInt8.ofNat c.data.length] ++ c.data else [2] ++ (BeP.parts 8 c.lo ++ (BeP.parts 8 c.hi ++ BeP.parts 8 c.val))) else []
end Go.Proofs.YtcfieofcnpalgaaGreat.CellP
end
section
namespace Go.Proofs.YtcfieofcnpalgaaGreat.KeyP

/-- a byte that a key may have -/
def okB (c : UInt8) : Bool := decide (33 ≤ c.toNat) && decide (c.toNat ≤ 126)
def right (l : List UInt8) : Bool := l.all okB && (decide (0 < l.length) && decide (l.length ≤ 16))
/-- the error's number: 0, or 1 -/
def code (b : Bool) : Int := if b then 0 else 1
theorem all_take (s : ByteArray) (k : Nat) (h : k < s.size) : (s.data.toList.take (k + 1)).all okB = ((s.data.toList.take k).all okB && okB s[k]) := by
  rw [List.take_succ_eq_append_getElem (by simpa using h)]
  simp only [List.all_append, List.all_cons, List.all_nil, Bool.and_true]
  rfl
theorem all_of_take (s : ByteArray) (k : Nat) (h : ¬ k < s.size) (ha : (s.data.toList.take k).all okB = true) : s.data.toList.all okB = true := by
  rw [List.take_of_length_le (by simp; exact Nat.le_of_not_lt h)] at ha
  exact ha
theorem right_eq (s : ByteArray) (h1 : s.data.toList.all okB = true) (h2 : 0 < s.size) : right s.data.toList = decide ((s.size : Int) ≤ 16) := by
  have e : s.data.toList.length = s.size := by simp
  have e2 : decide ((s.size : Int) ≤ 16) = decide (s.size ≤ 16) := by rw [decide_eq_decide]; omega
  rw [e2]
  simp [right, h1, h2]
theorem right_of (s : ByteArray) (h1 : s.data.toList.all okB = true) (h2 : 0 < s.size) (h3 : s.size ≤ 16) : right s.data.toList = true := by
  have e : s.data.toList.length = s.size := by simp
  simp only [right, h1, e, Bool.true_and, Bool.and_eq_true, decide_eq_true_eq]
  exact ⟨h2, h3⟩
theorem not_right_len (s : ByteArray) (h : ¬ (0 < s.size ∧ s.size ≤ 16)) : right s.data.toList = false := by
  have e : s.data.toList.length = s.size := by simp
  unfold right
  rw [e]
  by_cases h0 : 0 < s.size <;> by_cases h1 : s.size ≤ 16 <;> simp_all
theorem not_right_at (s : ByteArray) (k : Nat) (h : k < s.size) (hc : okB s[k] = false) : right s.data.toList = false := by
  have hm : s[k] ∈ s.data.toList := by
    have : s[k] = s.data.toList[k]'(by simpa using h) := rfl
    rw [this]
    exact List.getElem_mem _
  have : s.data.toList.all okB = false := by
    rw [List.all_eq_false]
    exact ⟨_, hm, by simp [hc]⟩
  simp [right, this]
theorem okB_true (c : UInt8) (h1 : 33 ≤ c.toNat) (h2 : c.toNat ≤ 126) : okB c = true := by simp [okB, h1, h2]
theorem okB_lo (c : UInt8) (h1 : c.toNat < 33) : okB c = false := by
  have : ¬ 33 ≤ c.toNat := by omega
  simp [okB, this]
theorem okB_hi (c : UInt8) (h1 : 126 < c.toNat) : okB c = false := by
  have : ¬ c.toNat ≤ 126 := by omega
  simp [okB, this]
theorem code_true : code true = 0 := rfl
theorem code_false : code false = 1 := rfl
end Go.Proofs.YtcfieofcnpalgaaGreat.KeyP
end
section
namespace Go.Proofs.YtcfieofcnpalgaaGreat.SlotP

/-- the empty slot -/
def none : Item := ⟨0, ByteArray.empty, CellP.none⟩
def same (x y : Item) : Bool := x.state == y.state && (x.key.toList == y.key.toList && CellP.same x.cell y.cell)
/-- may an item be? -/
def right (x : Item) : Bool := if x.state = 0 then same x none else ((x.state == 1 || x.state == 2) && (KeyP.right x.key.data.toList && CellP.right x.cell))
/-- what a slot begins with -/
def body (x : Item) : List UInt8 := [UInt8.ofNat x.state.toNat, UInt8.ofNat x.key.size] ++ (x.key.data.toList ++ CellP.bytes x.cell)
def zeros (n : Nat) : List UInt8 := List.replicate n 0
/-- the bytes of a slot -/
def bytes (x : Item) : List UInt8 := if x.state ≠ 0 ∧ right x = true then body x ++ zeros (64 - (body x).length) else zeros 64

theorem right_key (x : Item) (h0 : x.state ≠ 0) (hr : right x = true) : x.key.size ≤ 16 := by
  unfold right at hr
  rw [if_neg h0] at hr
  simp only [Bool.and_eq_true] at hr
  have := hr.2.1
  unfold KeyP.right at this
  simp at this
  exact this.2.2
theorem right_state (x : Item) (h0 : x.state ≠ 0) (hr : right x = true) : x.state = 1 ∨ x.state = 2 := by
  unfold right at hr
  rw [if_neg h0] at hr
  simp only [Bool.and_eq_true, Bool.or_eq_true, beq_iff_eq] at hr
  exact hr.1
theorem cell_le (c : Cell) : (CellP.bytes c).length ≤ 34 := by
  unfold CellP.bytes
  cases hr : CellP.right c
  · simp
  · by_cases hk : c.kind = 1
    · unfold CellP.right at hr
      rw [if_pos hk] at hr
      simp at hr
      simp [hk]
      omega
    · simp [hk, BeP.parts_length]
/-- bytes with others from a place on -/
def over (l : List UInt8) (off : Nat) (s : List UInt8) : List UInt8 := l.take off ++ (s ++ l.drop (off + s.length))
theorem over_append (p q s : List UInt8) (n : Nat) (h : p.length = n) : over (p ++ q) n s = p ++ (s ++ q.drop s.length) := by
  subst h
  unfold over
  rw [List.take_left, List.drop_append]
  simp
theorem zeros_drop (n m : Nat) : (zeros n).drop m = zeros (n - m) := by simp [zeros]
theorem over_length (l : List UInt8) (off : Nat) (s : List UInt8) (h : off + s.length ≤ l.length) : (over l off s).length = l.length := by
  simp [over]; omega
theorem over_zero (l s : List UInt8) (h : l.length = s.length) : over l 0 s = s := by
  unfold over
  rw [List.drop_eq_nil_of_le (by omega)]
  simp
/-- as slot.Put lays the bytes -/
theorem put_list (x : Item) (h0 : x.state ≠ 0) (hr : right x = true) :
    over (over (((zeros 64).set 0 (UInt8.ofNat x.state.toNat)).set 1 (UInt8.ofNat x.key.size)) 2 x.key.data.toList) (2 + x.key.size) (CellP.bytes x.cell) = bytes x := by
  have hl : x.key.data.toList.length = x.key.size := Array.length_toList
  have hset : ((zeros 64).set 0 (UInt8.ofNat x.state.toNat)).set 1 (UInt8.ofNat x.key.size) = [UInt8.ofNat x.state.toNat, UInt8.ofNat x.key.size] ++ zeros 62 := rfl
  have h2 : ([UInt8.ofNat x.state.toNat, UInt8.ofNat x.key.size] ++ x.key.data.toList).length = 2 + x.key.size := by
    rw [List.length_append, hl]
    rfl
  unfold bytes
  rw [if_pos ⟨h0, hr⟩, hset, over_append _ _ _ 2 rfl, ← List.append_assoc, over_append _ _ _ _ h2, zeros_drop, zeros_drop, hl]
  unfold body
  simp only [List.append_assoc, List.length_append, hl, List.length_cons, List.length_nil]
  rw [show 62 - x.key.size - (CellP.bytes x.cell).length = 64 - (0 + 1 + 1 + (x.key.size + (CellP.bytes x.cell).length)) by omega]
theorem bytes_length (x : Item) : (bytes x).length = 64 := by
  unfold bytes
  split
  · rename_i h
    have hk := right_key x h.1 h.2
    have hc := cell_le x.cell
    have hl : x.key.data.toList.length = x.key.size := Array.length_toList
    simp only [body, zeros, List.length_append, List.length_replicate, List.length_cons, List.length_nil, hl]
    omega
  · simp [zeros]
end Go.Proofs.YtcfieofcnpalgaaGreat.SlotP
end
section
namespace Go.Proofs.YtcfieofcnpalgaaGreat
open Go.RowKit

/-- bytes as cells -/
def rowV (l : List UInt8) : Array Value := (l.map byteV).toArray
theorem rowV_size (l : List UInt8) : (rowV l).size = l.length := by simp [rowV]
theorem rowV_get (l : List UInt8) (i : Nat) : (rowV l)[i]? = l[i]?.map byteV := by simp [rowV]
theorem rowV_one (l : List UInt8) : (rowV l).all (·.oneCell') = true := by
  rw [Array.all_eq_true_iff_forall_mem]
  intro v hv
  exact byteV_one l v (by simpa [rowV] using hv)
theorem rowV_zeros (n : Nat) : rowV (SlotP.zeros n) = Array.replicate n (.int .u8 0) := by
  simp [rowV, SlotP.zeros, byteV]
theorem rowV_set (l : List UInt8) (i : Nat) (u : UInt8) : (rowV l).setIfInBounds i (byteV u) = rowV (l.set i u) := by
  simp [rowV, List.map_set]

def alSem (t : TypeId) : Sem Value := Instr.alloc t true (.tuple #[])
def bdSem (t : TypeId) (ps : Array (Nat × Value)) : Sem Value := Instr.build t ps
def ldSem (t : TypeId) (v : Value) : Sem Value := Instr.loadAt t v
def stSem (t : TypeId) (a v : Value) : Sem Unit := Instr.storeAt t a v
/-- a type that is so many bytes -/
structure ArrT (P : Program) (t : TypeId) (n : Nat) : Prop where
  und : ∃ e, P.underlying t = some (.array n e) ∧ P.underlying e = some (.int .u8) ∧ (P.info? e).map (·.size) = some 1
  info : (P.info? t).map (fun i => (i.zero, i.size)) = some (some (.agg (Array.replicate n (.int .u8 0))), n)
  guard : P.eqGuardType P.depth t = false
section
variable {P : Program} {t : TypeId} {n : Nat}
theorem ArrT.size (h : ArrT P t n) : (P.info? t).map (·.size) = some n := by
  have := h.info
  cases hq : P.info? t with
  | none => simp [hq] at this
  | some i =>
    simp [hq] at this
    simp [this.2]
theorem run_al (h : ArrT P t n) (w : World) : (alSem t).run P w = .ok (.pointer (some ⟨w.heap.size, 0, none⟩)) (w.alloc (.cells (rowV (SlotP.zeros n)) t)) := by
  obtain ⟨hz, _⟩ := zero_of_info h.info
  rw [rowV_zeros]
  simp [alSem, Instr.alloc, hz, newVar, newRow, Value.cells]
theorem run_bd (h : ArrT P t n) (w : World) : (bdSem t #[]).run P w = .ok (.agg (rowV (SlotP.zeros n))) w := by
  obtain ⟨hz, _⟩ := zero_of_info h.info
  obtain ⟨e, he, _, he1⟩ := h.und
  rw [rowV_zeros]
  cases hq : P.info? e with
  | none => simp [hq] at he1
  | some i => simp [bdSem, Instr.build, hz, run_underlying he, sizeOf, typeInfo, hq, Instr.fill, Value.cells]
theorem run_ld (h : ArrT P t n) {w : World} {b : Nat} {l : List UInt8} (hs : Str w b (rowV l)) (hl : l.length = n) : (ldSem t (.pointer (some ⟨b, 0, none⟩))).run P w = .ok (.agg (rowV l)) w := by
  obtain ⟨t', hg⟩ := hs
  obtain ⟨e, he, _⟩ := h.und
  simp only [ldSem, Instr.loadAt, Instr.sureAddr, Sem.run_bind, Sem.run_pure, Result.andThen_ok]
  exact run_loadVar_row w b t' t (rowV l) (0, 0) _ hg he rfl (by rw [h.size, rowV_size, hl])
theorem run_st (h : ArrT P t n) {w : World} {b : Nat} {cs : Array Value} {l : List UInt8} (hs : Str w b cs) (hc : cs.size = n) (hl : l.length = n) : (stSem t (.pointer (some ⟨b, 0, none⟩)) (.agg (rowV l))).run P w = .ok () (w.setRow b (rowV l)) := by
  obtain ⟨t', hg⟩ := hs
  simp only [stSem, Instr.storeAt, Instr.sureAddr, Sem.run_bind, Sem.run_pure, Result.andThen_ok]
  exact run_storeVar_row w b t' t cs (rowV l) hg (by rw [h.size, rowV_size, hl]) (by rw [rowV_size, hc, hl]) (rowV_one l)
theorem Str.setRow {w : World} {b : Nat} {cs cs' : Array Value} (h : Str w b cs) : Str (w.setRow b cs') b cs' := by
  obtain ⟨t', hg⟩ := h
  exact ⟨t', by simp [World.setRow, Array.getElem?_modify, hg]⟩
theorem Str.setRow_other {w : World} {b b' : Nat} {cs cs' : Array Value} (h : Str w b cs) (hne : b ≠ b') : Str (w.setRow b' cs') b cs := by
  obtain ⟨t', hg⟩ := h
  exact ⟨t', by simp [World.setRow, Array.getElem?_modify, hg, Ne.symm hne]⟩
theorem run_eqItems (e : TypeId) (d : Nat) (he : P.underlying e = some (.int .u8)) (hc : P.cellsOf e = 1) (l l' : List UInt8) (w : World) (hl : l'.length = l.length) :
    ∀ is : List Nat, (∀ j ∈ is, j < l.length) → (Op.eqItems (d + 1) e (P.cellsOf e) (rowV l) (rowV l') is).run P w = .ok (is.all fun j => l[j]? == l'[j]?) w := by
  intro is
  induction is with
  | nil => intro _; simp [Op.eqItems]
  | cons j is ih =>
    intro hj
    have hlt : j < l.length := hj j (by simp)
    have hlt' : j < l'.length := by omega
    have hag : (isAgg e).run P w = .ok false w := by simp [isAgg, run_underlying he]
    have h1 : (part e (rowV l) j).run P w = .ok (byteV l[j]) w := by simp [part, hag, rowV_get, hlt]
    have h2 : (part e (rowV l') j).run P w = .ok (byteV l'[j]) w := by simp [part, hag, rowV_get, hlt']
    have h3 : (Op.equalIn (d + 1) e (byteV l[j]) (byteV l'[j])).run P w = .ok (((l[j].toNat : Int)) == (l'[j].toNat : Int)) w := run_equalIn_int w d e .u8 .u8 _ _ he
    have h4 : ((l[j].toNat : Int) == (l'[j].toNat : Int)) = (l[j]? == l'[j]?) := by
      rw [List.getElem?_eq_getElem hlt, List.getElem?_eq_getElem hlt', Bool.eq_iff_iff]
      simp only [beq_iff_eq, Option.some.injEq]
      constructor
      · intro h; exact UInt8.toNat.inj (by omega)
      · intro h; rw [h]
    have hr := ih fun k hk => hj k (by simp [hk])
    rw [hc] at hr ⊢
    simp only [Op.eqItems, Sem.run_bind, Nat.mul_one, h1, h2, h3, Result.andThen_ok, h4, List.all_cons]
    cases hb : (l[j]? == l'[j]?) with
    | false => simp
    | true => simpa using hr
theorem all_eq (l l' : List UInt8) (hl : l'.length = l.length) : ((List.range l.length).all fun j => l[j]? == l'[j]?) = (l == l') := by
  rw [Bool.eq_iff_iff]
  simp only [List.all_eq_true, List.mem_range, beq_iff_eq]
  constructor
  · intro h
    refine List.ext_getElem? fun j => ?_
    by_cases hj : j < l.length
    · exact h j hj
    · rw [List.getElem?_eq_none (by omega), List.getElem?_eq_none (by omega)]
  · rintro rfl j _; rfl
theorem run_arr_eq (h : ArrT P t n) (l l' : List UInt8) (hl : l.length = n) (hl' : l'.length = n) (w : World) : (Op.equalIn 10000 t (.agg (rowV l)) (.agg (rowV l'))).run P w = .ok (l == l') w := by
  obtain ⟨e, hu, he, hi⟩ := h.und
  cases hq : P.info? e with
  | none => simp [hq] at hi
  | some i =>
    have hc : P.cellsOf e = 1 := by simpa [Program.cellsOf, hq] using hi
    have := run_equalIn_array w 9999 (rowV l) (rowV l') hu hq
    rw [this, run_eqItems e 9998 he hc l l' w (by omega) _ (by simp; omega), ← all_eq l l' (by omega), hl]

def slSem (t : TypeId) (x : Value) (lo hi mx : Option Value) : Sem Value := Instr.sliceAt t x lo hi mx
/-- the address of a part of an array -/
theorem run_sl (h : ArrT P t n) (b lo hi : Nat) (h1 : lo ≤ hi) (h2 : hi ≤ n) (hlt : lo < n) (w : World) :
    (slSem t (.pointer (some ⟨b, 0, none⟩)) (some (.int .i64 (lo : Int))) (some (.int .i64 (hi : Int))) none).run P w = .ok (.slice (some ⟨b, lo, none⟩) (hi - lo) (n - lo)) w := by
  obtain ⟨e, hu, _, hi1⟩ := h.und
  cases hq : P.info? e with
  | none => simp [hq] at hi1
  | some i =>
    have hs : i.size = 1 := by simpa [hq] using hi1
    have a1 : (0 : Int) ≤ (hi : Int) ∧ (hi : Int) ≤ (n : Int) := by omega
    have a2 : (0 : Int) ≤ (lo : Int) ∧ (lo : Int) ≤ (hi : Int) := by omega
    simp [slSem, Instr.sliceAt, run_underlying hu, Instr.sureAddr, Instr.sliceBounds, Instr.sliceBound, asIntOf, a1, a2, sizeOf, typeInfo, hq, hs, add_none, h1, h2]
    omega
theorem run_sl_from (h : ArrT P t n) (b lo : Nat) (hlt : lo < n) (w : World) :
    (slSem t (.pointer (some ⟨b, 0, none⟩)) (some (.int .i64 (lo : Int))) none none).run P w = .ok (.slice (some ⟨b, lo, none⟩) (n - lo) (n - lo)) w := by
  obtain ⟨e, hu, _, hi1⟩ := h.und
  cases hq : P.info? e with
  | none => simp [hq] at hi1
  | some i =>
    have hs : i.size = 1 := by simpa [hq] using hi1
    simp [slSem, Instr.sliceAt, run_underlying hu, Instr.sureAddr, Instr.sliceBounds, Instr.sliceBound, asIntOf, sizeOf, typeInfo, hq, hs, add_none, (by omega : lo ≤ n)]
    omega
theorem run_sl_all (h : ArrT P t n) (b : Nat) (w : World) :
    (slSem t (.pointer (some ⟨b, 0, none⟩)) none none none).run P w = .ok (.slice (some ⟨b, 0, none⟩) n n) w := by
  obtain ⟨e, hu, _, hi1⟩ := h.und
  cases hq : P.info? e with
  | none => simp [hq] at hi1
  | some i =>
    simp [slSem, Instr.sliceAt, run_underlying hu, Instr.sureAddr, Instr.sliceBounds, sizeOf, typeInfo, hq, add_none]
/-- a part of a row reads as bytes -/
theorem Str.part {w : World} {b : Nat} {l : List UInt8} (h : Str w b (rowV l)) (lo m c : Nat) (h1 : lo + m ≤ l.length) (h2 : m ≤ c) (h3 : c ≤ maxLen) : Bytes w w.heap.size (some ⟨b, lo, none⟩) m c ((l.drop lo).take m) := by
  refine ⟨by simp; omega, h2, h3, fun _ => ⟨b, lo, rfl, h.lt, fun j u hu => ?_⟩⟩
  rw [h.cell, rowV_get]
  rw [List.getElem?_take] at hu
  split at hu
  · rw [List.getElem?_drop] at hu
    rw [hu]
    rfl
  · cases hu
theorem Str.grown {w w1 : World} {b g : Nat} {cs : Array Value} (h : Str w b cs) (hg : w.grownBy w1 (some g)) (hne : b ≠ g) : Str w1 b cs := by
  have hl := h.lt
  obtain ⟨t', h⟩ := h
  exact ⟨t', (hg.block b hl (by intro e; exact hne (by injection e))).trans h⟩
theorem below_grown {g : Nat} {a w w1 : World} (h : Below a.heap.size a w) (hg : w.grownBy w1 (some g)) (hB : a.heap.size ≤ g) : Below a.heap.size a w1 :=
  ⟨hg.os.trans h.os, hg.tape.trans h.tape, hg.output.trans h.output, Nat.le_trans h.size hg.size, fun i hi => (hg.block i (Nat.lt_of_lt_of_le hi h.size) (by intro e; injection e with e; omega)).trans (h.block i hi)⟩
theorem results_arr {fn : Func} {p : Tmp} (hA : ArrT P t n) (hr : fn.results = #[.cell p t]) (tmps : Array Value) {w : World} {g : Nat} {l : List UInt8} (hs : Str w g (rowV l)) (hl : l.length = n)
    (hp : tmps.getD p undef = .pointer (some ⟨g, 0, none⟩)) : (results fn tmps).run P w = .ok (.agg (rowV l)) w := by
  obtain ⟨t', hg⟩ := hs
  obtain ⟨e, he, _⟩ := hA.und
  exact results_cell_row hr tmps w g t' (rowV l) (0, 0) _ hp hg he rfl (by rw [hA.size, rowV_size, hl])
end
end Go.Proofs.YtcfieofcnpalgaaGreat
end
section
namespace Go.Proofs.YtcfieofcnpalgaaGreat
open Go.RowKit
open SlotP (over)

def cpSem (ts : Array TypeId) (ty : TypeId) (args : Array Value) : Sem Value := Builtin.copy_ ts ty args
theorem cp_fold (ts : Array TypeId) (ty : TypeId) (args : Array Value) : Builtin.copy_ ts ty args = cpSem ts ty args := rfl

theorem splice_map (l : List UInt8) (off : Nat) (s : List UInt8) : splice (l.map byteV) off (s.map byteV) = (over l off s).map byteV := by
  simp [splice, over]
theorem Str.cs {w : World} {b : Nat} {l : List UInt8} {t : TypeId} (h : w.heap[b]? = some (.cells ((l.map byteV).toArray) t (0, 0))) : Str w b (rowV l) := ⟨t, h⟩

section
variable {P : Program} {w : World}
theorem copy_bytes (dT sT ty e : TypeId) (hu : P.underlying dT = some (.slice e)) (hsz : (P.info? e).map (·.size) = some 1) {g off dLen dCap : Nat} {l : List UInt8} (hg : Str w g (rowV l))
    {B m c : Nat} {A : Option Addr} {src : List UInt8} (hs : Bytes w B A m c src) (hfit : off + dLen ≤ l.length) :
    ∃ w1, (cpSem #[dT, sT] ty #[.slice (some ⟨g, off, none⟩) dLen dCap, .slice A m c]).run P w = .ok (.int .i64 (Nat.min m dLen : Nat)) w1 ∧ Str w1 g (rowV (over l off (src.take dLen))) ∧ w.grownBy w1 (some g) := by
  obtain ⟨t, hg⟩ := hg
  have hl := hs.len
  have hlen : ((src.take dLen).map byteV).length = Nat.min m dLen := by
    simp only [List.length_map, List.length_take, hl]
    exact Nat.min_comm _ _
  obtain ⟨w1, hr, hh, hgr⟩ := run_copy_to (P := P) (w := w) dT sT ty e hu hsz (some ⟨g, off, none⟩) dLen dCap g off (l.map byteV) t hg A m c ((src.take dLen).map byteV) hlen
    (fun hpos => ⟨rfl, by
      obtain ⟨ad, e1, e2⟩ := hs.src (by simp at hpos ⊢; omega)
      refine ⟨ad, e1, fun j v hv => e2 j v ?_⟩
      rw [List.map_take, List.getElem?_take] at hv
      split at hv
      · exact hv
      · cases hv⟩) (by simp; omega) (byteV_one _)
  refine ⟨w1, ?_, ?_, hgr⟩
  · rw [hlen] at hr
    exact hr
  · rw [splice_map] at hh
    exact ⟨t, hh⟩
theorem copy_string (dT sT ty e : TypeId) (hu : P.underlying dT = some (.slice e)) (hsz : (P.info? e).map (·.size) = some 1) {g off dLen dCap : Nat} {l : List UInt8} (hg : Str w g (rowV l))
    (s : ByteArray) (hm : s.size ≤ dLen) (hfit : off + dLen ≤ l.length) :
    ∃ w1, (cpSem #[dT, sT] ty #[.slice (some ⟨g, off, none⟩) dLen dCap, .string s]).run P w = .ok (.int .i64 (s.size : Nat)) w1 ∧ Str w1 g (rowV (over l off s.data.toList)) ∧ w.grownBy w1 (some g) := by
  obtain ⟨t, hg⟩ := hg
  have hr := Lib.run_copy_row_string (P := P) w dT sT ty e g off dLen dCap s (rowV l) t hu hsz hg hm (by rw [rowV_size]; omega)
  have hl : s.data.toList.length = s.size := Array.length_toList
  refine ⟨_, hr, ⟨t, ?_⟩, grown_setRow w g _⟩
  have he : ((rowV l).toList.take off ++ Lib.byteCells s.data.toList ++ (rowV l).toList.drop (off + s.size)).toArray = rowV (over l off s.data.toList) := by
    have hb : Lib.byteCells s.data.toList = s.data.toList.map byteV := rfl
    rw [hb]
    simp [rowV, over, hl]
  rw [he]
  exact setRow_heap w g _ _ t _ hg
end
end Go.Proofs.YtcfieofcnpalgaaGreat
end
section
namespace Go.Proofs.YtcfieofcnpalgaaGreat
open Go.RowKit
set_option linter.unusedVariables false

/-- cells put over others -/
def overV (l : List Value) (off : Nat) (s : List Value) : List Value := l.take off ++ (s ++ l.drop (off + s.length))
theorem overV_length (l : List Value) (off : Nat) (s : List Value) (h : off + s.length ≤ l.length) : (overV l off s).length = l.length := by
  simp [overV]; omega
theorem overV_append (p q s : List Value) (off : Nat) (h : off + s.length ≤ p.length) : overV (p ++ q) off s = overV p off s ++ q := by
  unfold overV
  rw [List.take_append_of_le_length (by omega), List.drop_append_of_le_length (by omega)]
  simp [List.append_assoc]
theorem overV_shift (p q s : List Value) (off : Nat) : overV (p ++ q) (p.length + off) s = p ++ overV q off s := by
  unfold overV
  rw [List.take_length_add_append, Nat.add_assoc, List.drop_length_add_append, List.append_assoc]
/-- a part of one element written: among all -/
theorem over_flat {size : Nat} : ∀ (vs : List (List Value)), (∀ v ∈ vs, v.length = size) → ∀ (j : Nat) (v : List Value) (i : Nat) (s : List Value), vs[j]? = some v → i + s.length ≤ size → overV vs.flatten (j * size + i) s = (vs.set j (overV v i s)).flatten
  | [], _, j, v, i, s, h, _ => by simp at h
  | v0 :: vs, hl, 0, v, i, s, h, hi => by
    simp at h; subst h
    rw [List.flatten_cons, Nat.zero_mul, Nat.zero_add, overV_append _ _ _ _ (by rw [hl v0 (by simp)]; exact hi)]
    rfl
  | v0 :: vs, hl, j + 1, v, i, s, h, hi => by
    have h0 := hl v0 (by simp)
    have := over_flat vs (fun x hx => hl x (by simp [hx])) j v i s (by simpa using h) hi
    rw [List.flatten_cons, show (j + 1) * size + i = v0.length + (j * size + i) by rw [h0, Nat.add_mul]; omega, overV_shift, this]
    rfl
theorem Rel2.all {α : Type} {E : El α} {w : World} {B : Nat} {vs : List (List Value)} {l : List α} (h : Rel2 (E.rel w B) vs l) : ∀ v ∈ vs, v.length = E.size := fun v hv => by
  obtain ⟨x, hx⟩ := h.mem hv
  exact E.len hx
theorem Rel2.one {α : Type} {E : El α} {w : World} {B : Nat} {vs : List (List Value)} {l : List α} (h : Rel2 (E.rel w B) vs l) : ∀ u ∈ vs.flatten, u.oneCell' = true := fun u hu => by
  obtain ⟨v, hv, huv⟩ := List.mem_flatten.1 hu
  obtain ⟨x, hx⟩ := h.mem hv
  exact E.one hx u huv
theorem sz_setRow (w : World) (g : Nat) (cs : Array Value) : (w.setRow g cs).heap.size = w.heap.size := by simp [World.setRow]
theorem hide_setRow (w : World) (g B : Nat) (cs : Array Value) : Sub B (hide w g) (hide (w.setRow g cs) g) := hide_sub_of fun k _ hk => setRow_other w g k cs hk
section
variable {α : Type} {E : El α} {T : TypeId} {w w' : World} {base n c : Nat} {A : Option Addr} {l : List α}
/-- what is known of a row of the call's own that is not nil -/
theorem OwnE.row (h : OwnE E T w base A n c l) (hn : 0 < c) : ∃ g cur vs, A = some ⟨g, 0, none⟩ ∧ base ≤ g ∧ w.heap[g]? = some (.cells cur T (0, 0)) ∧ n ≤ c ∧ c ≤ maxLen ∧ cur.size = c * E.size ∧ cur.toList.take (n * E.size) = vs.flatten ∧ Rel2 (E.rel (hide w g) w.heap.size) vs l ∧ vs.length = n := by
  have hl := h.len
  obtain ⟨vs, h1, h2⟩ := h
  rcases h1.2 with ⟨e, h0⟩ | ⟨g, cap, cur, e, hg, hh, hnc, hm, hc, hx⟩
  · cases e; omega
  · cases e
    exact ⟨g, cur, vs, rfl, hg, hh, hnc, hm, hc, hx, h2, h2.length.trans hl⟩
theorem OwnE.mk' {g : Nat} {cur : List Value} {vs : List (List Value)} (hg : base ≤ g) (hh : w.heap[g]? = some (.cells cur.toArray T (0, 0))) (hnc : n ≤ c) (hm : c ≤ maxLen) (hc : cur.length = c * E.size) (hx : cur.take (n * E.size) = vs.flatten) (hr : Rel2 (E.rel (hide w g) w.heap.size) vs l) (hl : l.length = n) : OwnE E T w base (some ⟨g, 0, none⟩) n c l :=
  ⟨vs, ⟨by rw [hr.flat (fun _ _ => E.len), hl], .inr ⟨g, c, cur.toArray, rfl, hg, hh, hnc, hm, by simpa using hc, by simpa using hx⟩⟩, hr⟩
/-- a part of an element is written -/
theorem OwnE.write {P : Program} (h : OwnE E T w base A n c l) {j i : Nat} {s : List Value} {x : α} (hj : j < n) (hi : i + s.length ≤ E.size) (h1 : ∀ v ∈ s, v.oneCell' = true) (hrel : ∀ g vs, A = some ⟨g, 0, none⟩ → (∀ y, l[j]? = some y → E.rel (hide w g) w.heap.size vs y) → E.rel (hide w g) w.heap.size (overV vs i s) x) :
    ∃ g w1, A = some ⟨g, 0, none⟩ ∧ base ≤ g ∧ g < w.heap.size ∧ (storeCells ⟨g, j * E.size + i, none⟩ s).run P w = .ok () w1 ∧ OwnE E T w1 base A n c (l.set j x) ∧ w.grownBy w1 (some g) ∧ w1.heap.size = w.heap.size := by
  have hlen := h.len
  have hcap := h.elemsIn.cap
  obtain ⟨g, cur, vs, rfl, hg, hh, hnc, hm, hc, hx, hr, hvl⟩ := h.row (by omega)
  have hgl := (Array.getElem?_eq_some_iff.1 hh).1
  have hjs : j * E.size + E.size ≤ n * E.size := by rw [← Nat.succ_mul]; exact Nat.mul_le_mul_right _ hj
  have hns : n * E.size ≤ c * E.size := Nat.mul_le_mul_right _ hnc
  have hrun := run_storeCells_at P g (j * E.size + i) T s 0 cur w hh (by rw [hc]; omega) h1
  simp only [Nat.add_zero] at hrun
  obtain ⟨v, hv, hvr⟩ := hr.get (List.getElem?_eq_getElem (show j < l.length by omega))
  have hov : (cur.toList.take (j * E.size + i) ++ s ++ cur.toList.drop (j * E.size + i + s.length)) = overV cur.toList (j * E.size + i) s := by simp [overV]
  rw [hov] at hrun
  have hsplit : cur.toList = vs.flatten ++ cur.toList.drop (n * E.size) := by rw [← hx, List.take_append_drop]
  have hfl : vs.flatten.length = n * E.size := by rw [hr.flat (fun _ _ => E.len), hlen]
  have hnew : overV cur.toList (j * E.size + i) s = (vs.set j (overV v i s)).flatten ++ cur.toList.drop (n * E.size) := by
    rw [← over_flat vs hr.all j v i s hv hi, ← overV_append _ _ _ _ (by rw [hfl]; omega), ← hsplit]
  have hnl : (overV cur.toList (j * E.size + i) s).length = c * E.size := by rw [overV_length _ _ _ (by simp [hc]; omega)]; simpa using hc
  refine ⟨g, _, rfl, hg, hgl, hrun, ?_, grown_setRow w g _, sz_setRow _ _ _⟩
  have hset := hr.set (hrel g v rfl (fun y hy => by
    rw [List.getElem?_eq_getElem (show j < l.length by omega)] at hy
    cases hy
    exact hvr)) j
  have hfl2 : (vs.set j (overV v i s)).flatten.length = n * E.size := by rw [hset.flat (fun _ _ => E.len), List.length_set, hlen]
  exact OwnE.mk' hg (setRow_heap w g _ _ T _ hh) hnc hm hnl (by rw [hnew, List.take_left' hfl2]) (hset.imp fun _ _ hq => by rw [sz_setRow]; exact E.sub (hide_setRow _ _ _ _) hq) (by simpa using hlen)
/-- made -/
theorem own_made {P : Program} (t : TypeId) (i : TypeInfo) (z : Value) (zs : List Value) (x : α) (ht : P.underlying t = some (.slice T)) (hi : P.info? T = some i) (hz : i.zero = some z) (hs : i.size = E.size) (hzs : z.cells = zs.toArray) (hrel : ∀ w B, E.rel w B zs x)
    (n : Nat) (hbytes : i.bytes * n ≤ 281474976710656) (h63 : n ≤ 100000) (w : World) : ∃ w1, (Instr.makeSlice t (.int .i64 (n : Int)) (.int .i64 (n : Int))).run P w = .ok (.slice (some ⟨w.heap.size, 0, none⟩) n n) w1 ∧ OwnE E T w1 w.heap.size (some ⟨w.heap.size, 0, none⟩) n n (List.replicate n x) ∧ Below w.heap.size w w1 ∧ w1.heap.size = w.heap.size + 1 := by
  have hb' : (i.bytes : Int) * (n : Int) ≤ 281474976710656 := by
    have h : ((i.bytes * n : Nat) : Int) ≤ 281474976710656 := by omega
    rwa [Int.natCast_mul] at h
  have hr := run_make (P := P) w t T i z ht hi hz .i64 .i64 n n (by omega) (Int.le_refl _) hb' (by omega)
  simp only [Int.toNat_natCast] at hr
  refine ⟨_, hr, ?_, balloc (bsame w) _, by simp⟩
  have hzl : zs.length = E.size := E.len (hrel w 0)
  have hcells : (madeCells z.cells (n * i.size)).toList = (List.replicate n zs).flatten := by
    rw [hs, hzs]
    refine List.ext_getElem? fun k => ?_
    have hsz : 0 < E.size := E.pos
    by_cases hk : k < n * E.size
    · have hq : k / E.size < n := Nat.div_lt_of_lt_mul (by have := Nat.mul_comm n E.size; omega)
      have hrm : k % E.size < zs.length := by rw [hzl]; exact Nat.mod_lt _ hsz
      have h1 := flat_at (size := E.size) (List.replicate n zs) (fun v hv => by rw [(List.mem_replicate.1 hv).2]; exact hzl) (k / E.size) zs (k % E.size) zs[k % E.size] (by simp [hq]) (List.getElem?_eq_getElem hrm)
      rw [show k / E.size * E.size + k % E.size = k from Nat.div_add_mod' k E.size] at h1
      rw [h1]
      simp only [madeCells, Array.toList_map, Array.toList_range, List.getElem?_map, List.getElem?_range hk, Option.map_some, Option.some.injEq]
      have : zs.toArray.size = E.size := by simpa using hzl
      rw [this, getElem!_pos zs.toArray (k % E.size) (by simpa using hrm)]
      simp
    · rw [List.getElem?_eq_none (by simp [madeCells]; omega), List.getElem?_eq_none]
      simp [hzl]; omega
  have hrl : Rel2 (E.rel (hide (w.alloc (.cells (madeCells z.cells (n * i.size)) T)) w.heap.size) (w.alloc (.cells (madeCells z.cells (n * i.size)) T)).heap.size) (List.replicate n zs) (List.replicate n x) := by
    clear hr hcells hb' hbytes h63
    generalize hide (w.alloc (.cells (madeCells z.cells (n * i.size)) T)) w.heap.size = u
    generalize (w.alloc (.cells (madeCells z.cells (n * i.size)) T)).heap.size = B
    induction n with
    | zero => trivial
    | succ n ih => exact ⟨hrel _ _, ih⟩
  exact OwnE.mk' (cur := (List.replicate n zs).flatten) (Nat.le_refl _) (by rw [← hcells]; simpa using heap_alloc_new w (.cells (madeCells z.cells (n * i.size)) T)) (Nat.le_refl _) (by unfold maxLen; omega) (by simp [hzl]) (by rw [List.take_of_length_le (by simp [hzl])]) hrl (by simp)
end
end Go.Proofs.YtcfieofcnpalgaaGreat
end
section
namespace Go.Proofs.YtcfieofcnpalgaaGreat
open Go.RowKit
set_option linter.unusedVariables false
theorem cutA_zero (b o c s : Nat) : cutA (some ⟨b, o, none⟩) 0 c s = some ⟨b, o, none⟩ := by
  unfold cutA
  split
  · rfl
  · simp [add_none]
theorem cutA_pos {b o k c s : Nat} (h : c ≠ k) : cutA (some ⟨b, o, none⟩) k c s = some ⟨b, o + k * s, none⟩ := by
  unfold cutA
  rw [if_neg h]
  simp [add_none]
theorem cutA_some (b o k c s : Nat) : ∃ o', cutA (some ⟨b, o, none⟩) k c s = some ⟨b, o', none⟩ := by
  by_cases h : c = k
  · exact ⟨o, by unfold cutA; rw [if_pos h]⟩
  · exact ⟨_, cutA_pos h⟩
def clSem (ts : Array TypeId) (ty : TypeId) (args : Array Value) : Sem Value := Builtin.clear_ ts ty args
theorem cl_fold (ts : Array TypeId) (ty : TypeId) (args : Array Value) : Builtin.clear_ ts ty args = clSem ts ty args := rfl
section
variable {α : Type} {E : El α} {T : TypeId} {w w' : World} {base n c : Nat} {A : Option Addr} {l : List α}
theorem OwnE.del {P : Program} (t ty : TypeId) (i : TypeInfo) (ht : P.underlying t = some (.slice T)) (hi : P.info? T = some i) (hs : i.size = E.size) (h : OwnE E T w base A n c l) (k : Nat) (hk : k < n) :
    ∃ g w1, A = some ⟨g, 0, none⟩ ∧ base ≤ g ∧ g < w.heap.size ∧ (appSem #[t, t] ty #[.slice (cutA A 0 c E.size) k c, .slice (cutA A (k + 1) c E.size) (n - (k + 1)) (c - (k + 1))]).run P w = .ok (.slice A (n - 1) c) w1 ∧ OwnE E T w1 base A (n - 1) c (l.eraseIdx k) ∧ w.grownBy w1 (some g) ∧ w1.heap.size = w.heap.size := by
  have hlen := h.len
  have hcap := h.elemsIn.cap
  obtain ⟨g, cur, vs, rfl, hg, hh, hnc, hm, hc, hx, hr, hvl⟩ := h.row (by omega)
  have hgl := (Array.getElem?_eq_some_iff.1 hh).1
  have hsz : 0 < E.size := E.pos
  have hall := hr.all
  have hnl : (vs.drop (k + 1)).flatten.length = (n - (k + 1)) * E.size := by rw [(hr.drop (k + 1)).flat (fun _ _ => E.len)]; simp [hlen]
  have hmul : k * E.size + (n - (k + 1)) * E.size = (n - 1) * E.size := by rw [← Nat.add_mul]; congr 1; omega
  have hle1 : (n - 1) * E.size ≤ c * E.size := Nat.mul_le_mul_right _ (by omega)
  have hkn : k * E.size ≤ n * E.size := Nat.mul_le_mul_right _ (by omega)
  obtain ⟨o', ho'⟩ := cutA_some g 0 (k + 1) c E.size
  have hsrc : ∀ j u, (vs.drop (k + 1)).flatten[j]? = some u → w.cell? ((⟨g, o', none⟩ : Addr).add j) = some u := by
    intro j u hu
    have hpos : 0 < (n - (k + 1)) * E.size := by rw [← hnl]; exact Nat.lt_of_le_of_lt (Nat.zero_le _) (List.getElem?_eq_some_iff.1 hu).1
    have hne : c ≠ k + 1 := by
      rintro rfl
      have : n - (k + 1) = 0 := by omega
      rw [this] at hpos; simp at hpos
    rw [cutA_pos hne] at ho'
    injection ho' with ho'
    injection ho' with _ ho' _
    rw [add_none, ← ho', Nat.zero_add]
    rw [flat_drop vs hall, List.getElem?_drop, ← hx, List.getElem?_take] at hu
    split at hu
    · simp only [World.cell?, hh]
      simpa using hu
    · cases hu
  have hrun := run_append_room (P := P) w t ty T i ht hi g k c cur hh ⟨g, o', none⟩ (n - (k + 1)) (c - (k + 1)) (vs.drop (k + 1)).flatten (by rw [hs]; exact hnl) hsrc (fun u hu => Rel2.one (hr.drop (k + 1)) u hu) (by omega) (by rw [hs, hnl, hmul, hc]; exact hle1)
  rw [hs, hnl, hmul, show k + (n - (k + 1)) = n - 1 by omega] at hrun
  refine ⟨g, _, rfl, hg, hgl, by rw [cutA_zero, ho']; exact hrun, ?_, grown_setRow w g _, sz_setRow _ _ _⟩
  have hrel : Rel2 (E.rel (hide w g) w.heap.size) (vs.eraseIdx k) (l.eraseIdx k) := by
    rw [List.eraseIdx_eq_take_drop_succ, List.eraseIdx_eq_take_drop_succ]
    exact Rel2.append (hr.drop (k + 1)) (hr.take k)
  have htk : (vs.take k).flatten = cur.toList.take (k * E.size) := by rw [flat_take vs hall, ← hx, List.take_take, Nat.min_eq_left hkn]
  have hcl : cur.toList.length = c * E.size := by simpa using hc
  refine OwnE.mk' (vs := vs.eraseIdx k) hg (setRow_heap w g _ _ T _ hh) (by omega) hm ?_ ?_ (hrel.imp fun _ _ hq => by rw [sz_setRow]; exact E.sub (hide_setRow _ _ _ _) hq) (by rw [List.length_eraseIdx_of_lt (by omega), hlen])
  · simp only [List.length_append, List.length_take, List.length_drop, hnl, hcl]
    omega
  · rw [List.eraseIdx_eq_take_drop_succ, List.flatten_append, htk, List.take_append_of_le_length (by simp only [List.length_append, List.length_take, hnl, hcl]; omega), List.take_of_length_le (by simp only [List.length_append, List.length_take, hnl, hcl]; omega)]
/-- cells behind the row's length are wiped -/
theorem OwnE.wipe {P : Program} (t ty : TypeId) (i : TypeInfo) (z : Value) (ht : P.underlying t = some (.slice T)) (hi : P.info? T = some i) (hz : i.zero = some z) (hzs : z.cells.size = E.size) (hz1 : ∀ v ∈ z.cells.toList, v.oneCell' = true) (h : OwnE E T w base A n c l) (hn : n < c) (q : Nat) (hq : q = 1) :
    ∃ g w1, A = some ⟨g, 0, none⟩ ∧ (clSem #[t] ty #[.slice (cutA A n c E.size) q (c - n)]).run P w = .ok (.tuple #[]) w1 ∧ OwnE E T w1 base A n c l ∧ w.grownBy w1 (some g) ∧ w1.heap.size = w.heap.size := by
  subst hq
  have hlen := h.len
  obtain ⟨g, cur, vs, rfl, hg, hh, hnc, hm, hc, hx, hr, hvl⟩ := h.row (by omega)
  have hsz : 0 < E.size := E.pos
  have hzc : (Builtin.zeroCells z.cells 1).toList.length = E.size := by simp [Builtin.zeroCells, hzs]
  have hzo : ∀ v ∈ (Builtin.zeroCells z.cells 1).toList, v.oneCell' = true := by
    intro v hv
    simp only [Builtin.zeroCells, Array.toList_map, List.mem_map, Array.mem_toList_iff] at hv
    obtain ⟨j, hj, rfl⟩ := hv
    have hj2 : j < 1 * z.cells.size := by simpa using hj
    rw [getElem!_pos z.cells (j % z.cells.size) (Nat.mod_lt _ (by omega))]
    exact hz1 _ (by rw [Array.mem_toList_iff]; exact Array.getElem_mem _)
  have hle : n * E.size + E.size ≤ c * E.size := by rw [← Nat.succ_mul]; exact Nat.mul_le_mul_right _ hn
  have hst := run_storeCells_at P g (n * E.size) T (Builtin.zeroCells z.cells 1).toList 0 cur w hh (by rw [hc, hzc]; omega) hzo
  simp only [Nat.add_zero] at hst
  refine ⟨g, _, rfl, ?_, ?_, grown_setRow w g (cur.toList.take (n * E.size) ++ (Builtin.zeroCells z.cells 1).toList ++ cur.toList.drop (n * E.size + (Builtin.zeroCells z.cells 1).toList.length)).toArray, sz_setRow _ _ _⟩
  · rw [cutA_pos (by omega), Nat.zero_add]
    simp [clSem, Builtin.clear_, run_underlying ht, zeroValue, typeInfo, hi, hz, hst]
  · have hcl : cur.toList.length = c * E.size := by simpa using hc
    refine OwnE.mk' (vs := vs) hg (setRow_heap w g _ _ T _ hh) hnc hm ?_ ?_ (hr.imp fun _ _ hq => by rw [sz_setRow]; exact E.sub (hide_setRow _ _ _ _) hq) hlen
    · simp only [List.length_append, List.length_take, List.length_drop, hzc, hcl]
      omega
    · rw [List.append_assoc, List.take_append_of_le_length (by simp only [List.length_take, hcl]; omega), List.take_take, Nat.min_self, hx]
end
end Go.Proofs.YtcfieofcnpalgaaGreat
end
