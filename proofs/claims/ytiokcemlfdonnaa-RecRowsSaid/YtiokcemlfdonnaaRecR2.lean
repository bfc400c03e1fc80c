/-
  Parts of the proof of RecRows.
-/
import Derived.Test.YtiokcemlfdonnaaRecR1
import Derived.Deep.Heap
import Derived.Laws.BitsAllLaws
import Derived.Test.YtiokcemlfdonnaaRecR0
import Derived.Test.YtiokcemlfdonnaaProg
import Derived.Deep.WholeRow
import Derived.Laws.StructEq
import Derived.ChangeKeysEq
import Derived.Laws.CopyOwn
import Derived.Lib.BufferWrite
import Derived.Laws.Slices
section
namespace Go.Proofs.Ytiokcemlfdonnaa
open Go.RowKit

theorem Str.set {w : World} {b : Nat} {cs : Array Value} (h : Str w b cs) (i : Nat) (v : Value) : Str (w.setCell ⟨b, i, none⟩ v) b (cs.setIfInBounds i v) := by
  obtain ⟨t, h⟩ := h
  refine ⟨t, ?_⟩
  have hl := (Array.getElem?_eq_some_iff.1 h).1
  simp [World.setCell, Array.getElem?_modify, h]
theorem Str.other {w : World} {b b' : Nat} {cs : Array Value} (h : Str w b cs) (i : Nat) (v : Value) (hne : b ≠ b') : Str (w.setCell ⟨b', i, none⟩ v) b cs := by
  obtain ⟨t, h⟩ := h
  exact ⟨t, (Deep.blk_setCell_other w ⟨b', i, none⟩ v b hne).trans h⟩
theorem own_set {w : World} {base : Nat} {e : TypeId} {size n : Nat} {v : Value} {xs : List Value} (h : w.ownsRow base e size v n xs) {b : Nat} (hb : b < base) (i : Nat) (u : Value) : (w.setCell ⟨b, i, none⟩ u).ownsRow base e size v n xs := by
  obtain ⟨h1, h2⟩ := h
  refine ⟨h1, ?_⟩
  rcases h2 with h2 | ⟨g, cap, cur, hv, hg, hh, r⟩
  · exact .inl h2
  · exact .inr ⟨g, cap, cur, hv, hg, (Deep.blk_setCell_other w ⟨b, i, none⟩ u g (by show g ≠ b; omega)).trans hh, r⟩
theorem Bytes.own {w : World} {A : Option Addr} {n c base k : Nat} {l : List UInt8} {e : TypeId} (h : w.ownsRow base e 1 (.slice A n c) k (l.map byteV)) : Bytes w w.heap.size A n c l := by
  obtain ⟨A', n', c', e', h'⟩ := Bytes.of_own h
  cases e'
  exact h'
theorem str1 {w : World} {b : Nat} {c0 : Value} (h : Str w b #[c0]) : w.cell? ⟨b, 0, none⟩ = some c0 := h.cell 0
theorem str2 {w : World} {b : Nat} {c0 c1 : Value} (h : Str w b #[c0, c1]) : w.cell? ⟨b, 0, none⟩ = some c0 ∧ w.cell? ⟨b, 1, none⟩ = some c1 := ⟨h.cell 0, h.cell 1⟩
theorem str3 {w : World} {b : Nat} {c0 c1 c2 : Value} (h : Str w b #[c0, c1, c2]) : w.cell? ⟨b, 0, none⟩ = some c0 ∧ w.cell? ⟨b, 1, none⟩ = some c1 ∧ w.cell? ⟨b, 2, none⟩ = some c2 := ⟨h.cell 0, h.cell 1, h.cell 2⟩
theorem str4 {w : World} {b : Nat} {c0 c1 c2 c3 : Value} (h : Str w b #[c0, c1, c2, c3]) : w.cell? ⟨b, 0, none⟩ = some c0 ∧ w.cell? ⟨b, 1, none⟩ = some c1 ∧ w.cell? ⟨b, 2, none⟩ = some c2 ∧ w.cell? ⟨b, 3, none⟩ = some c3 := ⟨h.cell 0, h.cell 1, h.cell 2, h.cell 3⟩
end Go.Proofs.Ytiokcemlfdonnaa
end
section
namespace Go.Proofs.Ytiokcemlfdonnaa.BeP

/-- a number of 64 bits, as a natural number -/
def u64 (m : Int) : Nat := (m % 18446744073709551616).toNat
/-- byte k of the lowest width bytes of m -/
def part (width : Nat) (m : Int) (k : Nat) : UInt8 := UInt8.ofNat (u64 m / 2 ^ (8 * (width - 1 - k)))
/-- the lowest width bytes of m, the greatest one ahead -/
def parts (width : Nat) (m : Int) : List UInt8 := (List.range width).map (part width m)
theorem parts_length (width : Nat) (m : Int) : (parts width m).length = width := by simp [parts]
theorem parts_take (width : Nat) (m : Int) (k : Nat) (h : k < width) : (parts width m).take (k + 1) = (parts width m).take k ++ [part width m k] := by
  have hl : k < (parts width m).length := by rw [parts_length]; exact h
  rw [List.take_succ_eq_append_getElem hl]
  simp [parts]
theorem parts_all (width : Nat) (m : Int) (k : Nat) (h : ¬ k < width) : (parts width m).take k = parts width m := List.take_of_length_le (by rw [parts_length]; omega)
theorem u64_wrap (m : Int) : IntKind.u64.wrap m = (u64 m : Int) := by
  simp only [IntKind.wrap, IntKind.bits, IntKind.signed, u64]
  simp
  omega
/-- as the walk spells it -/
theorem part_walk (width : Nat) (m : Int) (k : Nat) (h : k < width) : IntKind.u64.wrap m / 2 ^ (8 * (width - 1) - 8 * k) % 256 = ((part width m k).toNat : Int) := by
  have e : 8 * (width - 1) - 8 * k = 8 * (width - 1 - k) := by omega
  rw [u64_wrap, e, part]
  generalize 8 * (width - 1 - k) = j
  generalize u64 m = u
  have h1 : (UInt8.ofNat (u / 2 ^ j)).toNat = u / 2 ^ j % 256 := by simp
  rw [h1]
  simp
end Go.Proofs.Ytiokcemlfdonnaa.BeP
end
section
namespace Go.Proofs.Ytiokcemlfdonnaa.CellP

/-- the empty cell -/
def none : Cell := ⟨0, [], 0, 0, 0⟩
/-- may a cell be? -/
def right (c : Cell) : Bool :=
  if c.kind = 1 then decide (c.data.length ≤ 32) && (c.lo == 0 && (c.hi == 0 && c.val == 0))
  else c.kind == 2 && (c.data.length == 0 && (decide (c.lo ≤ c.val) && decide (c.val ≤ c.hi)))
def same (a b : Cell) : Bool := a.kind == b.kind && (a.data == b.data && (a.lo == b.lo && (a.hi == b.hi && a.val == b.val)))
def code (b : Bool) : Int := if b then 0 else 1
/-- a counter with another value, and the error's number -/
def set (c : Cell) (v : Int) : Cell × Int :=
  if c.kind = 2 ∧ right c = true then (if v < c.lo ∨ c.hi < v then (none, 8) else (⟨2, [], c.lo, c.hi, v⟩, 0)) else (none, 6)
/-- the bytes of a cell that may be -/
def bytes (c : Cell) : List UInt8 :=
  if right c = true then (if c.kind = 1 then [1, UInt8.ofNat c.data.length] ++ c.data else [2] ++ (BeP.parts 8 c.lo ++ (BeP.parts 8 c.hi ++ BeP.parts 8 c.val))) else []
end Go.Proofs.Ytiokcemlfdonnaa.CellP
end
section
namespace Go.Proofs.Ytiokcemlfdonnaa.KeyP

/-- a byte that a key may have -/
def okB (c : UInt8) : Bool := decide (33 ≤ c.toNat) && decide (c.toNat ≤ 126)
def right (l : List UInt8) : Bool := l.all okB && (decide (0 < l.length) && decide (l.length ≤ 16))
/-- the error's number: 0, or 1 -/
def code (b : Bool) : Int := if b then 0 else 1
theorem all_take (s : ByteArray) (k : Nat) (h : k < s.size) : (s.data.toList.take (k + 1)).all okB = ((s.data.toList.take k).all okB && okB s[k]) := by
  rw [List.take_succ_eq_append_getElem (by simpa using h)]
  simp only [List.all_append, List.all_cons, List.all_nil, Bool.and_true]
  rfl
theorem all_of_take (s : ByteArray) (k : Nat) (h : ¬ k < s.size) (ha : (s.data.toList.take k).all okB = true) : s.data.toList.all okB = true := by
  rw [List.take_of_length_le (by simp; exact Nat.le_of_not_lt h)] at ha
  exact ha
theorem right_eq (s : ByteArray) (h1 : s.data.toList.all okB = true) (h2 : 0 < s.size) : right s.data.toList = decide ((s.size : Int) ≤ 16) := by
  have e : s.data.toList.length = s.size := by simp
  have e2 : decide ((s.size : Int) ≤ 16) = decide (s.size ≤ 16) := by rw [decide_eq_decide]; omega
  rw [e2]
  simp [right, h1, h2]
theorem right_of (s : ByteArray) (h1 : s.data.toList.all okB = true) (h2 : 0 < s.size) (h3 : s.size ≤ 16) : right s.data.toList = true := by
  have e : s.data.toList.length = s.size := by simp
  simp only [right, h1, e, Bool.true_and, Bool.and_eq_true, decide_eq_true_eq]
  exact ⟨h2, h3⟩
theorem not_right_len (s : ByteArray) (h : ¬ (0 < s.size ∧ s.size ≤ 16)) : right s.data.toList = false := by
  have e : s.data.toList.length = s.size := by simp
  unfold right
  rw [e]
  by_cases h0 : 0 < s.size <;> by_cases h1 : s.size ≤ 16 <;> simp_all
theorem not_right_at (s : ByteArray) (k : Nat) (h : k < s.size) (hc : okB s[k] = false) : right s.data.toList = false := by
  have hm : s[k] ∈ s.data.toList := by
    have : s[k] = s.data.toList[k]'(by simpa using h) := rfl
    rw [this]
    exact List.getElem_mem _
  have : s.data.toList.all okB = false := by
    rw [List.all_eq_false]
    exact ⟨_, hm, by simp [hc]⟩
  simp [right, this]
theorem okB_true (c : UInt8) (h1 : 33 ≤ c.toNat) (h2 : c.toNat ≤ 126) : okB c = true := by simp [okB, h1, h2]
theorem okB_lo (c : UInt8) (h1 : c.toNat < 33) : okB c = false := by
  have : ¬ 33 ≤ c.toNat := by omega
  simp [okB, this]
theorem okB_hi (c : UInt8) (h1 : 126 < c.toNat) : okB c = false := by
  have : ¬ c.toNat ≤ 126 := by omega
  simp [okB, this]
theorem code_true : code true = 0 := rfl
theorem code_false : code false = 1 := rfl
end Go.Proofs.Ytiokcemlfdonnaa.KeyP
end
section
namespace Go.Proofs.Ytiokcemlfdonnaa.SlotP

/-- the empty slot -/
def none : Item := ⟨0, ByteArray.empty, CellP.none⟩
def same (x y : Item) : Bool := x.state == y.state && (x.key.toList == y.key.toList && CellP.same x.cell y.cell)
/-- may an item be? -/
def right (x : Item) : Bool := if x.state = 0 then same x none else ((x.state == 1 || x.state == 2) && (KeyP.right x.key.data.toList && CellP.right x.cell))
/-- what a slot begins with -/
def body (x : Item) : List UInt8 := [UInt8.ofNat x.state.toNat, UInt8.ofNat x.key.size] ++ (x.key.data.toList ++ CellP.bytes x.cell)
def zeros (n : Nat) : List UInt8 := List.replicate n 0
/-- the bytes of a slot -/
def bytes (x : Item) : List UInt8 := if x.state ≠ 0 ∧ right x = true then body x ++ zeros (64 - (body x).length) else zeros 64

theorem right_key (x : Item) (h0 : x.state ≠ 0) (hr : right x = true) : x.key.size ≤ 16 := by
  unfold right at hr
  rw [if_neg h0] at hr
  simp only [Bool.and_eq_true] at hr
  have := hr.2.1
  unfold KeyP.right at this
  simp at this
  exact this.2.2
theorem right_state (x : Item) (h0 : x.state ≠ 0) (hr : right x = true) : x.state = 1 ∨ x.state = 2 := by
  unfold right at hr
  rw [if_neg h0] at hr
  simp only [Bool.and_eq_true, Bool.or_eq_true, beq_iff_eq] at hr
  exact hr.1
theorem right_cell (x : Item) (h0 : x.state ≠ 0) (hr : right x = true) : CellP.right x.cell = true := by
  unfold right at hr
  rw [if_neg h0] at hr
  simp only [Bool.and_eq_true] at hr
  exact hr.2.2
theorem cell_le (c : Cell) : (CellP.bytes c).length ≤ 34 := by
  unfold CellP.bytes
  cases hr : CellP.right c
  · simp
  · by_cases hk : c.kind = 1
    · unfold CellP.right at hr
      rw [if_pos hk] at hr
      simp at hr
      simp [hk]
      omega
    · simp [hk, BeP.parts_length]
/-- bytes with others from a place on -/
def over (l : List UInt8) (off : Nat) (s : List UInt8) : List UInt8 := l.take off ++ (s ++ l.drop (off + s.length))
theorem over_append (p q s : List UInt8) (n : Nat) (h : p.length = n) : over (p ++ q) n s = p ++ (s ++ q.drop s.length) := by
  subst h
  unfold over
  rw [List.take_left, List.drop_append]
  simp
theorem zeros_drop (n m : Nat) : (zeros n).drop m = zeros (n - m) := by simp [zeros]
theorem over_length (l : List UInt8) (off : Nat) (s : List UInt8) (h : off + s.length ≤ l.length) : (over l off s).length = l.length := by
  simp [over]; omega
/-- as slot.Put lays the bytes -/
theorem put_list (x : Item) (h0 : x.state ≠ 0) (hr : right x = true) :
    over (over (((zeros 64).set 0 (UInt8.ofNat x.state.toNat)).set 1 (UInt8.ofNat x.key.size)) 2 x.key.data.toList) (2 + x.key.size) (CellP.bytes x.cell) = bytes x := by
  have hl : x.key.data.toList.length = x.key.size := Array.length_toList
  have hset : ((zeros 64).set 0 (UInt8.ofNat x.state.toNat)).set 1 (UInt8.ofNat x.key.size) = [UInt8.ofNat x.state.toNat, UInt8.ofNat x.key.size] ++ zeros 62 := rfl
  have h2 : ([UInt8.ofNat x.state.toNat, UInt8.ofNat x.key.size] ++ x.key.data.toList).length = 2 + x.key.size := by
    rw [List.length_append, hl]
    rfl
  unfold bytes
  rw [if_pos ⟨h0, hr⟩, hset, over_append _ _ _ 2 rfl, ← List.append_assoc, over_append _ _ _ _ h2, zeros_drop, zeros_drop, hl]
  unfold body
  simp only [List.append_assoc, List.length_append, hl, List.length_cons, List.length_nil]
  rw [show 62 - x.key.size - (CellP.bytes x.cell).length = 64 - (0 + 1 + 1 + (x.key.size + (CellP.bytes x.cell).length)) by omega]
theorem bytes_length (x : Item) : (bytes x).length = 64 := by
  unfold bytes
  split
  · rename_i h
    have hk := right_key x h.1 h.2
    have hc := cell_le x.cell
    have hl : x.key.data.toList.length = x.key.size := Array.length_toList
    simp only [body, zeros, List.length_append, List.length_replicate, List.length_cons, List.length_nil, hl]
    omega
  · simp [zeros]
end Go.Proofs.Ytiokcemlfdonnaa.SlotP
end
section
namespace Go.Proofs.Ytiokcemlfdonnaa.Reg
open Go.RowKit

/-- a box that was not there -/
def fresh (B : Nat) (cs : Array Value) : SP ext := ⟨fun v w => ∃ g, v = .pointer (some ⟨g, 0, none⟩) ∧ B ≤ g ∧ Str w g cs, fun _ _ _ hb ⟨g, e, h1, h2⟩ => ⟨g, e, h1, h2.next hb⟩⟩
end Go.Proofs.Ytiokcemlfdonnaa.Reg
end
section
namespace Go.Proofs.Ytiokcemlfdonnaa
open Go.RowKit

/-- bytes as cells -/
def rowV (l : List UInt8) : Array Value := (l.map byteV).toArray
theorem rowV_size (l : List UInt8) : (rowV l).size = l.length := by simp [rowV]
theorem rowV_get (l : List UInt8) (i : Nat) : (rowV l)[i]? = l[i]?.map byteV := by simp [rowV]
theorem rowV_one (l : List UInt8) : (rowV l).all (·.oneCell') = true := by
  rw [Array.all_eq_true_iff_forall_mem]
  intro v hv
  exact byteV_one l v (by simpa [rowV] using hv)
theorem rowV_zeros (n : Nat) : rowV (SlotP.zeros n) = Array.replicate n (.int .u8 0) := by
  simp [rowV, SlotP.zeros, byteV]
theorem rowV_set (l : List UInt8) (i : Nat) (u : UInt8) : (rowV l).setIfInBounds i (byteV u) = rowV (l.set i u) := by
  simp [rowV, List.map_set]

def alSem (t : TypeId) : Sem Value := Instr.alloc t true (.tuple #[])
def bdSem (t : TypeId) (ps : Array (Nat × Value)) : Sem Value := Instr.build t ps
def ldSem (t : TypeId) (v : Value) : Sem Value := Instr.loadAt t v
def stSem (t : TypeId) (a v : Value) : Sem Unit := Instr.storeAt t a v
/-- a type that is so many bytes -/
structure ArrT (P : Program) (t : TypeId) (n : Nat) : Prop where
  und : ∃ e, P.underlying t = some (.array n e) ∧ P.underlying e = some (.int .u8) ∧ (P.info? e).map (·.size) = some 1
  info : (P.info? t).map (fun i => (i.zero, i.size)) = some (some (.agg (Array.replicate n (.int .u8 0))), n)
  guard : P.eqGuardType P.depth t = false
section
variable {P : Program} {t : TypeId} {n : Nat}
theorem ArrT.size (h : ArrT P t n) : (P.info? t).map (·.size) = some n := by
  have := h.info
  cases hq : P.info? t with
  | none => simp [hq] at this
  | some i =>
    simp [hq] at this
    simp [this.2]
theorem run_al (h : ArrT P t n) (w : World) : (alSem t).run P w = .ok (.pointer (some ⟨w.heap.size, 0, none⟩)) (w.alloc (.cells (rowV (SlotP.zeros n)) t)) := by
  obtain ⟨hz, _⟩ := zero_of_info h.info
  rw [rowV_zeros]
  simp [alSem, Instr.alloc, hz, newVar, newRow, Value.cells]
theorem run_bd (h : ArrT P t n) (w : World) : (bdSem t #[]).run P w = .ok (.agg (rowV (SlotP.zeros n))) w := by
  obtain ⟨hz, _⟩ := zero_of_info h.info
  obtain ⟨e, he, _, he1⟩ := h.und
  rw [rowV_zeros]
  cases hq : P.info? e with
  | none => simp [hq] at he1
  | some i => simp [bdSem, Instr.build, hz, run_underlying he, sizeOf, typeInfo, hq, Instr.fill, Value.cells]
theorem run_ld (h : ArrT P t n) {w : World} {b : Nat} {l : List UInt8} (hs : Str w b (rowV l)) (hl : l.length = n) : (ldSem t (.pointer (some ⟨b, 0, none⟩))).run P w = .ok (.agg (rowV l)) w := by
  obtain ⟨t', hg⟩ := hs
  obtain ⟨e, he, _⟩ := h.und
  simp only [ldSem, Instr.loadAt, Instr.sureAddr, Sem.run_bind, Sem.run_pure, Result.andThen_ok]
  exact run_loadVar_row w b t' t (rowV l) (0, 0) _ hg he rfl (by rw [h.size, rowV_size, hl])
theorem run_st (h : ArrT P t n) {w : World} {b : Nat} {cs : Array Value} {l : List UInt8} (hs : Str w b cs) (hc : cs.size = n) (hl : l.length = n) : (stSem t (.pointer (some ⟨b, 0, none⟩)) (.agg (rowV l))).run P w = .ok () (w.setRow b (rowV l)) := by
  obtain ⟨t', hg⟩ := hs
  simp only [stSem, Instr.storeAt, Instr.sureAddr, Sem.run_bind, Sem.run_pure, Result.andThen_ok]
  exact run_storeVar_row w b t' t cs (rowV l) hg (by rw [h.size, rowV_size, hl]) (by rw [rowV_size, hc, hl]) (rowV_one l)
theorem Str.setRow {w : World} {b : Nat} {cs cs' : Array Value} (h : Str w b cs) : Str (w.setRow b cs') b cs' := by
  obtain ⟨t', hg⟩ := h
  exact ⟨t', by simp [World.setRow, Array.getElem?_modify, hg]⟩
theorem Str.setRow_other {w : World} {b b' : Nat} {cs cs' : Array Value} (h : Str w b cs) (hne : b ≠ b') : Str (w.setRow b' cs') b cs := by
  obtain ⟨t', hg⟩ := h
  exact ⟨t', by simp [World.setRow, Array.getElem?_modify, hg, Ne.symm hne]⟩
theorem run_eqItems (e : TypeId) (d : Nat) (he : P.underlying e = some (.int .u8)) (hc : P.cellsOf e = 1) (l l' : List UInt8) (w : World) (hl : l'.length = l.length) :
    ∀ is : List Nat, (∀ j ∈ is, j < l.length) → (Op.eqItems (d + 1) e (P.cellsOf e) (rowV l) (rowV l') is).run P w = .ok (is.all fun j => l[j]? == l'[j]?) w := by
  intro is
  induction is with
  | nil => intro _; simp [Op.eqItems]
  | cons j is ih =>
    intro hj
    have hlt : j < l.length := hj j (by simp)
    have hlt' : j < l'.length := by omega
    have hag : (isAgg e).run P w = .ok false w := by simp [isAgg, run_underlying he]
    have h1 : (part e (rowV l) j).run P w = .ok (byteV l[j]) w := by simp [part, hag, rowV_get, hlt]
    have h2 : (part e (rowV l') j).run P w = .ok (byteV l'[j]) w := by simp [part, hag, rowV_get, hlt']
    have h3 : (Op.equalIn (d + 1) e (byteV l[j]) (byteV l'[j])).run P w = .ok (((l[j].toNat : Int)) == (l'[j].toNat : Int)) w := run_equalIn_int w d e .u8 .u8 _ _ he
    have h4 : ((l[j].toNat : Int) == (l'[j].toNat : Int)) = (l[j]? == l'[j]?) := by
      rw [List.getElem?_eq_getElem hlt, List.getElem?_eq_getElem hlt', Bool.eq_iff_iff]
      simp only [beq_iff_eq, Option.some.injEq]
      constructor
      · intro h; exact UInt8.toNat.inj (by omega)
      · intro h; rw [h]
    have hr := ih fun k hk => hj k (by simp [hk])
    rw [hc] at hr ⊢
    simp only [Op.eqItems, Sem.run_bind, Nat.mul_one, h1, h2, h3, Result.andThen_ok, h4, List.all_cons]
    cases hb : (l[j]? == l'[j]?) with
    | false => simp
    | true => simpa using hr
theorem all_eq (l l' : List UInt8) (hl : l'.length = l.length) : ((List.range l.length).all fun j => l[j]? == l'[j]?) = (l == l') := by
  rw [Bool.eq_iff_iff]
  simp only [List.all_eq_true, List.mem_range, beq_iff_eq]
  constructor
  · intro h
    refine List.ext_getElem? fun j => ?_
    by_cases hj : j < l.length
    · exact h j hj
    · rw [List.getElem?_eq_none (by omega), List.getElem?_eq_none (by omega)]
  · rintro rfl j _; rfl
theorem run_arr_eq (h : ArrT P t n) (l l' : List UInt8) (hl : l.length = n) (hl' : l'.length = n) (w : World) : (Op.equalIn 10000 t (.agg (rowV l)) (.agg (rowV l'))).run P w = .ok (l == l') w := by
  obtain ⟨e, hu, he, hi⟩ := h.und
  cases hq : P.info? e with
  | none => simp [hq] at hi
  | some i =>
    have hc : P.cellsOf e = 1 := by simpa [Program.cellsOf, hq] using hi
    have := run_equalIn_array w 9999 (rowV l) (rowV l') hu hq
    rw [this, run_eqItems e 9998 he hc l l' w (by omega) _ (by simp; omega), ← all_eq l l' (by omega), hl]

def slSem (t : TypeId) (x : Value) (lo hi mx : Option Value) : Sem Value := Instr.sliceAt t x lo hi mx
/-- the address of a part of an array -/
theorem run_sl (h : ArrT P t n) (b lo hi : Nat) (h1 : lo ≤ hi) (h2 : hi ≤ n) (hlt : lo < n) (w : World) :
    (slSem t (.pointer (some ⟨b, 0, none⟩)) (some (.int .i64 (lo : Int))) (some (.int .i64 (hi : Int))) none).run P w = .ok (.slice (some ⟨b, lo, none⟩) (hi - lo) (n - lo)) w := by
  obtain ⟨e, hu, _, hi1⟩ := h.und
  cases hq : P.info? e with
  | none => simp [hq] at hi1
  | some i =>
    have hs : i.size = 1 := by simpa [hq] using hi1
    have a1 : (0 : Int) ≤ (hi : Int) ∧ (hi : Int) ≤ (n : Int) := by omega
    have a2 : (0 : Int) ≤ (lo : Int) ∧ (lo : Int) ≤ (hi : Int) := by omega
    simp [slSem, Instr.sliceAt, run_underlying hu, Instr.sureAddr, Instr.sliceBounds, Instr.sliceBound, asIntOf, a1, a2, sizeOf, typeInfo, hq, hs, add_none, h1, h2]
    omega
theorem run_sl_from (h : ArrT P t n) (b lo : Nat) (hlt : lo < n) (w : World) :
    (slSem t (.pointer (some ⟨b, 0, none⟩)) (some (.int .i64 (lo : Int))) none none).run P w = .ok (.slice (some ⟨b, lo, none⟩) (n - lo) (n - lo)) w := by
  obtain ⟨e, hu, _, hi1⟩ := h.und
  cases hq : P.info? e with
  | none => simp [hq] at hi1
  | some i =>
    have hs : i.size = 1 := by simpa [hq] using hi1
    simp [slSem, Instr.sliceAt, run_underlying hu, Instr.sureAddr, Instr.sliceBounds, Instr.sliceBound, asIntOf, sizeOf, typeInfo, hq, hs, add_none, (by omega : lo ≤ n)]
    omega
theorem run_sl_all (h : ArrT P t n) (b : Nat) (w : World) :
    (slSem t (.pointer (some ⟨b, 0, none⟩)) none none none).run P w = .ok (.slice (some ⟨b, 0, none⟩) n n) w := by
  obtain ⟨e, hu, _, hi1⟩ := h.und
  cases hq : P.info? e with
  | none => simp [hq] at hi1
  | some i =>
    simp [slSem, Instr.sliceAt, run_underlying hu, Instr.sureAddr, Instr.sliceBounds, sizeOf, typeInfo, hq, add_none]
/-- a part of a row reads as bytes -/
theorem Str.part {w : World} {b : Nat} {l : List UInt8} (h : Str w b (rowV l)) (lo m c : Nat) (h1 : lo + m ≤ l.length) (h2 : m ≤ c) (h3 : c ≤ maxLen) : Bytes w w.heap.size (some ⟨b, lo, none⟩) m c ((l.drop lo).take m) := by
  refine ⟨by simp; omega, h2, h3, fun _ => ⟨b, lo, rfl, h.lt, fun j u hu => ?_⟩⟩
  rw [h.cell, rowV_get]
  rw [List.getElem?_take] at hu
  split at hu
  · rw [List.getElem?_drop] at hu
    rw [hu]
    rfl
  · cases hu
theorem Str.grown {w w1 : World} {b g : Nat} {cs : Array Value} (h : Str w b cs) (hg : w.grownBy w1 (some g)) (hne : b ≠ g) : Str w1 b cs := by
  have hl := h.lt
  obtain ⟨t', h⟩ := h
  exact ⟨t', (hg.block b hl (by intro e; exact hne (by injection e))).trans h⟩
theorem below_grown {g : Nat} {a w w1 : World} (h : Below a.heap.size a w) (hg : w.grownBy w1 (some g)) (hB : a.heap.size ≤ g) : Below a.heap.size a w1 :=
  ⟨hg.os.trans h.os, hg.tape.trans h.tape, hg.output.trans h.output, Nat.le_trans h.size hg.size, fun i hi => (hg.block i (Nat.lt_of_lt_of_le hi h.size) (by intro e; injection e with e; omega)).trans (h.block i hi)⟩
theorem results_arr {fn : Func} {p : Tmp} (hA : ArrT P t n) (hr : fn.results = #[.cell p t]) (tmps : Array Value) {w : World} {g : Nat} {l : List UInt8} (hs : Str w g (rowV l)) (hl : l.length = n)
    (hp : tmps.getD p undef = .pointer (some ⟨g, 0, none⟩)) : (results fn tmps).run P w = .ok (.agg (rowV l)) w := by
  obtain ⟨t', hg⟩ := hs
  obtain ⟨e, he, _⟩ := hA.und
  exact results_cell_row hr tmps w g t' (rowV l) (0, 0) _ hp hg he rfl (by rw [hA.size, rowV_size, hl])
end
end Go.Proofs.Ytiokcemlfdonnaa
end
section
namespace Go.Proofs.Ytiokcemlfdonnaa
open Go.RowKit
namespace Reg

/-- nothing below N turns -/
def extN (N : Nat) : Way := ⟨fun w w' => Below N w w', Below.refl N, fun _ _ _ h k => h.trans k, fun _ => ⟨rfl, rfl, rfl, Nat.le_refl _, fun _ _ => rfl⟩⟩

/-- a word on what has come up, the slots and the world -/
abbrev Word := Array Bool → Act → World → Prop
/-- what is to be shown of an operation, beside such a word -/
def OblJ {R : Way} (P : Program) (ops : Array Oper) (Q : Exit → Act → World → Prop) (T : List (SP R)) (J : Word) (a0 : Act) (W : World) (j : Nat) (o : Oper) (s : List (Tmp × Option Nat)) : Prop :=
  ∀ (listed : Array Bool) (a : Act) (w : World), R.rel W w → sights T a0 a w s → listed.size = ops.size → a.tmps.size = a0.tmps.size → listed.getD j true = false → (∀ i, waits ops j i = true → listed.getD i false = true) → J listed a w →
    (Region.wanted o (yielded ops a.tmps) = true → o.wp P a w (fun a' w' => Done T j o a w a' w' ∧ J (listed.setIfInBounds j true) a' w') Q) ∧
    (Region.wanted o (yielded ops a.tmps) = false → predAt T j undef w ∧ J (listed.setIfInBounds j true) (a.put o.dst undef) w)
def OblsJ {R : Way} (P : Program) (ops : Array Oper) (Q : Exit → Act → World → Prop) (T : List (SP R)) (J : Word) (a0 : Act) (W : World) : Nat → List Oper → List (List (Tmp × Option Nat)) → Prop
  | _, [], _ => True
  | j, o :: l, [] => OblJ P ops Q T J a0 W j o [] ∧ OblsJ P ops Q T J a0 W (j + 1) l []
  | j, o :: l, s :: L => OblJ P ops Q T J a0 W j o s ∧ OblsJ P ops Q T J a0 W (j + 1) l L

section
variable {R : Way} {P : Program} {ops : Array Oper} {Q : Exit → Act → World → Prop} {T : List (SP R)} {J : Word} {a0 a : Act} {W w : World}
theorem oblsJ_at : ∀ (l : List Oper) (k i : Nat) (o : Oper), OblsJ P ops Q T J a0 W k l (lookAll ops k l) → l[i]? = some o → OblJ P ops Q T J a0 W (k + i) o (look1 ops (k + i) o)
  | [], _, _, _, _, h => by simp at h
  | _ :: _, _, 0, _, hO, h => by
    simp at h
    subst h
    exact hO.1
  | _ :: l, k, i + 1, o, hO, h => by
    have := oblsJ_at l (k + 1) i o hO.2 (by simpa using h)
    rwa [show k + 1 + i = k + (i + 1) by omega] at this

theorem wpAny_J (hf : Form ops a0.tmps.size) (hobl : OblsJ P ops Q T J a0 W 0 ops.toList (lookAll ops 0 ops.toList)) (hfin : ∀ w' listed, R.rel W w' → (∀ i, i < ops.size → listed.getD i false = true) → Fin (fun a w => J listed a w → Q .normal a w) w' (ops.toList.map (·.dst)) T a0) :
    ∀ (fuel : Nat) (listed : Array Bool) (a : Act) (w : World), listed.toList.count false = fuel → Inv ops T a0 W listed a w → J listed a w → wpAny P .any ops Q fuel listed a w := by
  have hend : ∀ (listed : Array Bool) (a : Act) (w : World), Inv ops T a0 W listed a w → J listed a w → Region.ready .any ops listed = [] → Q .normal a w := by
    intro listed a w hI hJ hr
    have hall := all_listed hf hI.lsize hr
    have h1 := fin_of (fun a w => J listed a w → Q .normal a w) a ops.toList T a0 (hfin w listed hI.ext hall) (fun i o ho => by
      have ho' : ops[i]? = some o := by simpa using ho
      exact hI.vals i o ho' (hall i (Array.getElem?_eq_some_iff.1 ho').1))
    rw [foldl_put a ops.toList a0 hI.size.symm hI.defers.symm (fun t ht => (hI.other t fun i hi => by
      obtain ⟨o, ho, hd⟩ := writer_some hi
      exact absurd hd (ht o (by rw [Array.mem_toList_iff]; exact Array.mem_of_getElem? ho))).symm)] at h1
    exact h1 hJ
  intro fuel
  induction fuel with
  | zero =>
    intro listed a w hc hI hJ
    have hr : Region.ready .any ops listed = [] := by
      rw [List.eq_nil_iff_forall_not_mem]
      intro j hj
      have h1 := (mem_ready.1 hj).1
      rw [Array.getD_eq_getD_getElem?] at h1
      cases hx : listed[j]? with
      | none => rw [hx] at h1; cases h1
      | some b =>
        rw [hx] at h1
        have h2 : b = false := h1
        subst h2
        have h3 : false ∈ listed.toList := by rw [Array.mem_toList_iff]; exact Array.mem_of_getElem? hx
        have := List.count_pos_iff.2 h3
        omega
    exact ⟨hr, hend _ _ _ hI hJ hr⟩
  | succ fuel ih =>
    intro listed a w hc hI hJ
    refine ⟨hend _ _ _ hI hJ, fun j hj => ?_⟩
    obtain ⟨hun, o, ho, hall⟩ := mem_ready.1 hj
    have hO := oblsJ_at ops.toList 0 j o hobl (by simpa using ho)
    rw [Nat.zero_add] at hO
    obtain ⟨hy, hn⟩ := hO listed a w hI.ext (sights_mk j _ fun t ht => hI.sight hf ho hun hall ht) hI.lsize hI.size hun (fun i hi => by
      obtain ⟨o', ho', e, he, hb, rfl⟩ := waits_edge hi
      rw [ho] at ho'
      cases ho'
      exact hall e he hb) hJ
    have hcnt : (listed.setIfInBounds j true).toList.count false = fuel := by
      have hjl : j < listed.size := by rw [hI.lsize]; exact (Array.getElem?_eq_some_iff.1 ho).1
      have hx : listed.toList[j]? = some false := by
        rw [Array.getD_eq_getD_getElem?, Array.getElem?_eq_getElem hjl] at hun
        have h2 : listed[j] = false := hun
        simp [hjl, h2]
      have := count_set listed.toList j hx
      rw [Array.toList_setIfInBounds]
      omega
    unfold wpOp
    rw [ho]
    dsimp only
    split
    · rename_i hw
      exact .inl (Oper.wp_mono (fun a' w' ⟨⟨v, e, hz, hp, hb⟩, hJ'⟩ => by
        subst e
        exact ih _ _ _ hcnt (hI.step hf ho hun hall hp hz hb) hJ') (hy hw))
    · rename_i hw
      have h2 := hn (by simpa using hw)
      exact ih _ _ _ hcnt (hI.step hf ho hun hall h2.1 (fun _ => rfl) (R.refl w)) h2.2

end
section
variable {N : Nat} {Z : Array Value} {X : Tmp → Array Value} {K : List (Nat × Tmp × Nat)} {listed : Array Bool} {a : Act} {w w' : World} {j : Nat}
end
/-- what an operation leaves that turns nothing that is there -/
def DoneB {R : Way} (T : List (SP R)) (j : Nat) (o : Oper) (a : Act) (w : World) (a' : Act) (w' : World) : Prop := ∃ v, a' = a.put o.dst v ∧ (o.dst = none → v = undef) ∧ predAt T j v w' ∧ Below w.heap.size w w'
section
variable {N : Nat} {Z : Array Value} {X : Tmp → Array Value} {K : List (Nat × Tmp × Nat)} {P : Program} {ops : Array Oper} {Q : Exit → Act → World → Prop} {T : List (SP (extN N))} {a0 : Act} {W : World} {j : Nat} {o : Oper} {s : List (Tmp × Option Nat)}
theorem wp_eqvB {R : Way} {T : List (SP R)} {a : Act} {w : World} {c : Value} (hd : o.dst ≠ none) (h : (execOp a.eval o).run P w = .ok (.value c) w) (hT : predAt T j c w) : o.wp P a w (DoneB T j o a w) Q := by
  unfold Oper.wp
  rw [h]
  exact ⟨c, rfl, fun h => absurd h hd, hT, bsame w⟩
theorem free {p q : Prop} {a : Act} (hg : o.guard = none) (h : p) : (Region.wanted o (yielded ops a.tmps) = true → p) ∧ (Region.wanted o (yielded ops a.tmps) = false → q) :=
  ⟨fun _ => h, fun hw => by simp [Region.wanted, hg] at hw⟩
end
end Reg
end Go.Proofs.Ytiokcemlfdonnaa
end
section
namespace Go.Proofs.Ytiokcemlfdonnaa
open Go.RowKit

/-- no byte among these -/
def notU8 (cs : Array Value) : Bool := cs.toList.all fun v => match v with | .int .u8 _ => false | _ => true
theorem grown_set {w w1 : World} {g : Nat} (h : w.grownBy w1 (some g)) (i : Nat) (v : Value) : w.grownBy (w1.setCell ⟨g, i, none⟩ v) (some g) := h.trans (Lib.grownBy_setCell w1 g i v)
theorem grown_refl (w : World) (g : Nat) : w.grownBy w (some g) := World.grownBy.refl w _
/-- bytes do not lie in a box without bytes -/
theorem Bytes.grown {w w1 : World} {B n c g : Nat} {A : Option Addr} {l : List UInt8} {cs : Array Value} (h : Bytes w B A n c l) (hB : B ≤ w.heap.size) (hs : Str w g cs) (hn : notU8 cs = true) (hg : w.grownBy w1 (some g)) : Bytes w1 B A n c l := by
  obtain ⟨h1, h2, h3, h4⟩ := h
  refine ⟨h1, h2, h3, fun hpos => ?_⟩
  obtain ⟨b, o, e, hb, hc⟩ := h4 hpos
  refine ⟨b, o, e, hb, fun j u hu => ?_⟩
  have hne : b ≠ g := by
    intro hbg
    subst hbg
    have h0 : l[0]? = some (l[0]'(by omega)) := List.getElem?_eq_getElem _
    have hx := hc 0 _ h0
    rw [hs.cell] at hx
    have hm : byteV (l[0]'(by omega)) ∈ cs.toList := by
      rw [Array.mem_toList_iff]
      exact Array.mem_of_getElem? hx
    have := List.all_eq_true.1 hn _ hm
    simp [byteV] at this
  have := hc j u hu
  rw [← this]
  exact World.cell?_of_block (a := ⟨b, o + j, none⟩) (hg.block b (by omega) (by intro e2; injection e2 with e2; exact hne e2))
end Go.Proofs.Ytiokcemlfdonnaa
end
section
namespace Go.Proofs.Ytiokcemlfdonnaa
open Go.RowKit

/-- the address of a part, under a name that the walk does not look behind -/
def cutA (a : Option Addr) (l m s : Nat) : Option Addr := if m = l then a else a.map (·.add (l * s))
theorem cut_fold (a : Option Addr) (l h m s : Nat) : sliced a l h m s = .slice (cutA a l m s) (h - l) (m - l) := rfl

theorem Bytes.cut {w : World} {B n c : Nat} {A : Option Addr} {l : List UInt8} (h : Bytes w B A n c l) (lo hi m : Nat) (h1 : lo ≤ hi) (h2 : hi ≤ n) (h3 : hi ≤ m) (h4 : m ≤ c) :
    Bytes w B (cutA A lo m 1) (hi - lo) (m - lo) ((l.drop lo).take (hi - lo)) := by
  obtain ⟨hl, hc, hm, hx⟩ := h
  refine ⟨by simp; omega, by omega, by omega, fun hn => ?_⟩
  obtain ⟨b, o, rfl, hb, hcell⟩ := hx (by omega)
  unfold cutA
  rw [if_neg (by omega)]
  refine ⟨b, o + lo, by simp [add_none], hb, fun j u hu => ?_⟩
  rw [List.getElem?_take] at hu
  split at hu
  · rw [List.getElem?_drop] at hu
    rw [Nat.add_assoc]
    exact hcell _ u hu
  · cases hu
end Go.Proofs.Ytiokcemlfdonnaa
end
