/-
  Parts of the proof of PlanPuts.
-/
import Derived.Test.YtpklclnehlgcpaaGreatPlanP0
import Derived.Test.YtpklclnehlgcpaaGreatPlanP2
import Derived.Test.YtpklclnehlgcpaaGreatPlanP10
import Derived.Test.YtpklclnehlgcpaaGreatPlanP9
import Derived.Test.YtpklclnehlgcpaaGreatPlanP3
import Derived.Test.YtpklclnehlgcpaaGreatPlanP7
section
namespace Go.Proofs.YtpklclnehlgcpaaGreat.PlanP
set_option linter.unusedVariables false
set_option linter.unusedSimpArgs false
theorem slot_same {p : List UInt8} (hp : p.length = 512) (i : Int) (x : Item) (j : Nat) (h : (i < 0 ∨ 7 ≤ i) ∨ j < 32 + i.toNat * 64 ∨ 96 + i.toNat * 64 ≤ j) : (PageP.withSlot p i x)[j]? = p[j]? := by
  unfold PageP.withSlot
  by_cases hi : i < 0 ∨ 7 ≤ i
  · rw [if_pos hi]
  · rw [if_neg hi, DiffP.over_get (by rw [SlotP.bytes_length]; omega), SlotP.bytes_length, if_neg (by omega)]
theorem put_back {p : List UInt8} (hp : p.length = 512) (i : Int) (x : Item) : apply p (put p i x) = (PageP.withSlot p i x, 0) := by
  unfold apply put
  simp only [Bool.false_eq_true, if_false]
  refine DiffP.apply_diff hp (PageP.withSlot_length p hp i x) fun j hj => ?_
  by_cases hi : i < 0 ∨ 7 ≤ i
  · exact (slot_same hp i x j (.inl hi)).symm
  · exact (slot_same hp i x j (.inr (.inl (by omega)))).symm
theorem put_cost {p : List UInt8} (hp : p.length = 512) (i : Int) (x : Item) : (PatchP.runsB (put p i x).runs).length ≤ 68 := by
  unfold put
  dsimp only
  have hl := PageP.withSlot_length p hp i x
  by_cases hi : i < 0 ∨ 7 ≤ i
  · have := DiffP.diff_cost (a := p) hl (lo := 0) (hi := 0) (Nat.le_refl _) fun j hj hu => by
      unfold DiffP.unlike at hu
      rw [slot_same hp i x _ (.inl hi)] at hu
      simp at hu
    omega
  · have := DiffP.diff_cost (a := p) hl (lo := 32 + i.toNat * 64) (hi := 96 + i.toNat * 64) (by omega) fun j hj hu => by
      apply Classical.byContradiction
      intro hn
      unfold DiffP.unlike at hu
      rw [slot_same hp i x _ (.inr (by omega))] at hu
      simp at hu
    omega
theorem undo_none : (UndoP.bytes UndoP.none).length ≤ 90 := by decide +kernel
theorem put_small {p : List UInt8} (hp : p.length = 512) (i : Int) (x : Item) (kd tx pv nx : Int) : (RecP.bytes ⟨kd, tx, pv, nx, [put p i x], UndoP.none⟩).length ≤ 200 := by
  have h1 := put_cost hp i x
  have h2 := undo_none
  have h3 : (PatchP.bytes (put p i x)).length ≤ 73 := by
    unfold PatchP.bytes
    split
    · unfold PatchP.body
      rw [List.length_append, PatchP.head_length]
      omega
    · simp
  unfold RecP.bytes
  split
  · rw [List.length_append, BeP.parts_length, RecP.body_length]
    have h4 : (RecP.patsB [put p i x]).length = (PatchP.bytes (put p i x)).length := by simp [RecP.patsB]
    dsimp only
    omega
  · simp
theorem num2 (l : List UInt8) : In64 (NumP.val l 12 2) := CellP.val_in l 12 2 (by omega)
end Go.Proofs.YtpklclnehlgcpaaGreat.PlanP
end
section
namespace Go.Proofs.YtpklclnehlgcpaaGreat
/-- a key, and what it has -/
structure Pair where
  key : ByteArray
  cell : Cell
/-- what an operation tells -/
structure Answer where
  err : Int
  cell : Cell
namespace ModelP
abbrev lt (a b : ByteArray) : Prop := a.data.toList < b.data.toList
/-- may an operation be? -/
def good (x : OpX) : Bool :=
  decide (0 ≤ x.act ∧ x.act ≤ 5) && (KeyP.right x.key.data.toList && (if x.act = 1 then decide (x.data.length ≤ 32) else if x.act = 2 then (decide (x.lo ≤ x.n) && decide (x.n ≤ x.hi)) else (decide (x.act < 4) || decide (0 ≤ x.n))))
def code (b : Bool) : Int := if b then 0 else 1
def same (x y : OpX) : Bool := x.act == y.act && (x.key.toList == y.key.toList && (x.data == y.data && (x.lo == y.lo && (x.hi == y.hi && x.n == y.n))))
/-- how many keys lie ahead of k -/
def at_ (s : List Pair) (k : ByteArray) : Nat := match s with
  | [] => 0
  | p :: s => if p.key.data.toList < k.data.toList then at_ s k + 1 else 0
/-- what the key has -/
def find (s : List Pair) (k : ByteArray) : Option Cell := match s with
  | [] => none
  | p :: s => if p.key = k then some p.cell else find s k
/-- what an operation makes of a thing: the error, what is there then, what is told -/
def rule (t : Option Cell) (x : OpX) : Int × Option Cell × Cell :=
  if x.act = 0 then (match t with | none => (5, none, CellP.none) | some c => (0, some c, c))
  else if x.act = 1 then (if (t.getD CellP.none).kind = 2 then (6, none, CellP.none) else (0, some ⟨1, x.data, 0, 0, 0⟩, CellP.none))
  else if x.act = 2 then (match t with | some _ => (7, none, CellP.none) | none => (0, some ⟨2, [], x.lo, x.hi, x.n⟩, CellP.none))
  else if x.act = 3 then (match t with | none => (5, none, CellP.none) | some _ => (0, none, CellP.none))
  else match t with
    | none => (5, none, CellP.none)
    | some c => if c.kind ≠ 2 then (6, none, CellP.none) else
      if (if x.act = 4 then c.val + x.n else c.val - x.n) < c.lo ∨ c.hi < (if x.act = 4 then c.val + x.n else c.val - x.n) then (8, none, CellP.none)
      else (0, some ⟨2, [], c.lo, c.hi, if x.act = 4 then c.val + x.n else c.val - x.n⟩, CellP.none)
/-- a state in which a key has something, or nothing -/
def put (s : List Pair) (k : ByteArray) (c : Option Cell) : List Pair :=
  s.take (at_ s k) ++ ((match c with | some c => [⟨k, c⟩] | none => []) ++ (if (s[at_ s k]?).map (·.key) = some k then s.drop (at_ s k + 1) else s.drop (at_ s k)))
def step (s : List Pair) (x : OpX) : List Pair × Answer :=
  if good x = false then (s, ⟨1, CellP.none⟩)
  else if (rule (find s x.key) x).1 ≠ 0 then (s, ⟨(rule (find s x.key) x).1, CellP.none⟩)
  else (put s x.key (rule (find s x.key) x).2.1, ⟨0, (rule (find s x.key) x).2.2⟩)
def sameAll (s t : List Pair) : Bool := s.length == t.length && (s.zip t).all fun p => p.1.key.toList == p.2.key.toList && CellP.same p.1.cell p.2.cell
/-- rising -/
def Rises (s : List Pair) : Prop := s.Pairwise fun p q => lt p.key q.key
/-- is it a state? -/
def rightB : List Pair → Bool
  | [] => true
  | [p] => KeyP.right p.key.data.toList && CellP.right p.cell
  | p :: q :: s => KeyP.right p.key.data.toList && (CellP.right p.cell && (decide (p.key.data.toList < q.key.data.toList) && rightB (q :: s)))

theorem at_le (k : ByteArray) : ∀ s : List Pair, at_ s k ≤ s.length
  | [] => Nat.le_refl _
  | p :: s => by
    unfold at_
    split
    · have := at_le k s; simp; omega
    · omega
theorem at_lt (k : ByteArray) : ∀ (s : List Pair) (j : Nat) (p : Pair), j < at_ s k → s[j]? = some p → lt p.key k
  | [], j, p, h, _ => by simp [at_] at h
  | q :: s, 0, p, h, hp => by
    simp at hp; subst hp
    unfold at_ at h
    split at h
    · assumption
    · omega
  | q :: s, j + 1, p, h, hp => by
    unfold at_ at h
    split at h
    · exact at_lt k s j p (by omega) (by simpa using hp)
    · omega
theorem at_ge (k : ByteArray) : ∀ (s : List Pair) (p : Pair), s[at_ s k]? = some p → ¬ lt p.key k
  | [], p, hp => by simp at hp
  | q :: s, p, hp => by
    unfold at_ at hp
    split at hp
    · exact at_ge k s p (by simpa using hp)
    · rename_i h
      simp at hp; subst hp; exact h
/-- where all ahead are below and none behind is -/
theorem at_eq (k : ByteArray) : ∀ (s : List Pair) (i : Nat), i ≤ s.length → (∀ j p, j < i → s[j]? = some p → lt p.key k) → (∀ p, s[i]? = some p → ¬ lt p.key k) → at_ s k = i
  | [], i, hi, _, _ => by simp at hi; simp [at_, hi]
  | q :: s, 0, _, _, h2 => by
    have := h2 q rfl
    simp [at_]
    intro hh
    exact absurd hh this
  | q :: s, i + 1, hi, h1, h2 => by
    have hq := h1 0 q (by omega) rfl
    have := at_eq k s i (by simpa using hi) (fun j p hj hp => h1 (j + 1) p (by omega) (by simpa using hp)) (fun p hp => h2 p (by simpa using hp))
    unfold at_
    rw [if_pos hq, this]
theorem key_eq {a b : ByteArray} (h : a.data.toList = b.data.toList) : a = b := key_inj (by rw [Lib.toList_data, Lib.toList_data]; exact h)
theorem lt_irrefl (a : ByteArray) : ¬ lt a a := List.lt_irrefl _
theorem lt_trans {a b c : ByteArray} (h : lt a b) (h' : lt b c) : lt a c := List.lt_trans h h'
/-- what a key has in a state -/
theorem find_eq (k : ByteArray) : ∀ s : List Pair, Rises s → find s k = if (s[at_ s k]?).map (·.key) = some k then (s[at_ s k]?).map (·.cell) else none
  | [], _ => by simp [find, at_]
  | p :: s, h => by
    obtain ⟨hp, hs⟩ := List.pairwise_cons.1 h
    unfold find at_
    by_cases hk : p.key.data.toList < k.data.toList
    · have hne : ¬ p.key = k := by rintro rfl; exact List.lt_irrefl _ hk
      rw [if_neg hne, if_pos hk, find_eq k s hs]
      simp
    · rw [if_neg hk]
      by_cases he : p.key = k
      · simp [he]
      · rw [if_neg he]
        have : ¬ ((p :: s)[0]?).map (·.key) = some k := by simpa using he
        rw [if_neg this]
        have hge : k.data.toList < p.key.data.toList := by
          rcases List.le_iff_lt_or_eq.1 (List.not_lt.1 hk) with h1 | h1
          · exact h1
          · exact absurd (key_eq h1).symm he
        -- none further on
        have : ∀ t : List Pair, (∀ q ∈ t, lt p.key q.key) → find t k = none := by
          intro t
          induction t with
          | nil => intro _; rfl
          | cons q t ih =>
            intro hq
            have h1 := hq q (by simp)
            unfold find
            rw [if_neg (by rintro rfl; exact List.lt_irrefl _ (List.lt_trans hge h1))]
            exact ih fun r hr => hq r (by simp [hr])
        exact this s hp
end ModelP
end Go.Proofs.YtpklclnehlgcpaaGreat
end
section
namespace Go.Proofs.YtpklclnehlgcpaaGreat
open Go.RowKit
set_option linter.unusedVariables false
section
variable {bs : List Nat} {w w' : World} {A : Option Addr} {n c : Nat} {l : List UInt8}
theorem BytesH.bytes (h : BytesH bs w A n c l) : Bytes w w.heap.size A n c l := Bytes.sub h (sub_hideL _ w bs)
theorem BytesH.len (h : BytesH bs w A n c l) : l.length = n := h.bytes.len
theorem BytesH.next (h : BytesH bs w A n c l) (hb : Below w.heap.size w w') : BytesH bs w' A n c l := (Bytes.sub h (hideL_below bs hb)).more hb.size
theorem BytesH.none_ (bs : List Nat) (w : World) : BytesH bs w none 0 0 [] := Bytes.none_ _ _
theorem BytesH.grown {g : Nat} {cs : Array Value} (h : BytesH bs w A n c l) (hs : Str w g cs) (hn : notU8 cs = true) (hg : w.grownBy w' (some g)) : BytesH bs w' A n c l := by
  obtain ⟨h1, h2, h3, h4⟩ := h
  refine ⟨h1, h2, h3, fun hpos => ?_⟩
  obtain ⟨b, o, e, hb, hc⟩ := h4 hpos
  refine ⟨b, o, e, Nat.lt_of_lt_of_le hb hg.size, fun j u hu => ?_⟩
  have hx := hc j u hu
  have hnb : b ∉ bs := fun hm => by
    have h0 : (hideL w bs).cell? ⟨b, o + j, none⟩ = none := hideL_in w ⟨b, o + j, none⟩ bs hm
    rw [h0] at hx; cases hx
  have hx' := hx
  rw [hideL_out w ⟨b, o + j, none⟩ bs hnb] at hx'
  rw [hideL_out w' ⟨b, o + j, none⟩ bs hnb]
  have hne : b ≠ g := by
    rintro rfl
    rw [hs.cell] at hx'
    have hm : byteV u ∈ cs.toList := by rw [Array.mem_toList_iff]; exact Array.mem_of_getElem? hx'
    have := List.all_eq_true.1 hn _ hm
    simp [byteV] at this
  exact (World.cell?_of_block (a := ⟨b, o + j, none⟩) (hg.block b hb (by intro e2; injection e2 with e2; exact hne e2))).trans hx'
/-- more blocks, without bytes, hidden -/
theorem BytesH.app (h : BytesH bs w A n c l) (rb : List Nat) (hn : ∀ b ∈ rb, ∃ cs, Str w b cs ∧ notU8 cs = true) : BytesH (bs ++ rb) w A n c l := by
  unfold BytesH
  rw [hideL_append]
  obtain ⟨h1, h2, h3, h4⟩ := h
  refine ⟨h1, h2, h3, fun hpos => ?_⟩
  obtain ⟨b, o, e, hb, hc⟩ := h4 hpos
  refine ⟨b, o, e, hb, fun j u hu => ?_⟩
  have hx := hc j u hu
  have hnb : b ∉ bs := fun hm => by
    have h0 : (hideL w bs).cell? ⟨b, o + j, none⟩ = none := hideL_in w ⟨b, o + j, none⟩ bs hm
    rw [h0] at hx; cases hx
  rw [hideL_out w ⟨b, o + j, none⟩ bs hnb] at hx
  rw [hideL_out _ ⟨b, o + j, none⟩ bs hnb, hideL_out w ⟨b, o + j, none⟩ rb]
  · exact hx
  · intro hm
    obtain ⟨cs, hs, hn1⟩ := hn b hm
    rw [hs.cell] at hx
    have hm2 : byteV u ∈ cs.toList := by rw [Array.mem_toList_iff]; exact Array.mem_of_getElem? hx
    have := List.all_eq_true.1 hn1 _ hm2
    simp [byteV] at this
/-- bytes of the call's own -/
theorem Own.fresh {base : Nat} (h : Own w base A n c l) (hb : ∀ b ∈ bs, b < base) : BytesH bs w A n c l := by
  have hB := Own.bytes h
  obtain ⟨h1, h2, h3, h4⟩ := hB
  refine ⟨h1, h2, h3, fun hpos => ?_⟩
  obtain ⟨b, o, rfl, hbl, hc⟩ := h4 hpos
  have hge : base ≤ b := own_block h b rfl
  exact ⟨b, o, rfl, hbl, fun j u hu => (hideL_out w ⟨b, o + j, none⟩ bs (fun hm => by have := hb _ hm; simp at this; omega)).trans (hc j u hu)⟩
end
/-- the call hands back bytes that hang on none of these blocks -/
def GivesH (bs : List Nat) (w : World) (l : List UInt8) (e : Ending) (w' : World) : Prop := ∃ A n c, e = .returned (.slice A n c) ∧ BytesH bs w' A n c l ∧ Below w.heap.size w w'
/-- .. a cell -/
def GivesCellH (bs : List Nat) (w : World) (x : Cell) (e : Ending) (w' : World) : Prop := ∃ A n c, e = .returned (.agg #[.int .i64 x.kind, .slice A n c, .int .i64 x.lo, .int .i64 x.hi, .int .i64 x.val]) ∧ BytesH bs w' A n c x.data ∧ Below w.heap.size w w'
/-- a thing's cells: what is there, or nothing -/
def thingV (A : Option Addr) (n c : Nat) : Option Cell → Array Value
  | some x => #[.int .i64 x.kind, .slice A n c, .int .i64 x.lo, .int .i64 x.hi, .int .i64 x.val, .bool true]
  | none => #[.int .i64 0, .slice none 0 0, .int .i64 0, .int .i64 0, .int .i64 0, .bool false]
def ansV (A : Option Addr) (n c : Nat) (a : Answer) : Array Value := #[.int .i64 a.err, .int .i64 a.cell.kind, .slice A n c, .int .i64 a.cell.lo, .int .i64 a.cell.hi, .int .i64 a.cell.val]
/-- the call hands back a thing and an answer -/
def GivesRule (bs : List Nat) (w : World) (r : Int × Option Cell × Cell) (e : Ending) (w' : World) : Prop := ∃ A n c A2 n2 c2, e = .returned (.tuple #[.agg (thingV A n c r.2.1), .agg (ansV A2 n2 c2 ⟨r.1, r.2.2⟩)]) ∧ BytesH bs w' A n c (r.2.1.elim [] (·.data)) ∧ BytesH bs w' A2 n2 c2 r.2.2.data ∧ Below w.heap.size w w'
end Go.Proofs.YtpklclnehlgcpaaGreat
namespace Go.Proofs.YtpklclnehlgcpaaGreat.ModelW
open Go.RowKit
set_option linter.unusedVariables false
section
attribute [local go_sem ↓] app_fold
set_option maxHeartbeats 400000 in
theorem copyData_any (bs : List Nat) (A : Option Addr) (n c B : Nat) (l : List UInt8) (w : World) (hbs : ∀ b ∈ bs, b < w.heap.size) (h : Bytes w B A n c l) (hB : B ≤ w.heap.size) (hn : n ≤ 100000) :
    Calls Tryz.prog 78 #[.slice A n c] w (GivesH bs w l) := by
  obtain ⟨A3, c3, w3, happ3, hO3, hb3⟩ := (Own.none_ w w.heap.size).app h (by omega) (Nat.le_refl _)
  simp only [Nat.zero_add, List.nil_append] at happ3 hO3
  have HO := Lib.hid (hO3.fresh hbs)
  have HB := Lib.hid hb3
  clear h hO3 hb3
  go_enter Tryz.func78, Tryz.ntmps78
  go_wp2
  go_ret
  exact ⟨A3, n, c3, rfl, HO.out, HB.out⟩
end
set_option maxRecDepth 100000 in
set_option maxHeartbeats 400000 in
theorem copyCell_any (bs : List Nat) (A : Option Addr) (n c B : Nat) (kd : Int) (data : List UInt8) (lo hi va : Int) (w : World) (hbs : ∀ b ∈ bs, b < w.heap.size) (h : Bytes w B A n c data) (hB : B ≤ w.heap.size) (hn : n ≤ 100000) :
    Calls Tryz.prog 61 #[.agg #[.int .i64 kd, .slice A n c, .int .i64 lo, .int .i64 hi, .int .i64 va]] w (GivesCellH bs w ⟨kd, data, lo, hi, va⟩) := by
  have H := Lib.hid h
  clear h
  go_enter Tryz.func61, Tryz.ntmps61
  go_wp2_with fail
  generalize hW0 : ((w).alloc (.cells #[.int .i64 kd, .slice A n c, .int .i64 lo, .int .i64 hi, .int .i64 va] 25)).alloc (.cells #[.int .i64 0, .slice none 0 0, .int .i64 0, .int .i64 0, .int .i64 0] 25) = W0
  obtain ⟨HS0_0, HS1_0, HB_0, hw_0, hz0⟩ := new2 hW0
  clear hW0 hz0
  have f0_0 := str5 HS0_0.out
  have hl0_0 := HS0_0.out.lt
  have hf0_0 := fun j => HS0_0.out.frozen j
  have f1_0 := str5 HS1_0.out
  have hl1_0 := HS1_0.out.lt
  have hf1_0 := fun j => HS1_0.out.frozen j
  refine (copyData_any bs A n c B data _ (fun b hb => by have := hbs b hb; omega) (H.out.below (HB_0.out.mono hB)) (by omega) hn).mono ?_
  rintro e W1 ⟨A1, n1, c1, rfl, hy1, hb1⟩
  have HS0_1 := Lib.hid (HS0_0.out.next hb1)
  have HS1_1 := Lib.hid (HS1_0.out.next hb1)
  have HB_1 := Lib.hid (bstep HB_0.out hb1)
  have hw_1 := HB_1.out.size
  have hws_1 := (hb1).size
  clear f0_0 HS0_0 hf0_0 f1_0 HS1_0 hf1_0
  clear hb1
  have f0_1 := str5 HS0_1.out
  have hl0_1 := HS0_1.out.lt
  have hf0_1 := fun j => HS0_1.out.frozen j
  have f1_1 := str5 HS1_1.out
  have hl1_1 := HS1_1.out.lt
  have hf1_1 := fun j => HS1_1.out.frozen j
  have HYx_1 := Lib.hid (hy1)
  clear hy1
  go_wp2_with fail
  generalize hW2 : (W1).setCell ⟨w.heap.size, 1, none⟩ (.slice A1 n1 c1) = W2
  have HS0_2 : Hid (Str W2 (w.heap.size) #[.int .i64 kd, .slice A1 n1 c1, .int .i64 lo, .int .i64 hi, .int .i64 va]) := Lib.hid (by rw [← hW2]; have := (HS0_1.out).set 1 (.slice A1 n1 c1); simpa using this)
  have hgr2 : W1.grownBy W2 (some (w.heap.size)) := by rw [← hW2]; exact grown_set (grown_refl W1 (w.heap.size)) 1 (_)
  have HS1_2 := Lib.hid (HS1_1.out.grown hgr2 (by omega))
  have HB_2 := Lib.hid (below_grown HB_1.out hgr2 (by omega))
  have hw_2 := HB_2.out.size
  have hws_2 := hgr2.size
  have HYx_2 := Lib.hid (BytesH.grown HYx_1.out HS0_1.out rfl hgr2)
  clear HYx_1
  clear hW2
  clear f0_1 HS0_1 hf0_1 f1_1 HS1_1 hf1_1
  clear hgr2
  have f0_2 := str5 HS0_2.out
  have hl0_2 := HS0_2.out.lt
  have hf0_2 := fun j => HS0_2.out.frozen j
  have f1_2 := str5 HS1_2.out
  have hl1_2 := HS1_2.out.lt
  have hf1_2 := fun j => HS1_2.out.frozen j
  generalize hW3 : (((((W2).setCell ⟨w.heap.size + 1, 0, none⟩ (.int .i64 kd)).setCell ⟨w.heap.size + 1, 1, none⟩ (.slice A1 n1 c1)).setCell ⟨w.heap.size + 1, 2, none⟩ (.int .i64 lo)).setCell ⟨w.heap.size + 1, 3, none⟩ (.int .i64 hi)).setCell ⟨w.heap.size + 1, 4, none⟩ (.int .i64 va) = W3
  have HS1_3 : Hid (Str W3 (w.heap.size + 1) #[.int .i64 kd, .slice A1 n1 c1, .int .i64 lo, .int .i64 hi, .int .i64 va]) := Lib.hid (by rw [← hW3]; have := (((((HS1_2.out).set 0 (.int .i64 kd)).set 1 (.slice A1 n1 c1)).set 2 (.int .i64 lo)).set 3 (.int .i64 hi)).set 4 (.int .i64 va); simpa using this)
  have hgr3 : W2.grownBy W3 (some (w.heap.size + 1)) := by rw [← hW3]; exact grown_set (grown_set (grown_set (grown_set (grown_set (grown_refl W2 (w.heap.size + 1)) 0 (_)) 1 (_)) 2 (_)) 3 (_)) 4 (_)
  have HS0_3 := Lib.hid (HS0_2.out.grown hgr3 (by omega))
  have HB_3 := Lib.hid (below_grown HB_2.out hgr3 (by omega))
  have hw_3 := HB_3.out.size
  have hws_3 := hgr3.size
  have HYx_3 := Lib.hid (BytesH.grown HYx_2.out HS1_2.out rfl hgr3)
  clear HYx_2
  clear hW3
  clear f0_2 HS0_2 hf0_2 f1_2 HS1_2 hf1_2
  clear hgr3
  have f0_3 := str5 HS0_3.out
  have hl0_3 := HS0_3.out.lt
  have hf0_3 := fun j => HS0_3.out.frozen j
  have f1_3 := str5 HS1_3.out
  have hl1_3 := HS1_3.out.lt
  have hf1_3 := fun j => HS1_3.out.frozen j
  exact bodyPost_ret (v := .agg #[.int .i64 kd, .slice A1 n1 c1, .int .i64 lo, .int .i64 hi, .int .i64 va]) (by simp [results, Tryz.results61, go_sem, *]) rfl ⟨A1, n1, c1, rfl, HYx_3.out, HB_3.out⟩
set_option maxRecDepth 100000 in
set_option maxHeartbeats 400000 in
theorem refuse_any (err : Int) (w : World) : Calls Tryz.prog 103 #[.int .i64 err] w fun e w' => e = .returned (.tuple #[.agg #[.int .i64 0, .slice none 0 0, .int .i64 0, .int .i64 0, .int .i64 0, .bool false], .agg #[.int .i64 err, .int .i64 0, .slice none 0 0, .int .i64 0, .int .i64 0, .int .i64 0]]) ∧ Below w.heap.size w w' := by
  go_enter Tryz.func103, Tryz.ntmps103
  go_wp2
  exact bodyPost_ret (v := .tuple #[.agg #[.int .i64 0, .slice none 0 0, .int .i64 0, .int .i64 0, .int .i64 0, .bool false], .agg #[.int .i64 err, .int .i64 0, .slice none 0 0, .int .i64 0, .int .i64 0, .int .i64 0]]) (by simp [results, Tryz.results103, go_sem]) rfl ⟨rfl, balloc (balloc (bsame w) _) _⟩
set_option maxRecDepth 100000 in
set_option maxHeartbeats 400000 in
theorem counter_any (lo hi va : Int) (w : World) : Calls Tryz.prog 104 #[.int .i64 lo, .int .i64 hi, .int .i64 va] w fun e w' => e = .returned (.agg #[.int .i64 2, .slice none 0 0, .int .i64 lo, .int .i64 hi, .int .i64 va, .bool true]) ∧ Below w.heap.size w w' := by
  go_enter Tryz.func104, Tryz.ntmps104
  go_wp2
  exact bodyPost_ret (v := .agg #[.int .i64 2, .slice none 0 0, .int .i64 lo, .int .i64 hi, .int .i64 va, .bool true]) (by simp [results, Tryz.results104, go_sem]) rfl ⟨rfl, balloc (bsame w) _⟩
end Go.Proofs.YtpklclnehlgcpaaGreat.ModelW
end
