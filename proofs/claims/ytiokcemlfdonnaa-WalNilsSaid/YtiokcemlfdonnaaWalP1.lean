/-
  Parts of the proof of WalNils.
-/
import Derived.Laws.BitsAllLaws
import Derived.Test.YtiokcemlfdonnaaWalP0
import Derived.Deep.RegionHeld3
import Derived.Deep.Heap
import Derived.Test.YtiokcemlfdonnaaProg
import Derived.Deep.WholeRow
import Derived.Laws.StructEq
import Derived.ChangeKeysEq
import Derived.Laws.CopyOwn
section
namespace Go.Proofs.Ytiokcemlfdonnaa.BeP

/-- a number of 64 bits, as a natural number -/
def u64 (m : Int) : Nat := (m % 18446744073709551616).toNat
/-- byte k of the lowest width bytes of m -/
def part (width : Nat) (m : Int) (k : Nat) : UInt8 := UInt8.ofNat (u64 m / 2 ^ (8 * (width - 1 - k)))
/-- the lowest width bytes of m, the greatest one ahead -/
def parts (width : Nat) (m : Int) : List UInt8 := (List.range width).map (part width m)
theorem parts_length (width : Nat) (m : Int) : (parts width m).length = width := by simp [parts]
theorem parts_take (width : Nat) (m : Int) (k : Nat) (h : k < width) : (parts width m).take (k + 1) = (parts width m).take k ++ [part width m k] := by
  have hl : k < (parts width m).length := by rw [parts_length]; exact h
  rw [List.take_succ_eq_append_getElem hl]
  simp [parts]
theorem parts_all (width : Nat) (m : Int) (k : Nat) (h : ¬ k < width) : (parts width m).take k = parts width m := List.take_of_length_le (by rw [parts_length]; omega)
theorem u64_wrap (m : Int) : IntKind.u64.wrap m = (u64 m : Int) := by
  simp only [IntKind.wrap, IntKind.bits, IntKind.signed, u64]
  simp
  omega
/-- as the walk spells it -/
theorem part_walk (width : Nat) (m : Int) (k : Nat) (h : k < width) : IntKind.u64.wrap m / 2 ^ (8 * (width - 1) - 8 * k) % 256 = ((part width m k).toNat : Int) := by
  have e : 8 * (width - 1) - 8 * k = 8 * (width - 1 - k) := by omega
  rw [u64_wrap, e, part]
  generalize 8 * (width - 1 - k) = j
  generalize u64 m = u
  have h1 : (UInt8.ofNat (u / 2 ^ j)).toNat = u / 2 ^ j % 256 := by simp
  rw [h1]
  simp
end Go.Proofs.Ytiokcemlfdonnaa.BeP
end
section
namespace Go.Proofs.Ytiokcemlfdonnaa.NumP

def nstep (n : Nat) (c : UInt8) : Nat := n * 256 + c.toNat
/-- the number of bytes -/
def num (l : List UInt8) : Nat := l.foldl nstep 0
/-- a number of 64 bits without a sign, as one with a sign -/
def toI (u : Nat) : Int := if u < 9223372036854775808 then (u : Int) else (u : Int) - 18446744073709551616
/-- are there width bytes from at on? -/
def there (l : List UInt8) (at_ width : Nat) : Bool := decide (at_ + width ≤ l.length)
/-- their number, or 0 -/
def val (l : List UInt8) (at_ width : Nat) : Int := if at_ + width ≤ l.length then toI (num ((l.drop at_).take width)) else 0

theorem num_snoc (l : List UInt8) (c : UInt8) : num (l ++ [c]) = num l * 256 + c.toNat := by simp [num, nstep]
theorem fold_lt (l : List UInt8) (n : Nat) : l.foldl nstep n < (n + 1) * 256 ^ l.length := by
  induction l generalizing n with
  | nil => simp
  | cons c l ih =>
    have h1 := ih (nstep n c)
    have hc := c.toNat_lt
    have h2 : (nstep n c + 1) * 256 ^ l.length ≤ ((n + 1) * 256) * 256 ^ l.length := Nat.mul_le_mul_right _ (by unfold nstep; omega)
    have h3 : (n + 1) * 256 ^ (l.length + 1) = ((n + 1) * 256) * 256 ^ l.length := by rw [Nat.pow_succ, Nat.mul_assoc, Nat.mul_comm (256 ^ l.length)]
    show l.foldl nstep (nstep n c) < (n + 1) * 256 ^ (l.length + 1)
    rw [h3]
    omega
theorem num_lt (l : List UInt8) : num l < 256 ^ l.length := by
  have := fold_lt l 0
  simpa [num] using this
theorem num_lt8 (l : List UInt8) (h : l.length ≤ 8) : num l < 18446744073709551616 := by
  have h1 := num_lt l
  have h2 : 256 ^ l.length ≤ 256 ^ 8 := Nat.pow_le_pow_right (by decide) h
  have h3 : (256 : Nat) ^ 8 = 18446744073709551616 := by decide
  omega
theorem num_lt7 (l : List UInt8) (h : l.length ≤ 7) : num l < 72057594037927936 := by
  have h1 := num_lt l
  have h2 : 256 ^ l.length ≤ 256 ^ 7 := Nat.pow_le_pow_right (by decide) h
  have h3 : (256 : Nat) ^ 7 = 72057594037927936 := by decide
  omega
theorem toI_in (u : Nat) (h : u < 18446744073709551616) : In64 (toI u) := by
  unfold toI In64
  split <;> omega
theorem toI_small (u : Nat) (h : u < 9223372036854775808) : toI u = (u : Int) := by simp [toI, h]
theorem toI_u64 (m : Int) (h : In64 m) : toI (BeP.u64 m) = m := by
  unfold In64 at h
  unfold toI BeP.u64
  split <;> omega
theorem u64_lt (m : Int) : BeP.u64 m < 18446744073709551616 := by unfold BeP.u64; omega

theorem part_toNat (width : Nat) (m : Int) (k : Nat) : (BeP.part width m k).toNat = BeP.u64 m / 256 ^ (width - 1 - k) % 256 := by
  unfold BeP.part
  have : (2 : Nat) ^ (8 * (width - 1 - k)) = 256 ^ (width - 1 - k) := by rw [Nat.pow_mul]
  rw [this]
  simp
theorem num_parts_take (width : Nat) (m : Int) (k : Nat) (h : k ≤ width) : num ((BeP.parts width m).take k) = BeP.u64 m / 256 ^ (width - k) % 256 ^ k := by
  induction k with
  | zero => simp [num, Nat.mod_one]
  | succ k ih =>
    rw [BeP.parts_take width m k (by omega), num_snoc, ih (by omega), part_toNat]
    generalize BeP.u64 m = u
    have e1 : width - k = (width - 1 - k) + 1 := by omega
    have e2 : width - (k + 1) = width - 1 - k := by omega
    rw [e1, e2, Nat.pow_succ 256 (width - 1 - k), ← Nat.div_div_eq_div_mul]
    generalize u / 256 ^ (width - 1 - k) = q
    rw [Nat.pow_succ, Nat.mul_comm (256 ^ k) 256, Nat.mod_mul]
    omega
theorem num_parts (width : Nat) (m : Int) : num (BeP.parts width m) = BeP.u64 m % 256 ^ width := by
  have := num_parts_take width m width (Nat.le_refl _)
  rw [List.take_of_length_le (by rw [BeP.parts_length]; exact Nat.le_refl _)] at this
  simpa using this
theorem num_parts8 (m : Int) : num (BeP.parts 8 m) = BeP.u64 m := by
  rw [num_parts]
  exact Nat.mod_eq_of_lt (u64_lt m)
theorem val_parts8 (pre post : List UInt8) (m : Int) (h : In64 m) : val (pre ++ (BeP.parts 8 m ++ post)) pre.length 8 = m := by
  unfold val
  have hl := BeP.parts_length 8 m
  rw [if_pos (by simp [hl]), List.drop_left, List.take_append_of_le_length (by omega), List.take_of_length_le (by omega), num_parts8, toI_u64 m h]
theorem val_one (pre post : List UInt8) (c : UInt8) : val (pre ++ c :: post) pre.length 1 = (c.toNat : Int) := by
  unfold val
  rw [if_pos (by simp), List.drop_left]
  have := c.toNat_lt
  simp [num, nstep, toI]
  omega
end Go.Proofs.Ytiokcemlfdonnaa.NumP
end
section
namespace Go.Proofs.Ytiokcemlfdonnaa
set_option linter.unusedVariables false
/-- a run: its place, its bytes -/
structure RunX where
  at_ : Int
  data : List UInt8
/-- a patch -/
structure PatchX where
  page : Int
  fresh : Bool
  runs : List RunX
namespace PatchP
def stop (r : RunX) : Int := r.at_ + (r.data.length : Nat)
def Within (r : RunX) : Prop := 0 < r.data.length ∧ 12 ≤ r.at_ ∧ stop r ≤ 512
/-- where the run ahead of k ends -/
def endOf (l : List RunX) : Nat → Int
  | 0 => -1
  | k + 1 => match l[k]? with
    | some q => stop q
    | none => -1
/-- the first k runs may be -/
def Okay (l : List RunX) (k : Nat) : Prop := ∀ i r, i < k → l[i]? = some r → Within r ∧ endOf l i < r.at_
def Right (x : PatchX) : Prop := 0 ≤ x.page ∧ x.page ≤ 65535 ∧ x.runs.length ≤ 500 ∧ Okay x.runs x.runs.length
noncomputable def within (r : RunX) : Bool := @decide (Within r) (Classical.propDecidable _)
noncomputable def right (x : PatchX) : Bool := @decide (Right x) (Classical.propDecidable _)
noncomputable def same (x y : PatchX) : Bool := @decide (x = y) (Classical.propDecidable _)
noncomputable def sameRuns (x y : List RunX) : Bool := @decide (x = y) (Classical.propDecidable _)
theorem within_iff (r : RunX) : within r = true ↔ Within r := by unfold within; simp
theorem right_iff (x : PatchX) : right x = true ↔ Right x := by unfold right; simp
theorem right_no (x : PatchX) (h : ¬ Right x) : right x = false := by unfold right; simpa using h
theorem right_yes (x : PatchX) (h : Right x) : right x = true := (right_iff x).2 h
theorem within_no (r : RunX) (h : ¬ Within r) : within r = false := by unfold within; simpa using h
theorem within_yes (r : RunX) (h : Within r) : within r = true := (within_iff r).2 h
theorem okay_zero (l : List RunX) : Okay l 0 := fun i r hi => absurd hi (Nat.not_lt_zero _)
theorem endOf_succ (l : List RunX) (k : Nat) (r : RunX) (h : l[k]? = some r) : endOf l (k + 1) = stop r := by show (match l[k]? with | some q => stop q | none => -1) = _; rw [h]
theorem okay_step {l : List RunX} {k : Nat} {r : RunX} (h : Okay l k) (hr : l[k]? = some r) (hw : Within r) (he : endOf l k < r.at_) : Okay l (k + 1) := by
  intro i q hi hq
  by_cases e : i = k
  · subst e
    rw [hr] at hq; cases hq
    exact ⟨hw, he⟩
  · exact h i q (by omega) hq
theorem okay_bad {l : List RunX} {k n : Nat} {r : RunX} (hr : l[k]? = some r) (hb : ¬ (Within r ∧ endOf l k < r.at_)) (hk : k < n) : ¬ Okay l n := fun h => hb (h k r hk hr)
theorem endOf_lo {l : List RunX} {k n : Nat} (h : Okay l n) (hk : k ≤ n) : -1 ≤ endOf l k ∧ endOf l k ≤ 512 := by
  cases k with
  | zero => exact ⟨Int.le_refl _, by show (-1 : Int) ≤ 512; omega⟩
  | succ k =>
    cases hq : l[k]? with
    | some q =>
      rw [endOf_succ l k q hq]
      have := (h k q (by omega) hq).1
      unfold Within at this
      have h2 : stop q = q.at_ + (q.data.length : Nat) := rfl
      omega
    | none =>
      have : endOf l (k + 1) = -1 := by show (match l[k]? with | some q => stop q | none => -1) = _; rw [hq]
      omega
theorem bad_page (x : PatchX) (h : x.page < 0 ∨ 65535 < x.page ∨ 500 < x.runs.length) : right x = false := right_no x fun hr => by
  obtain ⟨a, b, c, -⟩ := hr
  omega
theorem bad_run (x : PatchX) {k : Nat} {r : RunX} (hr : x.runs[k]? = some r) (hb : ¬ (Within r ∧ endOf x.runs k < r.at_)) : right x = false := right_no x fun h =>
  okay_bad hr hb (List.getElem?_eq_some_iff.1 hr).1 h.2.2.2
theorem in_runs {x : PatchX} (h : Right x) {k : Nat} {r : RunX} (hr : x.runs[k]? = some r) : 12 ≤ r.at_ ∧ r.at_ ≤ 511 ∧ 1 ≤ r.data.length ∧ r.data.length ≤ 500 := by
  have := (h.2.2.2 k r (List.getElem?_eq_some_iff.1 hr).1 hr).1
  unfold Within stop at this
  omega
/-- a run's bytes -/
def runB (r : RunX) : List UInt8 := BeP.parts 2 r.at_ ++ (BeP.parts 2 (r.data.length : Nat) ++ r.data)
def runsB (l : List RunX) : List UInt8 := l.flatMap runB
def flag (b : Bool) : Int := if b then 1 else 0
def head (x : PatchX) : List UInt8 := BeP.parts 2 x.page ++ (BeP.parts 1 (flag x.fresh) ++ BeP.parts 2 (x.runs.length : Nat))
def body (x : PatchX) : List UInt8 := head x ++ runsB x.runs
noncomputable def bytes (x : PatchX) : List UInt8 := if right x then body x else []
theorem head_length (x : PatchX) : (head x).length = 5 := by simp [head, BeP.parts_length]
theorem runB_length (r : RunX) : (runB r).length = 4 + r.data.length := by simp [runB, BeP.parts_length]; omega
theorem runsB_snoc (l : List RunX) (k : Nat) (r : RunX) (h : l[k]? = some r) : runsB (l.take (k + 1)) = runsB (l.take k) ++ runB r := by
  obtain ⟨hk, e⟩ := List.getElem?_eq_some_iff.1 h
  rw [List.take_succ_eq_append_getElem hk, e]
  simp [runsB]
theorem runsB_split (l : List RunX) (k : Nat) (r : RunX) (h : l[k]? = some r) : runsB l = runsB (l.take k) ++ (runB r ++ runsB (l.drop (k + 1))) := by
  obtain ⟨hk, e⟩ := List.getElem?_eq_some_iff.1 h
  have h1 : l = l.take k ++ (r :: l.drop (k + 1)) := by rw [← e, ← List.drop_eq_getElem_cons hk, List.take_append_drop]
  have h2 : runsB l = runsB (l.take k ++ (r :: l.drop (k + 1))) := by rw [← h1]
  rw [h2]
  unfold runsB
  rw [List.flatMap_append, List.flatMap_cons]
theorem runsB_le (l : List RunX) (n : Nat) (h : ∀ r ∈ l, r.data.length ≤ n) : (runsB l).length ≤ l.length * (4 + n) := by
  induction l with
  | nil => simp [runsB]
  | cons r l ih =>
    have h1 := ih (fun q hq => h q (List.mem_cons_of_mem _ hq))
    have h2 := h r (List.mem_cons_self ..)
    have : runsB (r :: l) = runB r ++ runsB l := by simp [runsB]
    rw [this, List.length_append, runB_length, List.length_cons, Nat.add_mul]
    omega
theorem runs_le {x : PatchX} (h : Right x) (k : Nat) : (runsB (x.runs.take k)).length ≤ 252000 := by
  have h1 := runsB_le (x.runs.take k) 500 (fun r hr => by
    obtain ⟨j, hj⟩ := List.getElem?_of_mem (List.mem_of_mem_take hr)
    exact (in_runs h hj).2.2.2)
  have h2 : (x.runs.take k).length ≤ 500 := by rw [List.length_take]; have := h.2.2.1; omega
  have h3 : (x.runs.take k).length * (4 + 500) ≤ 500 * 504 := Nat.mul_le_mul_right _ h2
  omega
theorem body_le {x : PatchX} (h : Right x) : (body x).length ≤ 252005 := by
  have := runs_le h x.runs.length
  rw [List.take_of_length_le (Nat.le_refl _)] at this
  unfold body
  rw [List.length_append, head_length]
  omega
/-- numbers among bytes -/
theorem val_parts2 (pre post : List UInt8) (m : Int) (h0 : 0 ≤ m) (h1 : m ≤ 65535) : NumP.val (pre ++ (BeP.parts 2 m ++ post)) pre.length 2 = m := by
  unfold NumP.val
  rw [if_pos (by simp [BeP.parts_length]), List.drop_left, List.take_append_of_le_length (by rw [BeP.parts_length]; omega), List.take_of_length_le (by rw [BeP.parts_length]; omega), NumP.num_parts]
  unfold BeP.u64
  have e : (m % 18446744073709551616).toNat % 256 ^ 2 = m.toNat := by omega
  rw [e, NumP.toI_small _ (by omega)]
  omega
theorem val_parts1 (pre post : List UInt8) (m : Int) (h0 : 0 ≤ m) (h1 : m ≤ 255) : NumP.val (pre ++ (BeP.parts 1 m ++ post)) pre.length 1 = m := by
  unfold NumP.val
  rw [if_pos (by simp [BeP.parts_length]), List.drop_left, List.take_append_of_le_length (by rw [BeP.parts_length]; omega), List.take_of_length_le (by rw [BeP.parts_length]; omega), NumP.num_parts]
  unfold BeP.u64
  have e : (m % 18446744073709551616).toNat % 256 ^ 1 = m.toNat := by omega
  rw [e, NumP.toI_small _ (by omega)]
  omega
theorem flag_in (b : Bool) : 0 ≤ flag b ∧ flag b ≤ 1 := by cases b <;> decide
/-- where the k-th run stands -/
def place (x : PatchX) (k : Nat) : Nat := 5 + (runsB (x.runs.take k)).length
theorem place_zero (x : PatchX) : place x 0 = 5 := by simp [place, runsB]
theorem place_succ (x : PatchX) (k : Nat) (r : RunX) (h : x.runs[k]? = some r) : place x (k + 1) = place x k + 4 + r.data.length := by
  unfold place
  rw [runsB_snoc _ _ _ h, List.length_append, runB_length]
  omega
theorem place_all (x : PatchX) : place x x.runs.length = (body x).length := by
  unfold place body
  rw [List.take_of_length_le (Nat.le_refl _), List.length_append, head_length]
variable {x : PatchX} {more : List UInt8} {k : Nat} {r : RunX}
theorem got_page (h : Right x) : NumP.val (body x ++ more) 0 2 = x.page := by
  have := val_parts2 [] (BeP.parts 1 (flag x.fresh) ++ BeP.parts 2 (x.runs.length : Nat) ++ runsB x.runs ++ more) x.page h.1 h.2.1
  simpa [body, head] using this
theorem got_flag (h : Right x) : NumP.val (body x ++ more) 2 1 = flag x.fresh := by
  have := val_parts1 (BeP.parts 2 x.page) (BeP.parts 2 (x.runs.length : Nat) ++ runsB x.runs ++ more) (flag x.fresh) (flag_in _).1 (by have := (flag_in x.fresh).2; omega)
  simpa [body, head, BeP.parts_length] using this
theorem got_count (h : Right x) : NumP.val (body x ++ more) 3 2 = (x.runs.length : Nat) := by
  have := val_parts2 (BeP.parts 2 x.page ++ BeP.parts 1 (flag x.fresh)) (runsB x.runs ++ more) (x.runs.length : Nat) (by omega) (by have := h.2.2.1; omega)
  simpa [body, head, BeP.parts_length] using this
theorem body_split (hr : x.runs[k]? = some r) : body x ++ more = (head x ++ runsB (x.runs.take k)) ++ (BeP.parts 2 r.at_ ++ (BeP.parts 2 (r.data.length : Nat) ++ (r.data ++ (runsB (x.runs.drop (k + 1)) ++ more)))) := by
  unfold body
  rw [runsB_split _ _ _ hr]
  simp [runB]
theorem place_len : (head x ++ runsB (x.runs.take k)).length = place x k := by rw [List.length_append, head_length]; rfl
theorem got_at (h : Right x) (hr : x.runs[k]? = some r) : NumP.val (body x ++ more) (place x k) 2 = r.at_ := by
  have hi := in_runs h hr
  rw [body_split hr, ← place_len]
  exact val_parts2 _ _ r.at_ (by omega) (by omega)
theorem got_len (h : Right x) (hr : x.runs[k]? = some r) : NumP.val (body x ++ more) (place x k + 2) 2 = (r.data.length : Nat) := by
  have hi := in_runs h hr
  rw [body_split hr, ← place_len]
  have := val_parts2 ((head x ++ runsB (x.runs.take k)) ++ BeP.parts 2 r.at_) (r.data ++ (runsB (x.runs.drop (k + 1)) ++ more)) (r.data.length : Nat) (by omega) (by omega)
  rw [List.length_append, BeP.parts_length] at this
  simpa using this
theorem got_data (hr : x.runs[k]? = some r) : ((body x ++ more).drop (place x k + 4)).take r.data.length = r.data := by
  have e : body x ++ more = ((head x ++ runsB (x.runs.take k)) ++ (BeP.parts 2 r.at_ ++ BeP.parts 2 (r.data.length : Nat))) ++ (r.data ++ (runsB (x.runs.drop (k + 1)) ++ more)) := by rw [body_split hr]; simp
  have hl : ((head x ++ runsB (x.runs.take k)) ++ (BeP.parts 2 r.at_ ++ BeP.parts 2 (r.data.length : Nat))).length = place x k + 4 := by rw [List.length_append, place_len]; simp [BeP.parts_length]
  rw [e, List.drop_left' hl, List.take_left' rfl]
theorem place_fits (hr : x.runs[k]? = some r) : place x k + 4 + r.data.length ≤ (body x).length := by
  have := congrArg List.length (body_split (more := []) hr)
  rw [List.append_nil, List.length_append, place_len] at this
  simp [BeP.parts_length] at this
  omega
end PatchP
end Go.Proofs.Ytiokcemlfdonnaa
end
section
namespace Go.Proofs.Ytiokcemlfdonnaa
open Go.RowKit

section
variable {W w' w1 : World}
theorem Bytes.held {A : Option Addr} {n c : Nat} {l : List UInt8} (h : Bytes W W.heap.size A n c l) (hs : (∀ b o, b < W.heap.size → w'.cell? ⟨b, o, none⟩ = W.cell? ⟨b, o, none⟩) ∧ Below W.heap.size W w') : Bytes w' W.heap.size A n c l := h.below hs.2
end

/-- block b is just these cells -/
def Str (w : World) (b : Nat) (cs : Array Value) : Prop := ∃ t, w.heap[b]? = some (.cells cs t (0, 0))
section
variable {w w' : World} {b : Nat} {cs : Array Value}
theorem Str.lt (h : Str w b cs) : b < w.heap.size := by
  obtain ⟨t, h⟩ := h
  exact (Array.getElem?_eq_some_iff.1 h).1
theorem Str.new (w : World) (cs : Array Value) (t : TypeId) : Str (w.alloc (.cells cs t)) w.heap.size cs := ⟨t, heap_alloc_new w _⟩
theorem Str.alloc (h : Str w b cs) (o : Obj) : Str (w.alloc o) b cs := by
  have hl := h.lt
  obtain ⟨t, h⟩ := h
  exact ⟨t, (Below.heap_alloc w o b hl).trans h⟩
theorem Str.next (h : Str w b cs) (hb : Below w.heap.size w w') : Str w' b cs := by
  have hl := h.lt
  obtain ⟨t, h⟩ := h
  exact ⟨t, (hb.block b hl).trans h⟩
theorem Str.below {B : Nat} (h : Str w b cs) (hb : Below B w w') (hB : b < B) : Str w' b cs := by
  obtain ⟨t, h⟩ := h
  exact ⟨t, (hb.block b hB).trans h⟩
theorem Str.cell (h : Str w b cs) (i : Nat) : w.cell? ⟨b, i, none⟩ = cs[i]? := by
  obtain ⟨t, h⟩ := h
  exact cell_of_row w b i cs t (0, 0) h
theorem Str.frozen (h : Str w b cs) (i : Nat) : w.frozen? ⟨b, i, none⟩ = false := by
  obtain ⟨t, h⟩ := h
  simp [World.frozen?, h]
theorem Str.drewN (h : Str w b cs) (n : Nat) : Str (w.drewN n) b cs := h
theorem str5 {c0 c1 c2 c3 c4 : Value} (h : Str w b #[c0, c1, c2, c3, c4]) :
    w.cell? ⟨b, 0, none⟩ = some c0 ∧ w.cell? ⟨b, 1, none⟩ = some c1 ∧ w.cell? ⟨b, 2, none⟩ = some c2 ∧ w.cell? ⟨b, 3, none⟩ = some c3 ∧ w.cell? ⟨b, 4, none⟩ = some c4 := ⟨h.cell 0, h.cell 1, h.cell 2, h.cell 3, h.cell 4⟩
theorem str7 {c0 c1 c2 c3 c4 c5 c6 : Value} (h : Str w b #[c0, c1, c2, c3, c4, c5, c6]) :
    w.cell? ⟨b, 0, none⟩ = some c0 ∧ w.cell? ⟨b, 1, none⟩ = some c1 ∧ w.cell? ⟨b, 2, none⟩ = some c2 ∧ w.cell? ⟨b, 3, none⟩ = some c3 ∧ w.cell? ⟨b, 4, none⟩ = some c4 ∧ w.cell? ⟨b, 5, none⟩ = some c5 ∧ w.cell? ⟨b, 6, none⟩ = some c6 := ⟨h.cell 0, h.cell 1, h.cell 2, h.cell 3, h.cell 4, h.cell 5, h.cell 6⟩
end
theorem new1 {w W : World} {c0 : Array Value} {t0 : TypeId} (h : w.alloc (.cells c0 t0) = W) : Hid (Str W (w.heap.size) c0) ∧ Hid (Below w.heap.size w W) ∧ w.heap.size ≤ W.heap.size ∧ W.heap.size = w.heap.size + 1 := by
  subst h
  exact ⟨Lib.hid (by have := Str.new (w) c0 t0; simpa using this), Lib.hid (balloc (bsame w) _), (balloc (bsame w) _).size, by simp⟩
theorem new2 {w W : World} {c0 c1 : Array Value} {t0 t1 : TypeId} (h : (w.alloc (.cells c0 t0)).alloc (.cells c1 t1) = W) : Hid (Str W (w.heap.size) c0) ∧ Hid (Str W (w.heap.size + 1) c1) ∧ Hid (Below w.heap.size w W) ∧ w.heap.size ≤ W.heap.size ∧ W.heap.size = w.heap.size + 1 + 1 := by
  subst h
  exact ⟨Lib.hid (by have := (Str.new (w) c0 t0).alloc (.cells c1 t1); simpa using this), Lib.hid (by have := Str.new ((w).alloc (.cells c0 t0)) c1 t1; simpa using this), Lib.hid (balloc (balloc (bsame w) _) _), (balloc (balloc (bsame w) _) _).size, by simp⟩
end Go.Proofs.Ytiokcemlfdonnaa
end
section
namespace Go.Proofs.Ytiokcemlfdonnaa
open Go.RowKit

theorem Str.set {w : World} {b : Nat} {cs : Array Value} (h : Str w b cs) (i : Nat) (v : Value) : Str (w.setCell ⟨b, i, none⟩ v) b (cs.setIfInBounds i v) := by
  obtain ⟨t, h⟩ := h
  refine ⟨t, ?_⟩
  have hl := (Array.getElem?_eq_some_iff.1 h).1
  simp [World.setCell, Array.getElem?_modify, h]
theorem Str.other {w : World} {b b' : Nat} {cs : Array Value} (h : Str w b cs) (i : Nat) (v : Value) (hne : b ≠ b') : Str (w.setCell ⟨b', i, none⟩ v) b cs := by
  obtain ⟨t, h⟩ := h
  exact ⟨t, (Deep.blk_setCell_other w ⟨b', i, none⟩ v b hne).trans h⟩
theorem own_set {w : World} {base : Nat} {e : TypeId} {size n : Nat} {v : Value} {xs : List Value} (h : w.ownsRow base e size v n xs) {b : Nat} (hb : b < base) (i : Nat) (u : Value) : (w.setCell ⟨b, i, none⟩ u).ownsRow base e size v n xs := by
  obtain ⟨h1, h2⟩ := h
  refine ⟨h1, ?_⟩
  rcases h2 with h2 | ⟨g, cap, cur, hv, hg, hh, r⟩
  · exact .inl h2
  · exact .inr ⟨g, cap, cur, hv, hg, (Deep.blk_setCell_other w ⟨b, i, none⟩ u g (by show g ≠ b; omega)).trans hh, r⟩
theorem Bytes.own {w : World} {A : Option Addr} {n c base k : Nat} {l : List UInt8} {e : TypeId} (h : w.ownsRow base e 1 (.slice A n c) k (l.map byteV)) : Bytes w w.heap.size A n c l := by
  obtain ⟨A', n', c', e', h'⟩ := Bytes.of_own h
  cases e'
  exact h'
theorem str1 {w : World} {b : Nat} {c0 : Value} (h : Str w b #[c0]) : w.cell? ⟨b, 0, none⟩ = some c0 := h.cell 0
theorem str2 {w : World} {b : Nat} {c0 c1 : Value} (h : Str w b #[c0, c1]) : w.cell? ⟨b, 0, none⟩ = some c0 ∧ w.cell? ⟨b, 1, none⟩ = some c1 := ⟨h.cell 0, h.cell 1⟩
theorem str3 {w : World} {b : Nat} {c0 c1 c2 : Value} (h : Str w b #[c0, c1, c2]) : w.cell? ⟨b, 0, none⟩ = some c0 ∧ w.cell? ⟨b, 1, none⟩ = some c1 ∧ w.cell? ⟨b, 2, none⟩ = some c2 := ⟨h.cell 0, h.cell 1, h.cell 2⟩
theorem str4 {w : World} {b : Nat} {c0 c1 c2 c3 : Value} (h : Str w b #[c0, c1, c2, c3]) : w.cell? ⟨b, 0, none⟩ = some c0 ∧ w.cell? ⟨b, 1, none⟩ = some c1 ∧ w.cell? ⟨b, 2, none⟩ = some c2 ∧ w.cell? ⟨b, 3, none⟩ = some c3 := ⟨h.cell 0, h.cell 1, h.cell 2, h.cell 3⟩
end Go.Proofs.Ytiokcemlfdonnaa
end
section
namespace Go.Proofs.Ytiokcemlfdonnaa
open Go.RowKit
set_option linter.unusedVariables false
def runV (r : RunX) (A : Option Addr) (n c : Nat) : List Value := [.int .i64 r.at_, .slice A n c]
def RunE : El RunX where
  size := 2
  pos := by decide
  rel w B vs r := ∃ A n c, vs = runV r A n c ∧ Bytes w B A n c r.data ∧ In64 r.at_
  len := by rintro w B vs p ⟨A, n, c, rfl, _⟩; rfl
  one := by rintro w B vs p ⟨A, n, c, rfl, _⟩ v hv; simp only [runV, List.mem_cons, List.not_mem_nil, or_false] at hv; rcases hv with rfl | rfl <;> rfl
  sub := by rintro w w' B vs p hs ⟨A, n, c, e, h, r⟩; exact ⟨A, n, c, e, h.sub hs, r⟩
  more := by rintro w B B' vs p hB ⟨A, n, c, e, h, r⟩; exact ⟨A, n, c, e, h.more hB, r⟩
def patchV (x : PatchX) (A : Option Addr) (n c : Nat) : List Value := [.int .i64 x.page, .bool x.fresh, .slice A n c]
def PatchE : El PatchX where
  size := 3
  pos := by decide
  rel w B vs x := ∃ A n c, vs = patchV x A n c ∧ Elems RunE w B A n c x.runs ∧ In64 x.page
  len := by rintro w B vs p ⟨A, n, c, rfl, _⟩; rfl
  one := by rintro w B vs p ⟨A, n, c, rfl, _⟩ v hv; simp only [patchV, List.mem_cons, List.not_mem_nil, or_false] at hv; rcases hv with rfl | rfl | rfl <;> rfl
  sub := by rintro w w' B vs p hs ⟨A, n, c, e, h, r⟩; exact ⟨A, n, c, e, h.sub hs, r⟩
  more := by rintro w B B' vs p hB ⟨A, n, c, e, h, r⟩; exact ⟨A, n, c, e, h.more hB, r⟩
/-- a run in a slice: its cells -/
theorem run_at {wr w : World} {B n c k : Nat} {A : Option Addr} {l : List RunX} (h : ElemsIn RunE wr w B A n c l) (hk : k < n) : ∃ b o r A2 n2 c2, A = some ⟨b, o, none⟩ ∧ b < B ∧ l[k]? = some r ∧ Bytes wr B A2 n2 c2 r.data ∧ In64 r.at_ ∧
    w.cell? ⟨b, o + k * 2, none⟩ = some (.int .i64 r.at_) ∧ w.cell? ⟨b, o + k * 2 + 1, none⟩ = some (.slice A2 n2 c2) := by
  have hl : k < l.length := by rw [h.len]; exact hk
  obtain ⟨b, o, vs, e, hb, ⟨A2, n2, c2, rfl, hy, h1⟩, hc⟩ := h.at_ hk
  exact ⟨b, o, _, A2, n2, c2, e, hb, List.getElem?_eq_getElem hl, hy, h1, hc 0 _ rfl, hc 1 _ rfl⟩
/-- a patch in a slice: its cells -/
theorem patch_at {wr w : World} {B n c k : Nat} {A : Option Addr} {l : List PatchX} (h : ElemsIn PatchE wr w B A n c l) (hk : k < n) : ∃ b o x A2 n2 c2, A = some ⟨b, o, none⟩ ∧ b < B ∧ l[k]? = some x ∧ Elems RunE wr B A2 n2 c2 x.runs ∧ In64 x.page ∧
    w.cell? ⟨b, o + k * 3, none⟩ = some (.int .i64 x.page) ∧ w.cell? ⟨b, o + k * 3 + 1, none⟩ = some (.bool x.fresh) ∧ w.cell? ⟨b, o + k * 3 + 2, none⟩ = some (.slice A2 n2 c2) := by
  have hl : k < l.length := by rw [h.len]; exact hk
  obtain ⟨b, o, vs, e, hb, ⟨A2, n2, c2, rfl, hy, h1⟩, hc⟩ := h.at_ hk
  exact ⟨b, o, _, A2, n2, c2, e, hb, List.getElem?_eq_getElem hl, hy, h1, hc 0 _ rfl, hc 1 _ rfl, hc 2 _ rfl⟩
end Go.Proofs.Ytiokcemlfdonnaa
end
section
namespace Go.Proofs.Ytiokcemlfdonnaa.CellP

/-- the empty cell -/
def none : Cell := ⟨0, [], 0, 0, 0⟩
/-- may a cell be? -/
def right (c : Cell) : Bool :=
  if c.kind = 1 then decide (c.data.length ≤ 32) && (c.lo == 0 && (c.hi == 0 && c.val == 0))
  else c.kind == 2 && (c.data.length == 0 && (decide (c.lo ≤ c.val) && decide (c.val ≤ c.hi)))
def same (a b : Cell) : Bool := a.kind == b.kind && (a.data == b.data && (a.lo == b.lo && (a.hi == b.hi && a.val == b.val)))
def code (b : Bool) : Int := if b then 0 else 1
/-- a counter with another value, and the error's number -/
def set (c : Cell) (v : Int) : Cell × Int :=
  if c.kind = 2 ∧ right c = true then (if v < c.lo ∨ c.hi < v then (none, 8) else (⟨2, [], c.lo, c.hi, v⟩, 0)) else (none, 6)
/-- the bytes of a cell that may be -/
def bytes (c : Cell) : List UInt8 :=
  if right c = true then (if c.kind = 1 then [1, UInt8.ofNat c.data.length] ++ c.data else [2] ++ (BeP.parts 8 c.lo ++ (BeP.parts 8 c.hi ++ BeP.parts 8 c.val))) else []
end Go.Proofs.Ytiokcemlfdonnaa.CellP
end
section
namespace Go.Proofs.Ytiokcemlfdonnaa.KeyP

/-- a byte that a key may have -/
def okB (c : UInt8) : Bool := decide (33 ≤ c.toNat) && decide (c.toNat ≤ 126)
def right (l : List UInt8) : Bool := l.all okB && (decide (0 < l.length) && decide (l.length ≤ 16))
/-- the error's number: 0, or 1 -/
def code (b : Bool) : Int := if b then 0 else 1
theorem all_take (s : ByteArray) (k : Nat) (h : k < s.size) : (s.data.toList.take (k + 1)).all okB = ((s.data.toList.take k).all okB && okB s[k]) := by
  rw [List.take_succ_eq_append_getElem (by simpa using h)]
  simp only [List.all_append, List.all_cons, List.all_nil, Bool.and_true]
  rfl
theorem all_of_take (s : ByteArray) (k : Nat) (h : ¬ k < s.size) (ha : (s.data.toList.take k).all okB = true) : s.data.toList.all okB = true := by
  rw [List.take_of_length_le (by simp; exact Nat.le_of_not_lt h)] at ha
  exact ha
theorem right_eq (s : ByteArray) (h1 : s.data.toList.all okB = true) (h2 : 0 < s.size) : right s.data.toList = decide ((s.size : Int) ≤ 16) := by
  have e : s.data.toList.length = s.size := by simp
  have e2 : decide ((s.size : Int) ≤ 16) = decide (s.size ≤ 16) := by rw [decide_eq_decide]; omega
  rw [e2]
  simp [right, h1, h2]
theorem right_of (s : ByteArray) (h1 : s.data.toList.all okB = true) (h2 : 0 < s.size) (h3 : s.size ≤ 16) : right s.data.toList = true := by
  have e : s.data.toList.length = s.size := by simp
  simp only [right, h1, e, Bool.true_and, Bool.and_eq_true, decide_eq_true_eq]
  exact ⟨h2, h3⟩
theorem not_right_len (s : ByteArray) (h : ¬ (0 < s.size ∧ s.size ≤ 16)) : right s.data.toList = false := by
  have e : s.data.toList.length = s.size := by simp
  unfold right
  rw [e]
  by_cases h0 : 0 < s.size <;> by_cases h1 : s.size ≤ 16 <;> simp_all
theorem not_right_at (s : ByteArray) (k : Nat) (h : k < s.size) (hc : okB s[k] = false) : right s.data.toList = false := by
  have hm : s[k] ∈ s.data.toList := by
    have : s[k] = s.data.toList[k]'(by simpa using h) := rfl
    rw [this]
    exact List.getElem_mem _
  have : s.data.toList.all okB = false := by
    rw [List.all_eq_false]
    exact ⟨_, hm, by simp [hc]⟩
  simp [right, this]
theorem okB_true (c : UInt8) (h1 : 33 ≤ c.toNat) (h2 : c.toNat ≤ 126) : okB c = true := by simp [okB, h1, h2]
theorem okB_lo (c : UInt8) (h1 : c.toNat < 33) : okB c = false := by
  have : ¬ 33 ≤ c.toNat := by omega
  simp [okB, this]
theorem okB_hi (c : UInt8) (h1 : 126 < c.toNat) : okB c = false := by
  have : ¬ c.toNat ≤ 126 := by omega
  simp [okB, this]
theorem code_true : code true = 0 := rfl
theorem code_false : code false = 1 := rfl
end Go.Proofs.Ytiokcemlfdonnaa.KeyP
end
section
namespace Go.Proofs.Ytiokcemlfdonnaa.SlotP

/-- the empty slot -/
def none : Item := ⟨0, ByteArray.empty, CellP.none⟩
def same (x y : Item) : Bool := x.state == y.state && (x.key.toList == y.key.toList && CellP.same x.cell y.cell)
/-- may an item be? -/
def right (x : Item) : Bool := if x.state = 0 then same x none else ((x.state == 1 || x.state == 2) && (KeyP.right x.key.data.toList && CellP.right x.cell))
/-- what a slot begins with -/
def body (x : Item) : List UInt8 := [UInt8.ofNat x.state.toNat, UInt8.ofNat x.key.size] ++ (x.key.data.toList ++ CellP.bytes x.cell)
def zeros (n : Nat) : List UInt8 := List.replicate n 0
/-- the bytes of a slot -/
def bytes (x : Item) : List UInt8 := if x.state ≠ 0 ∧ right x = true then body x ++ zeros (64 - (body x).length) else zeros 64

theorem right_key (x : Item) (h0 : x.state ≠ 0) (hr : right x = true) : x.key.size ≤ 16 := by
  unfold right at hr
  rw [if_neg h0] at hr
  simp only [Bool.and_eq_true] at hr
  have := hr.2.1
  unfold KeyP.right at this
  simp at this
  exact this.2.2
theorem right_state (x : Item) (h0 : x.state ≠ 0) (hr : right x = true) : x.state = 1 ∨ x.state = 2 := by
  unfold right at hr
  rw [if_neg h0] at hr
  simp only [Bool.and_eq_true, Bool.or_eq_true, beq_iff_eq] at hr
  exact hr.1
theorem right_cell (x : Item) (h0 : x.state ≠ 0) (hr : right x = true) : CellP.right x.cell = true := by
  unfold right at hr
  rw [if_neg h0] at hr
  simp only [Bool.and_eq_true] at hr
  exact hr.2.2
theorem cell_le (c : Cell) : (CellP.bytes c).length ≤ 34 := by
  unfold CellP.bytes
  cases hr : CellP.right c
  · simp
  · by_cases hk : c.kind = 1
    · unfold CellP.right at hr
      rw [if_pos hk] at hr
      simp at hr
      simp [hk]
      omega
    · simp [hk, BeP.parts_length]
/-- bytes with others from a place on -/
def over (l : List UInt8) (off : Nat) (s : List UInt8) : List UInt8 := l.take off ++ (s ++ l.drop (off + s.length))
theorem over_append (p q s : List UInt8) (n : Nat) (h : p.length = n) : over (p ++ q) n s = p ++ (s ++ q.drop s.length) := by
  subst h
  unfold over
  rw [List.take_left, List.drop_append]
  simp
theorem zeros_drop (n m : Nat) : (zeros n).drop m = zeros (n - m) := by simp [zeros]
theorem over_length (l : List UInt8) (off : Nat) (s : List UInt8) (h : off + s.length ≤ l.length) : (over l off s).length = l.length := by
  simp [over]; omega
/-- as slot.Put lays the bytes -/
theorem put_list (x : Item) (h0 : x.state ≠ 0) (hr : right x = true) :
    over (over (((zeros 64).set 0 (UInt8.ofNat x.state.toNat)).set 1 (UInt8.ofNat x.key.size)) 2 x.key.data.toList) (2 + x.key.size) (CellP.bytes x.cell) = bytes x := by
  have hl : x.key.data.toList.length = x.key.size := Array.length_toList
  have hset : ((zeros 64).set 0 (UInt8.ofNat x.state.toNat)).set 1 (UInt8.ofNat x.key.size) = [UInt8.ofNat x.state.toNat, UInt8.ofNat x.key.size] ++ zeros 62 := rfl
  have h2 : ([UInt8.ofNat x.state.toNat, UInt8.ofNat x.key.size] ++ x.key.data.toList).length = 2 + x.key.size := by
    rw [List.length_append, hl]
    rfl
  unfold bytes
  rw [if_pos ⟨h0, hr⟩, hset, over_append _ _ _ 2 rfl, ← List.append_assoc, over_append _ _ _ _ h2, zeros_drop, zeros_drop, hl]
  unfold body
  simp only [List.append_assoc, List.length_append, hl, List.length_cons, List.length_nil]
  rw [show 62 - x.key.size - (CellP.bytes x.cell).length = 64 - (0 + 1 + 1 + (x.key.size + (CellP.bytes x.cell).length)) by omega]
theorem bytes_length (x : Item) : (bytes x).length = 64 := by
  unfold bytes
  split
  · rename_i h
    have hk := right_key x h.1 h.2
    have hc := cell_le x.cell
    have hl : x.key.data.toList.length = x.key.size := Array.length_toList
    simp only [body, zeros, List.length_append, List.length_replicate, List.length_cons, List.length_nil, hl]
    omega
  · simp [zeros]
end Go.Proofs.Ytiokcemlfdonnaa.SlotP
end
section
namespace Go.Proofs.Ytiokcemlfdonnaa
open Go.RowKit

/-- bytes as cells -/
def rowV (l : List UInt8) : Array Value := (l.map byteV).toArray
theorem rowV_size (l : List UInt8) : (rowV l).size = l.length := by simp [rowV]
theorem rowV_get (l : List UInt8) (i : Nat) : (rowV l)[i]? = l[i]?.map byteV := by simp [rowV]
theorem rowV_one (l : List UInt8) : (rowV l).all (·.oneCell') = true := by
  rw [Array.all_eq_true_iff_forall_mem]
  intro v hv
  exact byteV_one l v (by simpa [rowV] using hv)
theorem rowV_zeros (n : Nat) : rowV (SlotP.zeros n) = Array.replicate n (.int .u8 0) := by
  simp [rowV, SlotP.zeros, byteV]
theorem rowV_set (l : List UInt8) (i : Nat) (u : UInt8) : (rowV l).setIfInBounds i (byteV u) = rowV (l.set i u) := by
  simp [rowV, List.map_set]

def alSem (t : TypeId) : Sem Value := Instr.alloc t true (.tuple #[])
def bdSem (t : TypeId) (ps : Array (Nat × Value)) : Sem Value := Instr.build t ps
def ldSem (t : TypeId) (v : Value) : Sem Value := Instr.loadAt t v
def stSem (t : TypeId) (a v : Value) : Sem Unit := Instr.storeAt t a v
/-- a type that is so many bytes -/
structure ArrT (P : Program) (t : TypeId) (n : Nat) : Prop where
  und : ∃ e, P.underlying t = some (.array n e) ∧ P.underlying e = some (.int .u8) ∧ (P.info? e).map (·.size) = some 1
  info : (P.info? t).map (fun i => (i.zero, i.size)) = some (some (.agg (Array.replicate n (.int .u8 0))), n)
  guard : P.eqGuardType P.depth t = false
section
variable {P : Program} {t : TypeId} {n : Nat}
theorem ArrT.size (h : ArrT P t n) : (P.info? t).map (·.size) = some n := by
  have := h.info
  cases hq : P.info? t with
  | none => simp [hq] at this
  | some i =>
    simp [hq] at this
    simp [this.2]
theorem run_al (h : ArrT P t n) (w : World) : (alSem t).run P w = .ok (.pointer (some ⟨w.heap.size, 0, none⟩)) (w.alloc (.cells (rowV (SlotP.zeros n)) t)) := by
  obtain ⟨hz, _⟩ := zero_of_info h.info
  rw [rowV_zeros]
  simp [alSem, Instr.alloc, hz, newVar, newRow, Value.cells]
theorem run_bd (h : ArrT P t n) (w : World) : (bdSem t #[]).run P w = .ok (.agg (rowV (SlotP.zeros n))) w := by
  obtain ⟨hz, _⟩ := zero_of_info h.info
  obtain ⟨e, he, _, he1⟩ := h.und
  rw [rowV_zeros]
  cases hq : P.info? e with
  | none => simp [hq] at he1
  | some i => simp [bdSem, Instr.build, hz, run_underlying he, sizeOf, typeInfo, hq, Instr.fill, Value.cells]
theorem run_ld (h : ArrT P t n) {w : World} {b : Nat} {l : List UInt8} (hs : Str w b (rowV l)) (hl : l.length = n) : (ldSem t (.pointer (some ⟨b, 0, none⟩))).run P w = .ok (.agg (rowV l)) w := by
  obtain ⟨t', hg⟩ := hs
  obtain ⟨e, he, _⟩ := h.und
  simp only [ldSem, Instr.loadAt, Instr.sureAddr, Sem.run_bind, Sem.run_pure, Result.andThen_ok]
  exact run_loadVar_row w b t' t (rowV l) (0, 0) _ hg he rfl (by rw [h.size, rowV_size, hl])
theorem run_st (h : ArrT P t n) {w : World} {b : Nat} {cs : Array Value} {l : List UInt8} (hs : Str w b cs) (hc : cs.size = n) (hl : l.length = n) : (stSem t (.pointer (some ⟨b, 0, none⟩)) (.agg (rowV l))).run P w = .ok () (w.setRow b (rowV l)) := by
  obtain ⟨t', hg⟩ := hs
  simp only [stSem, Instr.storeAt, Instr.sureAddr, Sem.run_bind, Sem.run_pure, Result.andThen_ok]
  exact run_storeVar_row w b t' t cs (rowV l) hg (by rw [h.size, rowV_size, hl]) (by rw [rowV_size, hc, hl]) (rowV_one l)
theorem Str.setRow {w : World} {b : Nat} {cs cs' : Array Value} (h : Str w b cs) : Str (w.setRow b cs') b cs' := by
  obtain ⟨t', hg⟩ := h
  exact ⟨t', by simp [World.setRow, Array.getElem?_modify, hg]⟩
theorem Str.setRow_other {w : World} {b b' : Nat} {cs cs' : Array Value} (h : Str w b cs) (hne : b ≠ b') : Str (w.setRow b' cs') b cs := by
  obtain ⟨t', hg⟩ := h
  exact ⟨t', by simp [World.setRow, Array.getElem?_modify, hg, Ne.symm hne]⟩
theorem run_eqItems (e : TypeId) (d : Nat) (he : P.underlying e = some (.int .u8)) (hc : P.cellsOf e = 1) (l l' : List UInt8) (w : World) (hl : l'.length = l.length) :
    ∀ is : List Nat, (∀ j ∈ is, j < l.length) → (Op.eqItems (d + 1) e (P.cellsOf e) (rowV l) (rowV l') is).run P w = .ok (is.all fun j => l[j]? == l'[j]?) w := by
  intro is
  induction is with
  | nil => intro _; simp [Op.eqItems]
  | cons j is ih =>
    intro hj
    have hlt : j < l.length := hj j (by simp)
    have hlt' : j < l'.length := by omega
    have hag : (isAgg e).run P w = .ok false w := by simp [isAgg, run_underlying he]
    have h1 : (part e (rowV l) j).run P w = .ok (byteV l[j]) w := by simp [part, hag, rowV_get, hlt]
    have h2 : (part e (rowV l') j).run P w = .ok (byteV l'[j]) w := by simp [part, hag, rowV_get, hlt']
    have h3 : (Op.equalIn (d + 1) e (byteV l[j]) (byteV l'[j])).run P w = .ok (((l[j].toNat : Int)) == (l'[j].toNat : Int)) w := run_equalIn_int w d e .u8 .u8 _ _ he
    have h4 : ((l[j].toNat : Int) == (l'[j].toNat : Int)) = (l[j]? == l'[j]?) := by
      rw [List.getElem?_eq_getElem hlt, List.getElem?_eq_getElem hlt', Bool.eq_iff_iff]
      simp only [beq_iff_eq, Option.some.injEq]
      constructor
      · intro h; exact UInt8.toNat.inj (by omega)
      · intro h; rw [h]
    have hr := ih fun k hk => hj k (by simp [hk])
    rw [hc] at hr ⊢
    simp only [Op.eqItems, Sem.run_bind, Nat.mul_one, h1, h2, h3, Result.andThen_ok, h4, List.all_cons]
    cases hb : (l[j]? == l'[j]?) with
    | false => simp
    | true => simpa using hr
theorem all_eq (l l' : List UInt8) (hl : l'.length = l.length) : ((List.range l.length).all fun j => l[j]? == l'[j]?) = (l == l') := by
  rw [Bool.eq_iff_iff]
  simp only [List.all_eq_true, List.mem_range, beq_iff_eq]
  constructor
  · intro h
    refine List.ext_getElem? fun j => ?_
    by_cases hj : j < l.length
    · exact h j hj
    · rw [List.getElem?_eq_none (by omega), List.getElem?_eq_none (by omega)]
  · rintro rfl j _; rfl
theorem run_arr_eq (h : ArrT P t n) (l l' : List UInt8) (hl : l.length = n) (hl' : l'.length = n) (w : World) : (Op.equalIn 10000 t (.agg (rowV l)) (.agg (rowV l'))).run P w = .ok (l == l') w := by
  obtain ⟨e, hu, he, hi⟩ := h.und
  cases hq : P.info? e with
  | none => simp [hq] at hi
  | some i =>
    have hc : P.cellsOf e = 1 := by simpa [Program.cellsOf, hq] using hi
    have := run_equalIn_array w 9999 (rowV l) (rowV l') hu hq
    rw [this, run_eqItems e 9998 he hc l l' w (by omega) _ (by simp; omega), ← all_eq l l' (by omega), hl]

def slSem (t : TypeId) (x : Value) (lo hi mx : Option Value) : Sem Value := Instr.sliceAt t x lo hi mx
/-- the address of a part of an array -/
theorem run_sl (h : ArrT P t n) (b lo hi : Nat) (h1 : lo ≤ hi) (h2 : hi ≤ n) (hlt : lo < n) (w : World) :
    (slSem t (.pointer (some ⟨b, 0, none⟩)) (some (.int .i64 (lo : Int))) (some (.int .i64 (hi : Int))) none).run P w = .ok (.slice (some ⟨b, lo, none⟩) (hi - lo) (n - lo)) w := by
  obtain ⟨e, hu, _, hi1⟩ := h.und
  cases hq : P.info? e with
  | none => simp [hq] at hi1
  | some i =>
    have hs : i.size = 1 := by simpa [hq] using hi1
    have a1 : (0 : Int) ≤ (hi : Int) ∧ (hi : Int) ≤ (n : Int) := by omega
    have a2 : (0 : Int) ≤ (lo : Int) ∧ (lo : Int) ≤ (hi : Int) := by omega
    simp [slSem, Instr.sliceAt, run_underlying hu, Instr.sureAddr, Instr.sliceBounds, Instr.sliceBound, asIntOf, a1, a2, sizeOf, typeInfo, hq, hs, add_none, h1, h2]
    omega
theorem run_sl_from (h : ArrT P t n) (b lo : Nat) (hlt : lo < n) (w : World) :
    (slSem t (.pointer (some ⟨b, 0, none⟩)) (some (.int .i64 (lo : Int))) none none).run P w = .ok (.slice (some ⟨b, lo, none⟩) (n - lo) (n - lo)) w := by
  obtain ⟨e, hu, _, hi1⟩ := h.und
  cases hq : P.info? e with
  | none => simp [hq] at hi1
  | some i =>
    have hs : i.size = 1 := by simpa [hq] using hi1
    simp [slSem, Instr.sliceAt, run_underlying hu, Instr.sureAddr, Instr.sliceBounds, Instr.sliceBound, asIntOf, sizeOf, typeInfo, hq, hs, add_none, (by omega : lo ≤ n)]
    omega
theorem run_sl_all (h : ArrT P t n) (b : Nat) (w : World) :
    (slSem t (.pointer (some ⟨b, 0, none⟩)) none none none).run P w = .ok (.slice (some ⟨b, 0, none⟩) n n) w := by
  obtain ⟨e, hu, _, hi1⟩ := h.und
  cases hq : P.info? e with
  | none => simp [hq] at hi1
  | some i =>
    simp [slSem, Instr.sliceAt, run_underlying hu, Instr.sureAddr, Instr.sliceBounds, sizeOf, typeInfo, hq, add_none]
/-- a part of a row reads as bytes -/
theorem Str.part {w : World} {b : Nat} {l : List UInt8} (h : Str w b (rowV l)) (lo m c : Nat) (h1 : lo + m ≤ l.length) (h2 : m ≤ c) (h3 : c ≤ maxLen) : Bytes w w.heap.size (some ⟨b, lo, none⟩) m c ((l.drop lo).take m) := by
  refine ⟨by simp; omega, h2, h3, fun _ => ⟨b, lo, rfl, h.lt, fun j u hu => ?_⟩⟩
  rw [h.cell, rowV_get]
  rw [List.getElem?_take] at hu
  split at hu
  · rw [List.getElem?_drop] at hu
    rw [hu]
    rfl
  · cases hu
theorem Str.grown {w w1 : World} {b g : Nat} {cs : Array Value} (h : Str w b cs) (hg : w.grownBy w1 (some g)) (hne : b ≠ g) : Str w1 b cs := by
  have hl := h.lt
  obtain ⟨t', h⟩ := h
  exact ⟨t', (hg.block b hl (by intro e; exact hne (by injection e))).trans h⟩
theorem below_grown {g : Nat} {a w w1 : World} (h : Below a.heap.size a w) (hg : w.grownBy w1 (some g)) (hB : a.heap.size ≤ g) : Below a.heap.size a w1 :=
  ⟨hg.os.trans h.os, hg.tape.trans h.tape, hg.output.trans h.output, Nat.le_trans h.size hg.size, fun i hi => (hg.block i (Nat.lt_of_lt_of_le hi h.size) (by intro e; injection e with e; omega)).trans (h.block i hi)⟩
theorem results_arr {fn : Func} {p : Tmp} (hA : ArrT P t n) (hr : fn.results = #[.cell p t]) (tmps : Array Value) {w : World} {g : Nat} {l : List UInt8} (hs : Str w g (rowV l)) (hl : l.length = n)
    (hp : tmps.getD p undef = .pointer (some ⟨g, 0, none⟩)) : (results fn tmps).run P w = .ok (.agg (rowV l)) w := by
  obtain ⟨t', hg⟩ := hs
  obtain ⟨e, he, _⟩ := hA.und
  exact results_cell_row hr tmps w g t' (rowV l) (0, 0) _ hp hg he rfl (by rw [hA.size, rowV_size, hl])
end
end Go.Proofs.Ytiokcemlfdonnaa
end
