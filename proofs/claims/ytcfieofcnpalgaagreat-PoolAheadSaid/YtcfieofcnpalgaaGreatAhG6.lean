/-
  Parts of the proof of PoolAhead.
-/
import Derived.Test.YtcfieofcnpalgaaGreatAhG4
import Derived.Test.YtcfieofcnpalgaaGreatAhG5
section
namespace Go.Proofs.YtcfieofcnpalgaaGreat
open Go.RowKit
set_option linter.unusedVariables false
set_option linter.unusedSimpArgs false
namespace RefDev
attribute [local go_sem ↓] app_fold
/-- an empty slice, just made -/
def slNew : SP ext := ⟨fun v _ => ∃ b, v = .slice (some ⟨b, 0, none⟩) 0 0, fun _ _ _ _ h => h⟩
/-- a slice of one number, made since -/
def slOne (N : Nat) (x : Int) : SP ext := ⟨fun v w => ∃ b c cs, v = .slice (some ⟨b, 0, none⟩) 1 c ∧ 1 ≤ c ∧ c ≤ maxLen ∧ N ≤ b ∧ Str w b cs ∧ cs[0]? = some (.int .i64 x), fun v w w' hb ⟨b, c, cs, e, h1, h2, h3, h4, h5⟩ => ⟨b, c, cs, e, h1, h2, h3, h4.next hb, h5⟩⟩
/-- nothing is put behind an empty slice -/
theorem app0 (w : World) (b c2 : Nat) (A2 : Option Addr) : (appSem #[25, 25] 25 #[.slice (some ⟨b, 0, none⟩) 0 0, .slice A2 0 c2]).run Tryz.prog w = .ok (.slice (some ⟨b, 0, none⟩) 0 0) w := by
  obtain ⟨i0, hi0, hz0, hz1, hz2⟩ := info_parts infoI
  have hl0 : ∀ a, (loadCells a 0).run Tryz.prog w = .ok #[] w := fun a => by simpa using run_loadCells_list (P := Tryz.prog) w a [] (by simp)
  have ht := Tryz.underlying25
  unfold appSem
  cases A2 <;> simp [Builtin.append_, run_underlying ht, sizeOf, typeInfo, hi0, Builtin.lenOf, Builtin.firstCells, storeCells, hl0]
/-- one number is -/
theorem app1 (w : World) (b g c2 : Nat) (x : Int) (hg : w.cell? ⟨g, 0, none⟩ = some (.int .i64 x)) :
    ∃ c cs w', (appSem #[25, 25] 25 #[.slice (some ⟨b, 0, none⟩) 0 0, .slice (some ⟨g, 0, none⟩) 1 c2]).run Tryz.prog w = .ok (.slice (some ⟨w.heap.size, 0, none⟩) 1 c) w' ∧ 1 ≤ c ∧ c ≤ maxLen ∧ Str w' w.heap.size cs ∧ cs[0]? = some (.int .i64 x) ∧ Below w.heap.size w w' := by
  obtain ⟨i0, hi0, hz0, hz1, hz2⟩ := info_parts infoI
  have h := run_append_grow (P := Tryz.prog) w 25 25 3 i0 _ Tryz.underlying25 hi0 hz0 ⟨b, 0, none⟩ 0 0 [] (by simp) (by simp) ⟨g, 0, none⟩ 1 c2 [.int .i64 x] (by rw [hz1]; rfl) (fun j v hv => by
    have hj : j = 0 := by have := (List.getElem?_eq_some_iff.1 hv).1; simp at this; omega
    subst hj
    simp at hv
    subst hv
    exact hg) (by omega) (by decide) (by rw [hz2, show Builtin.nextslicecap (0 + 1) 0 = 1 from nextslicecap_zero (by omega)]; decide)
  exact ⟨_, _, _, h, grownCap_ge _ _ _ _, grownCap_le_maxLen _ _ _ _ (by unfold maxLen; omega), Str.new w.drew _ _, by rw [Array.getElem?_append_left (by simp)]; simp, (balloc (bsame w).drew _)⟩
/-- the world without these blocks -/
def off (w : World) (db : List Nat) : World := db.foldr (fun g v => hide v g) w
theorem off_other (w : World) {db : List Nat} {p : Addr} (h : p.block ∉ db) : (off w db).cell? p = w.cell? p := by
  induction db with
  | nil => rfl
  | cons g db ih =>
    simp only [List.mem_cons, not_or] at h
    show (hide (off w db) g).cell? p = _
    rw [hide_other _ _ _ h.1, ih h.2]
theorem off_none (w : World) {db : List Nat} {p : Addr} (h : p.block ∈ db) : (off w db).cell? p = none := by
  induction db with
  | nil => cases h
  | cons g db ih =>
    show (hide (off w db) g).cell? p = _
    by_cases e : p.block = g
    · subst e; exact hide_none _ p
    · rw [hide_other _ _ _ e]
      exact ih ((List.mem_cons.1 h).resolve_left e)
theorem off_sub (B : Nat) (w : World) (db : List Nat) : Sub B (off w db) w := fun p v hp hv => by
  by_cases h : p.block ∈ db
  · rw [off_none w h] at hv; cases hv
  · rwa [off_other w h] at hv
/-- these blocks may turn, and others come to them -/
theorem off_keep {B : Nat} {w w' : World} {db db' : List Nat} (hk : ∀ k, k < B → k ∉ db → w'.heap[k]? = w.heap[k]?) (hn : ∀ b ∈ db', b ∈ db ∨ B ≤ b) : Sub B (off w db) (off w' db') := fun p v hp hv => by
  by_cases h : p.block ∈ db
  · rw [off_none w h] at hv; cases hv
  · rw [off_other w h] at hv
    have h' : p.block ∉ db' := fun hm => (hn _ hm).elim h (by omega)
    rw [off_other w' h', World.cell?_of_block (hk _ hp h)]
    exact hv
theorem off_below {B : Nat} {w w' : World} (db : List Nat) (h : Below B w w') : Sub B (off w db) (off w' db) := off_keep (fun k hk _ => h.block k hk) fun b hb => .inl hb
theorem off_str {w : World} {db : List Nat} {b : Nat} {cs : Array Value} (h : Str w b cs) (hb : b ∉ db) : ∀ k, (off w db).cell? ⟨b, k, none⟩ = cs[k]? := fun k => by
  rw [off_other w (p := ⟨b, k, none⟩) hb]
  exact h.cell k
theorem rel2_of {β : Type} {r : List Value → β → Prop} : ∀ (vs : List (List Value)) (l : List β), vs.length = l.length → (∀ (j : Nat) v x, vs[j]? = some v → l[j]? = some x → r v x) → Rel2 r vs l
  | [], [], _, _ => trivial
  | [], _ :: _, h, _ => by simp at h
  | _ :: _, [], h, _ => by simp at h
  | v :: vs, x :: l, h, hr => ⟨hr 0 v x rfl rfl, rel2_of vs l (by simpa using h) fun j a b ha hb => hr (j + 1) a b (by simpa using ha) (by simpa using hb)⟩
theorem rowE_one {w : World} {B : Nat} {vs : List Value} {l : List Int} (h : RowE.rel w B vs l) : ∃ A n c, vs = [.slice A n c] ∧ Elems IntE w B A n c l := h
theorem flat_one {vs : List (List Value)} {l : List (List Int)} {w : World} {B : Nat} (hr : Rel2 (RowE.rel w B) vs l) : ∀ (j : Nat) x, l[j]? = some x → ∃ A n c, vs.flatten[j]? = some (.slice A n c) ∧ Elems IntE w B A n c x := by
  induction vs generalizing l with
  | nil => cases l with
    | nil => intro j x h; simp at h
    | cons a l => exact absurd hr (by intro h; exact h)
  | cons v vs ih => cases l with
    | nil => exact absurd hr (by intro h; exact h)
    | cons a l =>
      obtain ⟨A, n, c, e, h⟩ := rowE_one hr.1
      subst e
      intro j x hx
      cases j with
      | zero => simp at hx; subst hx; exact ⟨A, n, c, rfl, h⟩
      | succ j => simpa using ih hr.2 j x (by simpa using hx)
/-- append([][]int{}, l...), of rows, exactly -/
theorem copy_rows2 {A : Option Addr} {n c B : Nat} {l : List (List Int)} (wr w : World) (h : ElemsIn RowE wr w B A n c l) (hB : B ≤ w.heap.size) (hn : n ≤ 1000) (h0 : 0 < n) :
    ∃ g cs c' w', (appSem #[26, 26] 26 #[.slice (some ⟨w.heap.size, 0, none⟩) 0 0, .slice A n c]).run Tryz.prog (w.alloc (.cells #[] 25)) = .ok (.slice (some ⟨g, 0, none⟩) n c') w' ∧ Str w' g cs ∧ w.heap.size ≤ g ∧ n ≤ cs.size ∧ (n ≤ c' ∧ c' ≤ maxLen) ∧ (∀ (j : Nat) x, l[j]? = some x → ∃ A n c, cs[j]? = some (.slice A n c) ∧ Elems IntE wr B A n c x) ∧ Below w.heap.size w w' := by
  obtain ⟨i0, hi0, hz0, hz1, hz2⟩ := info_parts infoRI
  have hb0 : Below w.heap.size w (w.alloc (.cells #[] 25)) := balloc (bsame w) _
  obtain ⟨vs, hr, hl, hc, hm, hx⟩ := h
  obtain ⟨b, o, rfl, hb, hcell⟩ := hx h0
  have hfl : vs.flatten.length = n := by rw [hr.flat (fun _ _ => RowE.len), hl]; show n * 1 = n; omega
  have h2 := run_append_grow (P := Tryz.prog) (w.alloc (.cells #[] 25)) 26 26 25 i0 _ Tryz.underlying26 hi0 hz0 ⟨w.heap.size, 0, none⟩ 0 0 [] (by simp) (by simp) ⟨b, o, none⟩ n c vs.flatten (by rw [hz1, hfl]; omega) (fun j v hv => by
    have := hcell j v hv
    rw [add_none, World.cell?_of_block (a := ⟨b, o + j, none⟩) (hb0.block b (by omega))]
    exact this) (by omega) (by omega) (by rw [hz2]; have := growslice_fits (bytes := 24) (need := 0 + n) (old := 0) (by omega) (by omega); exact this)
  rw [Nat.zero_add] at h2
  have hs := Str.new (w.alloc (.cells #[] 25)).drew (([] : List Value).toArray ++ vs.flatten.toArray ++ Builtin.zeroCells (Value.slice none 0 0).cells (grownCap (w.alloc (.cells #[] 25)) n 0 25 - n)) 25
  refine ⟨_, _, _, _, h2, hs, by simp [World.drew], by rw [Array.size_append, Array.size_append, List.size_toArray, List.size_toArray, hfl, List.length_nil]; omega, ⟨grownCap_ge _ _ _ _, grownCap_le_maxLen _ _ _ _ (by unfold maxLen; omega)⟩, fun j x hj => ?_, (balloc hb0.drew _)⟩
  obtain ⟨A1, n1, c1, e, he⟩ := flat_one hr j x hj
  refine ⟨A1, n1, c1, ?_, he⟩
  have hlt : j < vs.flatten.length := (List.getElem?_eq_some_iff.1 e).1
  rw [Array.getElem?_append_left (by rw [Array.size_append, List.size_toArray, List.size_toArray, List.length_nil]; omega)]
  simpa using e
/-- a row of rows, from its cells -/
theorem rows_of {w : World} {db : List Nat} {g n c : Nat} {cs : Array Value} {H : List (List Int)} (h : Str w g cs) (hg : g ∉ db) (hl : H.length = n) (hc : n ≤ c) (hm : c ≤ maxLen) (hs : n ≤ cs.size) (hr : ∀ (j : Nat) x, H[j]? = some x → ∃ A n c, cs[j]? = some (.slice A n c) ∧ Elems IntE (off w db) w.heap.size A n c x) : Elems RowE (off w db) w.heap.size (some ⟨g, 0, none⟩) n c H := by
  have hlen : ((cs.toList.take n).map (fun v => [v])).length = H.length := by rw [List.length_map, List.length_take, Array.length_toList, hl]; omega
  refine ⟨(cs.toList.take n).map (fun v => [v]), rel2_of _ _ hlen (fun j v x hv hx => ?_), hl, hc, hm, fun _ => ⟨g, 0, rfl, h.lt, fun j v hv => ?_⟩⟩
  · obtain ⟨A1, n1, c1, h1, h2⟩ := hr j x hx
    rw [List.getElem?_map, List.getElem?_take_of_lt (by rw [← hl]; exact (List.getElem?_eq_some_iff.1 hx).1), Array.getElem?_toList, h1] at hv
    simp at hv
    subst hv
    exact ⟨A1, n1, c1, rfl, h2⟩
  · rw [show ((cs.toList.take n).map (fun v => [v])).flatten = cs.toList.take n from by rw [← List.flatMap_def, List.flatMap_singleton']] at hv
    rw [Nat.zero_add, off_str h hg j, ← Array.getElem?_toList]
    rw [List.getElem?_take] at hv
    split at hv
    · exact hv
    · cases hv
set_option maxRecDepth 100000 in
set_option maxHeartbeats 4000000 in
theorem go_write (As : Option Addr) (ns cs : Nat) (Ah : Option Addr) (nh ch : Nat) (k v : Int) (no : Nat) (H : List (List Int)) (w : World) (db : List Nat) (hdb : Hid (∀ b ∈ db, b < w.heap.size)) (hH : Hid (Elems RowE (off w db) w.heap.size Ah nh ch H)) (hn : nh ≤ 1000) (hk0 : 0 ≤ k) (hk : k ≤ 999) (h1 : no < ns) (h2' : no < nh) (hno : H[no]? = some []) :
    Calls Tryz.prog 30 #[.agg #[.slice As ns cs, .slice Ah nh ch, .slice none 0 0, .int .i64 0, .int .i64 0, .int .i64 (-1), .bool false, .int .i64 k], .agg #[.int .i64 1, .int .i64 (no : Int), .int .i64 v, .slice none 0 0, .slice none 0 0, .int .i64 0]] w fun e w' => ∃ A' c', e = .returned (.tuple #[.agg (devV As ns cs A' nh c' (k + 1)), .int .i64 0, .int .i64 0]) ∧ Elems RowE (off w' db) w'.heap.size A' nh c' (H.set no [v]) ∧ Below w.heap.size w w' := by
  have hwr : wrap64 (k + 1) = k + 1 := IntWalk.wrap64_in _ (by omega)
  go_enter Tryz.func30, Tryz.ntmps30
  go_wp2_with fail
  generalize hW0 : (((w).alloc (.cells #[.slice As ns cs, .slice Ah nh ch, .slice none 0 0, .int .i64 0, .int .i64 0, .int .i64 (-1), .bool false, .int .i64 k] 29)).alloc (.cells #[.int .i64 1, .int .i64 (no : Int), .int .i64 v, .slice none 0 0, .slice none 0 0, .int .i64 0] 67)).alloc (.cells #[.slice none 0 0, .slice none 0 0, .slice none 0 0, .int .i64 0, .int .i64 0, .int .i64 0, .bool false, .int .i64 0] 29) = W0
  obtain ⟨HS0_0, HS1_0, HS2_0, HB_0, hw_0, hz0⟩ := new3 hW0
  clear hW0 hz0
  have f0_0 := str8 HS0_0.out
  have hl0_0 := HS0_0.out.lt
  have hf0_0 := fun j => HS0_0.out.frozen j
  have f1_0 := str6 HS1_0.out
  have hl1_0 := HS1_0.out.lt
  have f2_0 := str8 HS2_0.out
  have hl2_0 := HS2_0.out.lt
  have hf2_0 := fun j => HS2_0.out.frozen j
  go_wp2_with fail
  refine (may_write As ns cs Ah nh ch k v hk0 (by omega) (no : Int) (by omega) (by omega) W0).mono ?_
  rintro e W1 ⟨rfl, hb1⟩
  have HS0_1 := Lib.hid (HS0_0.out.next hb1)
  have HS1_1 := Lib.hid (HS1_0.out.next hb1)
  have HS2_1 := Lib.hid (HS2_0.out.next hb1)
  have HB_1 := Lib.hid (bstep HB_0.out hb1)
  have hw_1 := HB_1.out.size
  have hws_1 := (hb1).size
  clear f0_0 HS0_0 hf0_0 f1_0 HS1_0 f2_0 HS2_0 hf2_0
  clear hb1
  have f0_1 := str8 HS0_1.out
  have hl0_1 := HS0_1.out.lt
  have hf0_1 := fun j => HS0_1.out.frozen j
  have f1_1 := str6 HS1_1.out
  have hl1_1 := HS1_1.out.lt
  have f2_1 := str8 HS2_1.out
  have hl2_1 := HS2_1.out.lt
  have hf2_1 := fun j => HS2_1.out.frozen j
  unfold devV
  obtain ⟨W2, hW2⟩ : ∃ W, ((((((((W1).setCell ⟨w.heap.size, 0, none⟩ (.slice As ns cs)).setCell ⟨w.heap.size, 1, none⟩ (.slice Ah nh ch)).setCell ⟨w.heap.size, 2, none⟩ (.slice none 0 0)).setCell ⟨w.heap.size, 3, none⟩ (.int .i64 0)).setCell ⟨w.heap.size, 4, none⟩ (.int .i64 0)).setCell ⟨w.heap.size, 5, none⟩ (.int .i64 (-1))).setCell ⟨w.heap.size, 6, none⟩ (.bool false)).setCell ⟨w.heap.size, 7, none⟩ (.int .i64 (k + 1)) = W := ⟨_, rfl⟩
  have HS0_2 : Hid (Str W2 (w.heap.size) #[.slice As ns cs, .slice Ah nh ch, .slice none 0 0, .int .i64 0, .int .i64 0, .int .i64 (-1), .bool false, .int .i64 (k + 1)]) := Lib.hid (by rw [← hW2]; have := ((((((((HS0_1.out).set 0 (.slice As ns cs)).set 1 (.slice Ah nh ch)).set 2 (.slice none 0 0)).set 3 (.int .i64 0)).set 4 (.int .i64 0)).set 5 (.int .i64 (-1))).set 6 (.bool false)).set 7 (.int .i64 (k + 1)); simpa using this)
  have hgr2 : W1.grownBy W2 (some (w.heap.size)) := by rw [← hW2]; exact grown_set (grown_set (grown_set (grown_set (grown_set (grown_set (grown_set (grown_set (grown_refl W1 (w.heap.size)) 0 (_)) 1 (_)) 2 (_)) 3 (_)) 4 (_)) 5 (_)) 6 (_)) 7 (_)
  have HS1_2 := Lib.hid (HS1_1.out.grown hgr2 (by omega))
  have HS2_2 := Lib.hid (HS2_1.out.grown hgr2 (by omega))
  have HB_2 := Lib.hid (below_grown HB_1.out hgr2 (by omega))
  have hw_2 := HB_2.out.size
  have hws_2 := hgr2.size
  have hz2 : W2.heap.size = W1.heap.size := by rw [← hW2]; simp
  clear hgr2
  have f0_2 := str8 HS0_2.out
  have hl0_2 := HS0_2.out.lt
  have hf0_2 := fun j => HS0_2.out.frozen j
  have f1_2 := str6 HS1_2.out
  have hl1_2 := HS1_2.out.lt
  have f2_2 := str8 HS2_2.out
  have hl2_2 := HS2_2.out.lt
  have hf2_2 := fun j => HS2_2.out.frozen j
  obtain ⟨g, cs3, c1, W3, happ, hS3, hg3, hgz3, hcc, hrow, hb3⟩ := copy_rows2 (off w db) W2 (ElemsIn.keep hH.out (Sub.refl _ _) (fun p v hp hv => sub_below HB_2.out p v hp (off_sub _ _ _ p v hp hv))) hw_2 (by omega) (by omega)
  obtain ⟨Ar, nr, cr, hrc, hEr⟩ := hrow no [] hno
  have hnr : nr = 0 := hEr.len.symm
  subst hnr
  clear hEr
  have HROW := Lib.hid hrow
  clear hrow
  have HS0_3 := Lib.hid (HS0_2.out.next hb3)
  have HS1_3 := Lib.hid (HS1_2.out.next hb3)
  have HS2_3 := Lib.hid (HS2_2.out.next hb3)
  have HB_3 := Lib.hid (bstep HB_2.out hb3)
  have hw_3 := HB_3.out.size
  have hws_3 := (hb3).size
  clear f0_2 HS0_2 hf0_2 f1_2 HS1_2 f2_2 HS2_2 hf2_2
  clear hb3
  have f0_3 := str8 HS0_3.out
  have hl0_3 := HS0_3.out.lt
  have hf0_3 := fun j => HS0_3.out.frozen j
  have f1_3 := str6 HS1_3.out
  have hl1_3 := HS1_3.out.lt
  have f2_3 := str8 HS2_3.out
  have hl2_3 := HS2_3.out.lt
  have hf2_3 := fun j => HS2_3.out.frozen j
  have HS3_3 := Lib.hid hS3
  have hl3_3 := hS3.lt
  clear hS3
  rw [hz2, ← hW2] at happ
  clear hW2 hz2
  go_wp2_with fail
  clear happ
  clear f0_1 HS0_1 hf0_1 f1_1 HS1_1 f2_1 HS2_1 hf2_1
  refine Reg.wp_region_tail (R := ext) (W := W3) [Reg.eqv (.slice (some ⟨g, 0, none⟩) nh c1), Reg.eqv (.pointer (some ⟨w.heap.size + 1, 1, none⟩)), Reg.eqv (.int .i64 (no : Int)), slNew, Reg.eqv (.slice (some ⟨g, 0, none⟩) nh c1), Reg.eqv (.pointer (some ⟨w.heap.size + 1, 1, none⟩)), Reg.eqv (.int .i64 (no : Int)), Reg.eqv (.pointer (some ⟨g, no, none⟩)), Reg.eqv (.slice Ar 0 cr), slNew, Reg.eqv (.pointer (some ⟨w.heap.size + 1, 2, none⟩)), Reg.eqv (.int .i64 v), (slOne W3.heap.size v), (slOne W3.heap.size v), Reg.eqv (.pointer (some ⟨g, no, none⟩))] 162 15 _ [[(9, none)], [(3, none)], [(72, some 1)], [], [(9, none)], [(3, none)], [(76, some 5)], [(75, some 4), (77, some 6)], [(78, some 7)], [(74, some 3), (79, some 8)], [(3, none)], [(81, some 10)], [(82, some 11)], [(80, some 9), (83, some 12)], [(71, some 0), (73, some 2)]] rfl (by kernel_rfl) (by kernel_rfl) (by rfl) (by rfl) rfl (by kernel_rfl) ?_ [some 71, some 72, some 73, some 74, some 75, some 76, some 77, some 78, some 79, some 80, some 81, some 82, some 83, some 84, some 85] (by kernel_rfl) ?_
  · refine ⟨?_, ?_, ?_, ?_, ?_, ?_, ?_, ?_, ?_, ?_, ?_, ?_, ?_, ?_, ?_, trivial⟩
    · intro ax wx hx hs
      obtain ⟨e9, -⟩ := hs
      have g9 := Reg.ev (v := .slice (some ⟨g, 0, none⟩) nh c1) e9
      exact Reg.obl_free rfl (Reg.wp_eqv (Option.some_ne_none _) (by go_simp) rfl)
    · intro ax wx hx hs
      obtain ⟨e3, -⟩ := hs
      have g3 := Reg.ev (v := .pointer (some ⟨w.heap.size + 1, 0, none⟩)) e3
      exact Reg.obl_free rfl (Reg.wp_eqv (Option.some_ne_none _) (by go_simp) rfl)
    · intro ax wx hx hs
      obtain ⟨e72, -⟩ := hs
      have g72 := Reg.ev (v := .pointer (some ⟨w.heap.size + 1, 1, none⟩)) e72
      have l1 := str6 (HS1_3.out.next hx)
      have lr : wx.cell? ⟨g, no, none⟩ = some (.slice Ar 0 cr) := ((HS3_3.out.next hx).cell no).trans hrc
      exact Reg.obl_free rfl (Reg.wp_eqv (Option.some_ne_none _) (by go_simp) rfl)
    · intro ax wx hx hs
      refine Reg.obl_free rfl ?_
      go_simp
      exact Reg.done (Option.some_ne_none _) ⟨_, rfl⟩ (balloc (bsame wx) _)
    · intro ax wx hx hs
      obtain ⟨e9, -⟩ := hs
      have g9 := Reg.ev (v := .slice (some ⟨g, 0, none⟩) nh c1) e9
      exact Reg.obl_free rfl (Reg.wp_eqv (Option.some_ne_none _) (by go_simp) rfl)
    · intro ax wx hx hs
      obtain ⟨e3, -⟩ := hs
      have g3 := Reg.ev (v := .pointer (some ⟨w.heap.size + 1, 0, none⟩)) e3
      exact Reg.obl_free rfl (Reg.wp_eqv (Option.some_ne_none _) (by go_simp) rfl)
    · intro ax wx hx hs
      obtain ⟨e76, -⟩ := hs
      have g76 := Reg.ev (v := .pointer (some ⟨w.heap.size + 1, 1, none⟩)) e76
      have l1 := str6 (HS1_3.out.next hx)
      have lr : wx.cell? ⟨g, no, none⟩ = some (.slice Ar 0 cr) := ((HS3_3.out.next hx).cell no).trans hrc
      exact Reg.obl_free rfl (Reg.wp_eqv (Option.some_ne_none _) (by go_simp) rfl)
    · intro ax wx hx hs
      obtain ⟨e75, e77, -⟩ := hs
      have g75 := Reg.ev (v := .slice (some ⟨g, 0, none⟩) nh c1) e75
      have g77 := Reg.ev (v := .int .i64 (no : Int)) e77
      refine Reg.obl_free rfl ?_
      exact Reg.wp_eqv (Option.some_ne_none _) (by go_simp; first | done | (intro hq; omega)) rfl
    · intro ax wx hx hs
      obtain ⟨e78, -⟩ := hs
      have g78 := Reg.ev (v := .pointer (some ⟨g, no, none⟩)) e78
      have l1 := str6 (HS1_3.out.next hx)
      have lr : wx.cell? ⟨g, no, none⟩ = some (.slice Ar 0 cr) := ((HS3_3.out.next hx).cell no).trans hrc
      exact Reg.obl_free rfl (Reg.wp_eqv (Option.some_ne_none _) (by go_simp) rfl)
    · intro ax wx hx hs
      obtain ⟨e74, e79, -⟩ := hs
      have g79 := Reg.ev (v := .slice Ar 0 cr) e79
      refine Reg.obl_free rfl ?_
      obtain ⟨b74, e74⟩ := e74
      have g74 := Reg.ev e74
      refine wp_appT (.tmp 74) (.tmp 79) rfl rfl (by simpa [Act.eval] using g74) (by simpa [Act.eval] using g79) (app0 wx b74 cr Ar) ?_
      exact Reg.done (Option.some_ne_none _) ⟨b74, rfl⟩ (bsame wx)
    · intro ax wx hx hs
      obtain ⟨e3, -⟩ := hs
      have g3 := Reg.ev (v := .pointer (some ⟨w.heap.size + 1, 0, none⟩)) e3
      exact Reg.obl_free rfl (Reg.wp_eqv (Option.some_ne_none _) (by go_simp) rfl)
    · intro ax wx hx hs
      obtain ⟨e81, -⟩ := hs
      have g81 := Reg.ev (v := .pointer (some ⟨w.heap.size + 1, 2, none⟩)) e81
      have l1 := str6 (HS1_3.out.next hx)
      have lr : wx.cell? ⟨g, no, none⟩ = some (.slice Ar 0 cr) := ((HS3_3.out.next hx).cell no).trans hrc
      exact Reg.obl_free rfl (Reg.wp_eqv (Option.some_ne_none _) (by go_simp) rfl)
    · intro ax wx hx hs
      obtain ⟨e82, -⟩ := hs
      have g82 := Reg.ev (v := .int .i64 v) e82
      refine Reg.obl_free rfl ?_
      have hxs := Below.size hx
      go_simp
      exact Reg.done (Option.some_ne_none _) ⟨_, 1, _, rfl, Nat.le_refl _, by unfold maxLen; omega, hxs, Str.new wx _ _, rfl⟩ (balloc (bsame wx) _)
    · intro ax wx hx hs
      obtain ⟨e80, e83, -⟩ := hs
      refine Reg.obl_free rfl ?_
      obtain ⟨b80, e80⟩ := e80
      have g80 := Reg.ev e80
      obtain ⟨b83, c83, cs83, e83, -, -, -, hs83, hc83⟩ := e83
      have g83 := Reg.ev e83
      have hxs := Below.size hx
      obtain ⟨c9, cs9, w9, happ1, h91, h92, h93, h94, h95⟩ := app1 wx b80 b83 c83 v ((hs83.cell 0).trans hc83)
      refine wp_appT (.tmp 80) (.tmp 83) rfl rfl (by simpa [Act.eval] using g80) (by simpa [Act.eval] using g83) happ1 ?_
      exact Reg.done (Option.some_ne_none _) ⟨_, c9, cs9, rfl, h91, h92, hxs, h93, h94⟩ h95
    · intro ax wx hx hs
      obtain ⟨e71, e73, -⟩ := hs
      have g71 := Reg.ev (v := .slice (some ⟨g, 0, none⟩) nh c1) e71
      have g73 := Reg.ev (v := .int .i64 (no : Int)) e73
      refine Reg.obl_free rfl ?_
      exact Reg.wp_eqv (Option.some_ne_none _) (by go_simp; first | done | (intro hq; omega)) rfl
  · intro W4 hwf
    simp only [Reg.Fin]
    rintro _ rfl _ rfl _ rfl v74 h74 _ rfl _ rfl _ rfl _ rfl _ rfl v80 h80 _ rfl _ rfl v83 h83 v84 h84 _ rfl
    have hwf' : Below W3.heap.size W3 W4 := hwf
    obtain ⟨b8, c8, cs8, e8, k1, k2, k3, k4, k5⟩ := h84
    subst e8
    clear h74 h80 h83 hwf
    have HK := Lib.hid (And.intro k1 (And.intro k2 k5))
    have hs8 := Below.size hwf'
    have HS0_4 := Lib.hid (HS0_3.out.next hwf')
    have HS1_4 := Lib.hid (HS1_3.out.next hwf')
    have HS2_4 := Lib.hid (HS2_3.out.next hwf')
    have HS3_4 := Lib.hid (HS3_3.out.next hwf')
    have HB_4 := Lib.hid (bstep HB_3.out hwf')
    have hw_4 := HB_4.out.size
    have hws_4 := (hwf').size
    clear f0_3 HS0_3 hf0_3 f1_3 HS1_3 f2_3 HS2_3 hf2_3 HS3_3
    clear hwf'
    have f0_4 := str8 HS0_4.out
    have hl0_4 := HS0_4.out.lt
    have hf0_4 := fun j => HS0_4.out.frozen j
    have f1_4 := str6 HS1_4.out
    have hl1_4 := HS1_4.out.lt
    have f2_4 := str8 HS2_4.out
    have hl2_4 := HS2_4.out.lt
    have hf2_4 := fun j => HS2_4.out.frozen j
    have hl3_4 := HS3_4.out.lt
    have HS4_4 := Lib.hid k4
    have hl4_4 := k4.lt
    clear k1 k2 k4 k5
    have hc4 := (HS3_4.out.cell no).trans hrc
    have hfz := HS3_4.out.frozen no
    refine Reg.Goal.mk ?_
    go_simp
    clear hc4 hfz
    generalize hW5 : W4.setCell ⟨g, no, none⟩ (.slice (some ⟨b8, 0, none⟩) 1 c8) = W5
    have hgr5 : W4.grownBy W5 (some g) := by rw [← hW5]; exact grown_set (grown_refl W4 g) no _
    have HS0_5 := Lib.hid (HS0_4.out.grown hgr5 (by omega))
    have HS1_5 := Lib.hid (HS1_4.out.grown hgr5 (by omega))
    have HS2_5 := Lib.hid (HS2_4.out.grown hgr5 (by omega))
    have HS4_5 := Lib.hid (HS4_4.out.grown hgr5 (by omega))
    have HS3_5 : Hid (Str W5 g (cs3.setIfInBounds no (.slice (some ⟨b8, 0, none⟩) 1 c8))) := Lib.hid (by rw [← hW5]; exact HS3_4.out.set no _)
    have HB_5 := Lib.hid (below_grown HB_4.out hgr5 (by omega))
    have hw_5 := HB_5.out.size
    clear hW5 hgr5
    clear f0_4 HS0_4 hf0_4 f1_4 HS1_4 f2_4 HS2_4 hf2_4 HS3_4 HS4_4
    have f0_5 := str8 HS0_5.out
    have hl0_5 := HS0_5.out.lt
    have hf0_5 := fun j => HS0_5.out.frozen j
    have f1_5 := str6 HS1_5.out
    have hl1_5 := HS1_5.out.lt
    have f2_5 := str8 HS2_5.out
    have hl2_5 := HS2_5.out.lt
    have hf2_5 := fun j => HS2_5.out.frozen j
    have hl3_5 := HS3_5.out.lt
    have hl4_5 := HS4_5.out.lt
    have key : ∀ WF : World, Str WF g (cs3.setIfInBounds no (.slice (some ⟨b8, 0, none⟩) 1 c8)) → Str WF b8 cs8 → Below w.heap.size w WF → ∃ A' c', Ending.returned (.tuple #[.agg (devV As ns cs (some ⟨g, 0, none⟩) nh c1 (k + 1)), .int .i64 0, .int .i64 0]) = Ending.returned (.tuple #[.agg (devV As ns cs A' nh c' (k + 1)), .int .i64 0, .int .i64 0]) ∧ Elems RowE (off WF db) WF.heap.size A' nh c' (H.set no [v]) ∧ Below w.heap.size w WF := fun WF h1 h2 h3 => by
      refine ⟨_, _, rfl, rows_of h1 (fun hm => by have := hdb.out _ hm; omega) (by rw [List.length_set]; exact hH.out.len) hcc.1 hcc.2 (by rw [Array.size_setIfInBounds]; exact hgz3) (fun j x hj => ?_), h3⟩
      by_cases e : no = j
      · subst e
        rw [List.getElem?_set_self (by rw [hH.out.len]; exact h2')] at hj
        cases hj
        refine ⟨_, _, _, Array.getElem?_setIfInBounds_self_of_lt (by omega), ?_⟩
        obtain ⟨k1, k2, k5⟩ := HK.out
        exact ⟨[[.int .i64 v]], ⟨rfl, trivial⟩, rfl, k1, k2, fun _ => ⟨b8, 0, rfl, h2.lt, fun j u hu => by
          have hj : j = 0 := by have := (List.getElem?_eq_some_iff.1 hu).1; simp at this; omega
          subst hj
          simp at hu
          subst hu
          exact (off_str h2 (fun hm => by have := hdb.out _ hm; omega) 0).trans k5⟩⟩
      · rw [List.getElem?_set_ne e] at hj
        obtain ⟨A1, n1, c1, h4, h5⟩ := HROW.out j x hj
        refine ⟨A1, n1, c1, ?_, (h5.sub (off_below db h3)).more h3.size⟩
        rw [Array.getElem?_setIfInBounds_ne e]
        exact h4
    go_wp2_with fail
    refine bodyPost_ret (v := .tuple #[.agg (devV As ns cs (some ⟨g, 0, none⟩) nh c1 (k + 1)), .int .i64 0, .int .i64 0]) (by simp [results, Tryz.results30, go_sem, devV, *]) rfl (key _ ?_ ?_ ?_)
    · (repeat refine Str.other ?_ _ _ (by omega)); exact HS3_5.out
    · (repeat refine Str.other ?_ _ _ (by omega)); exact HS4_5.out
    · (repeat refine Below.setCell ?_ (by dsimp only; omega) _); exact HB_5.out
end RefDev
end Go.Proofs.YtcfieofcnpalgaaGreat
end
