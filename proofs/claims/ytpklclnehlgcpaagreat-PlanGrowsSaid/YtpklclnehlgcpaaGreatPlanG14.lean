/-
  Parts of the proof of PlanGrows.
-/
import Derived.Test.YtpklclnehlgcpaaGreatPlanG13
import Derived.Test.YtpklclnehlgcpaaGreatPlanG9
import Derived.Test.YtpklclnehlgcpaaGreatPlanG3
import Derived.Test.YtpklclnehlgcpaaGreatPlanG7
section
namespace Go.Proofs.YtpklclnehlgcpaaGreat
open Go.RowKit
set_option linter.unusedVariables false
section
variable {bs : List Nat} {w w' : World} {A : Option Addr} {n c : Nat} {l : List UInt8}
theorem BytesH.bytes (h : BytesH bs w A n c l) : Bytes w w.heap.size A n c l := Bytes.sub h (sub_hideL _ w bs)
theorem BytesH.len (h : BytesH bs w A n c l) : l.length = n := h.bytes.len
theorem BytesH.next (h : BytesH bs w A n c l) (hb : Below w.heap.size w w') : BytesH bs w' A n c l := (Bytes.sub h (hideL_below bs hb)).more hb.size
theorem BytesH.none_ (bs : List Nat) (w : World) : BytesH bs w none 0 0 [] := Bytes.none_ _ _
theorem BytesH.grown {g : Nat} {cs : Array Value} (h : BytesH bs w A n c l) (hs : Str w g cs) (hn : notU8 cs = true) (hg : w.grownBy w' (some g)) : BytesH bs w' A n c l := by
  obtain ⟨h1, h2, h3, h4⟩ := h
  refine ⟨h1, h2, h3, fun hpos => ?_⟩
  obtain ⟨b, o, e, hb, hc⟩ := h4 hpos
  refine ⟨b, o, e, Nat.lt_of_lt_of_le hb hg.size, fun j u hu => ?_⟩
  have hx := hc j u hu
  have hnb : b ∉ bs := fun hm => by
    have h0 : (hideL w bs).cell? ⟨b, o + j, none⟩ = none := hideL_in w ⟨b, o + j, none⟩ bs hm
    rw [h0] at hx; cases hx
  have hx' := hx
  rw [hideL_out w ⟨b, o + j, none⟩ bs hnb] at hx'
  rw [hideL_out w' ⟨b, o + j, none⟩ bs hnb]
  have hne : b ≠ g := by
    rintro rfl
    rw [hs.cell] at hx'
    have hm : byteV u ∈ cs.toList := by rw [Array.mem_toList_iff]; exact Array.mem_of_getElem? hx'
    have := List.all_eq_true.1 hn _ hm
    simp [byteV] at this
  exact (World.cell?_of_block (a := ⟨b, o + j, none⟩) (hg.block b hb (by intro e2; injection e2 with e2; exact hne e2))).trans hx'
/-- more blocks, without bytes, hidden -/
theorem BytesH.app (h : BytesH bs w A n c l) (rb : List Nat) (hn : ∀ b ∈ rb, ∃ cs, Str w b cs ∧ notU8 cs = true) : BytesH (bs ++ rb) w A n c l := by
  unfold BytesH
  rw [hideL_append]
  obtain ⟨h1, h2, h3, h4⟩ := h
  refine ⟨h1, h2, h3, fun hpos => ?_⟩
  obtain ⟨b, o, e, hb, hc⟩ := h4 hpos
  refine ⟨b, o, e, hb, fun j u hu => ?_⟩
  have hx := hc j u hu
  have hnb : b ∉ bs := fun hm => by
    have h0 : (hideL w bs).cell? ⟨b, o + j, none⟩ = none := hideL_in w ⟨b, o + j, none⟩ bs hm
    rw [h0] at hx; cases hx
  rw [hideL_out w ⟨b, o + j, none⟩ bs hnb] at hx
  rw [hideL_out _ ⟨b, o + j, none⟩ bs hnb, hideL_out w ⟨b, o + j, none⟩ rb]
  · exact hx
  · intro hm
    obtain ⟨cs, hs, hn1⟩ := hn b hm
    rw [hs.cell] at hx
    have hm2 : byteV u ∈ cs.toList := by rw [Array.mem_toList_iff]; exact Array.mem_of_getElem? hx
    have := List.all_eq_true.1 hn1 _ hm2
    simp [byteV] at this
/-- bytes of the call's own -/
theorem Own.fresh {base : Nat} (h : Own w base A n c l) (hb : ∀ b ∈ bs, b < base) : BytesH bs w A n c l := by
  have hB := Own.bytes h
  obtain ⟨h1, h2, h3, h4⟩ := hB
  refine ⟨h1, h2, h3, fun hpos => ?_⟩
  obtain ⟨b, o, rfl, hbl, hc⟩ := h4 hpos
  have hge : base ≤ b := own_block h b rfl
  exact ⟨b, o, rfl, hbl, fun j u hu => (hideL_out w ⟨b, o + j, none⟩ bs (fun hm => by have := hb _ hm; simp at this; omega)).trans (hc j u hu)⟩
end
/-- the call hands back bytes that hang on none of these blocks -/
def GivesH (bs : List Nat) (w : World) (l : List UInt8) (e : Ending) (w' : World) : Prop := ∃ A n c, e = .returned (.slice A n c) ∧ BytesH bs w' A n c l ∧ Below w.heap.size w w'
/-- .. a cell -/
def GivesCellH (bs : List Nat) (w : World) (x : Cell) (e : Ending) (w' : World) : Prop := ∃ A n c, e = .returned (.agg #[.int .i64 x.kind, .slice A n c, .int .i64 x.lo, .int .i64 x.hi, .int .i64 x.val]) ∧ BytesH bs w' A n c x.data ∧ Below w.heap.size w w'
/-- a thing's cells: what is there, or nothing -/
def thingV (A : Option Addr) (n c : Nat) : Option Cell → Array Value
  | some x => #[.int .i64 x.kind, .slice A n c, .int .i64 x.lo, .int .i64 x.hi, .int .i64 x.val, .bool true]
  | none => #[.int .i64 0, .slice none 0 0, .int .i64 0, .int .i64 0, .int .i64 0, .bool false]
def ansV (A : Option Addr) (n c : Nat) (a : Answer) : Array Value := #[.int .i64 a.err, .int .i64 a.cell.kind, .slice A n c, .int .i64 a.cell.lo, .int .i64 a.cell.hi, .int .i64 a.cell.val]
/-- the call hands back a thing and an answer -/
def GivesRule (bs : List Nat) (w : World) (r : Int × Option Cell × Cell) (e : Ending) (w' : World) : Prop := ∃ A n c A2 n2 c2, e = .returned (.tuple #[.agg (thingV A n c r.2.1), .agg (ansV A2 n2 c2 ⟨r.1, r.2.2⟩)]) ∧ BytesH bs w' A n c (r.2.1.elim [] (·.data)) ∧ BytesH bs w' A2 n2 c2 r.2.2.data ∧ Below w.heap.size w w'
end Go.Proofs.YtpklclnehlgcpaaGreat
namespace Go.Proofs.YtpklclnehlgcpaaGreat.ModelW
open Go.RowKit
set_option linter.unusedVariables false
section
attribute [local go_sem ↓] app_fold
set_option maxHeartbeats 400000 in
theorem copyData_any (bs : List Nat) (A : Option Addr) (n c B : Nat) (l : List UInt8) (w : World) (hbs : ∀ b ∈ bs, b < w.heap.size) (h : Bytes w B A n c l) (hB : B ≤ w.heap.size) (hn : n ≤ 100000) :
    Calls Tryz.prog 78 #[.slice A n c] w (GivesH bs w l) := by
  obtain ⟨A3, c3, w3, happ3, hO3, hb3⟩ := (Own.none_ w w.heap.size).app h (by omega) (Nat.le_refl _)
  simp only [Nat.zero_add, List.nil_append] at happ3 hO3
  have HO := Lib.hid (hO3.fresh hbs)
  have HB := Lib.hid hb3
  clear h hO3 hb3
  go_enter Tryz.func78, Tryz.ntmps78
  go_wp2
  go_ret
  exact ⟨A3, n, c3, rfl, HO.out, HB.out⟩
end
set_option maxRecDepth 100000 in
set_option maxHeartbeats 400000 in
theorem copyCell_any (bs : List Nat) (A : Option Addr) (n c B : Nat) (kd : Int) (data : List UInt8) (lo hi va : Int) (w : World) (hbs : ∀ b ∈ bs, b < w.heap.size) (h : Bytes w B A n c data) (hB : B ≤ w.heap.size) (hn : n ≤ 100000) :
    Calls Tryz.prog 61 #[.agg #[.int .i64 kd, .slice A n c, .int .i64 lo, .int .i64 hi, .int .i64 va]] w (GivesCellH bs w ⟨kd, data, lo, hi, va⟩) := by
  have H := Lib.hid h
  clear h
  go_enter Tryz.func61, Tryz.ntmps61
  go_wp2_with fail
  generalize hW0 : ((w).alloc (.cells #[.int .i64 kd, .slice A n c, .int .i64 lo, .int .i64 hi, .int .i64 va] 25)).alloc (.cells #[.int .i64 0, .slice none 0 0, .int .i64 0, .int .i64 0, .int .i64 0] 25) = W0
  obtain ⟨HS0_0, HS1_0, HB_0, hw_0, hz0⟩ := new2 hW0
  clear hW0 hz0
  have f0_0 := str5 HS0_0.out
  have hl0_0 := HS0_0.out.lt
  have hf0_0 := fun j => HS0_0.out.frozen j
  have f1_0 := str5 HS1_0.out
  have hl1_0 := HS1_0.out.lt
  have hf1_0 := fun j => HS1_0.out.frozen j
  refine (copyData_any bs A n c B data _ (fun b hb => by have := hbs b hb; omega) (H.out.below (HB_0.out.mono hB)) (by omega) hn).mono ?_
  rintro e W1 ⟨A1, n1, c1, rfl, hy1, hb1⟩
  have HS0_1 := Lib.hid (HS0_0.out.next hb1)
  have HS1_1 := Lib.hid (HS1_0.out.next hb1)
  have HB_1 := Lib.hid (bstep HB_0.out hb1)
  have hw_1 := HB_1.out.size
  have hws_1 := (hb1).size
  clear f0_0 HS0_0 hf0_0 f1_0 HS1_0 hf1_0
  clear hb1
  have f0_1 := str5 HS0_1.out
  have hl0_1 := HS0_1.out.lt
  have hf0_1 := fun j => HS0_1.out.frozen j
  have f1_1 := str5 HS1_1.out
  have hl1_1 := HS1_1.out.lt
  have hf1_1 := fun j => HS1_1.out.frozen j
  have HYx_1 := Lib.hid (hy1)
  clear hy1
  go_wp2_with fail
  generalize hW2 : (W1).setCell ⟨w.heap.size, 1, none⟩ (.slice A1 n1 c1) = W2
  have HS0_2 : Hid (Str W2 (w.heap.size) #[.int .i64 kd, .slice A1 n1 c1, .int .i64 lo, .int .i64 hi, .int .i64 va]) := Lib.hid (by rw [← hW2]; have := (HS0_1.out).set 1 (.slice A1 n1 c1); simpa using this)
  have hgr2 : W1.grownBy W2 (some (w.heap.size)) := by rw [← hW2]; exact grown_set (grown_refl W1 (w.heap.size)) 1 (_)
  have HS1_2 := Lib.hid (HS1_1.out.grown hgr2 (by omega))
  have HB_2 := Lib.hid (below_grown HB_1.out hgr2 (by omega))
  have hw_2 := HB_2.out.size
  have hws_2 := hgr2.size
  have HYx_2 := Lib.hid (BytesH.grown HYx_1.out HS0_1.out rfl hgr2)
  clear HYx_1
  clear hW2
  clear f0_1 HS0_1 hf0_1 f1_1 HS1_1 hf1_1
  clear hgr2
  have f0_2 := str5 HS0_2.out
  have hl0_2 := HS0_2.out.lt
  have hf0_2 := fun j => HS0_2.out.frozen j
  have f1_2 := str5 HS1_2.out
  have hl1_2 := HS1_2.out.lt
  have hf1_2 := fun j => HS1_2.out.frozen j
  generalize hW3 : (((((W2).setCell ⟨w.heap.size + 1, 0, none⟩ (.int .i64 kd)).setCell ⟨w.heap.size + 1, 1, none⟩ (.slice A1 n1 c1)).setCell ⟨w.heap.size + 1, 2, none⟩ (.int .i64 lo)).setCell ⟨w.heap.size + 1, 3, none⟩ (.int .i64 hi)).setCell ⟨w.heap.size + 1, 4, none⟩ (.int .i64 va) = W3
  have HS1_3 : Hid (Str W3 (w.heap.size + 1) #[.int .i64 kd, .slice A1 n1 c1, .int .i64 lo, .int .i64 hi, .int .i64 va]) := Lib.hid (by rw [← hW3]; have := (((((HS1_2.out).set 0 (.int .i64 kd)).set 1 (.slice A1 n1 c1)).set 2 (.int .i64 lo)).set 3 (.int .i64 hi)).set 4 (.int .i64 va); simpa using this)
  have hgr3 : W2.grownBy W3 (some (w.heap.size + 1)) := by rw [← hW3]; exact grown_set (grown_set (grown_set (grown_set (grown_set (grown_refl W2 (w.heap.size + 1)) 0 (_)) 1 (_)) 2 (_)) 3 (_)) 4 (_)
  have HS0_3 := Lib.hid (HS0_2.out.grown hgr3 (by omega))
  have HB_3 := Lib.hid (below_grown HB_2.out hgr3 (by omega))
  have hw_3 := HB_3.out.size
  have hws_3 := hgr3.size
  have HYx_3 := Lib.hid (BytesH.grown HYx_2.out HS1_2.out rfl hgr3)
  clear HYx_2
  clear hW3
  clear f0_2 HS0_2 hf0_2 f1_2 HS1_2 hf1_2
  clear hgr3
  have f0_3 := str5 HS0_3.out
  have hl0_3 := HS0_3.out.lt
  have hf0_3 := fun j => HS0_3.out.frozen j
  have f1_3 := str5 HS1_3.out
  have hl1_3 := HS1_3.out.lt
  have hf1_3 := fun j => HS1_3.out.frozen j
  exact bodyPost_ret (v := .agg #[.int .i64 kd, .slice A1 n1 c1, .int .i64 lo, .int .i64 hi, .int .i64 va]) (by simp [results, Tryz.results61, go_sem, *]) rfl ⟨A1, n1, c1, rfl, HYx_3.out, HB_3.out⟩
set_option maxRecDepth 100000 in
set_option maxHeartbeats 400000 in
theorem refuse_any (err : Int) (w : World) : Calls Tryz.prog 103 #[.int .i64 err] w fun e w' => e = .returned (.tuple #[.agg #[.int .i64 0, .slice none 0 0, .int .i64 0, .int .i64 0, .int .i64 0, .bool false], .agg #[.int .i64 err, .int .i64 0, .slice none 0 0, .int .i64 0, .int .i64 0, .int .i64 0]]) ∧ Below w.heap.size w w' := by
  go_enter Tryz.func103, Tryz.ntmps103
  go_wp2
  exact bodyPost_ret (v := .tuple #[.agg #[.int .i64 0, .slice none 0 0, .int .i64 0, .int .i64 0, .int .i64 0, .bool false], .agg #[.int .i64 err, .int .i64 0, .slice none 0 0, .int .i64 0, .int .i64 0, .int .i64 0]]) (by simp [results, Tryz.results103, go_sem]) rfl ⟨rfl, balloc (balloc (bsame w) _) _⟩
set_option maxRecDepth 100000 in
set_option maxHeartbeats 400000 in
theorem counter_any (lo hi va : Int) (w : World) : Calls Tryz.prog 104 #[.int .i64 lo, .int .i64 hi, .int .i64 va] w fun e w' => e = .returned (.agg #[.int .i64 2, .slice none 0 0, .int .i64 lo, .int .i64 hi, .int .i64 va, .bool true]) ∧ Below w.heap.size w w' := by
  go_enter Tryz.func104, Tryz.ntmps104
  go_wp2
  exact bodyPost_ret (v := .agg #[.int .i64 2, .slice none 0 0, .int .i64 lo, .int .i64 hi, .int .i64 va, .bool true]) (by simp [results, Tryz.results104, go_sem]) rfl ⟨rfl, balloc (bsame w) _⟩
end Go.Proofs.YtpklclnehlgcpaaGreat.ModelW
end
