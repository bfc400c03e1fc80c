/-
  Parts of the proof of PoolAhead.
-/
import Derived.Test.YtcfieofcnpalgaaGreatAhG7
import Derived.Test.YtcfieofcnpalgaaGreatAhG22
import Derived.Test.YtcfieofcnpalgaaGreatAhG24
import Derived.Test.YtcfieofcnpalgaaGreatAhG10
import Derived.Test.YtcfieofcnpalgaaGreatAhG23
import Derived.Test.YtcfieofcnpalgaaGreatAhG21
import Derived.Test.YtcfieofcnpalgaaGreatAhG20
import Derived.Test.YtcfieofcnpalgaaGreatAhG11
import Derived.Test.YtcfieofcnpalgaaGreatAhG2
section
namespace Go.Proofs.YtcfieofcnpalgaaGreat.Law20
open Go.RowKit PoolW RefDev
set_option linter.unusedVariables false
set_option linter.unusedSimpArgs false
attribute [local go_sem ↓] ldPage_fold stPage_fold bdPage_fold alPage_fold
/-- the device behind so many writings -/
def Bg : Nat → DevX
  | 0 => DevP.new 5
  | i + 1 => DevP.done (DevP.wrote (Bg i) i (PageP.sealed (page i ((i : Int) + 1))))
def Hk (i : Nat) : List (List Int) := (List.range 5).map fun j => if j < i then [(j : Int) + 1] else []
theorem hk_get {i : Nat} (h : i < 4) : (Hk i)[i]? = some [] ∧ (Hk i).set i [(i : Int) + 1] = Hk (i + 1) := by
  have : i = 0 ∨ i = 1 ∨ i = 2 ∨ i = 3 := by omega
  rcases this with rfl | rfl | rfl | rfl <;> exact ⟨rfl, rfl⟩
theorem bg_is : ∀ i : Nat, i ≤ 4 → (Bg i).off = false ∧ (Bg i).fused = false ∧ (Bg i).safe.length = 5 ∧ (Bg i).now.length = 5 ∧ (Bg i).ops = (i : Int) ∧ (Bg i).head = 0 ∧ (Bg i).log = [] ∧ (Bg i).wr = i
  | 0, _ => ⟨rfl, rfl, by simp [Bg, DevP.new], by simp [Bg, DevP.new], rfl, rfl, rfl, rfl⟩
  | i + 1, h => by
    obtain ⟨h1, h2, h3, h4, h5, h6, h7, h8⟩ := bg_is i (by omega)
    refine ⟨h1, h2, h3, ?_, ?_, h6, h7, ?_⟩
    · show ((Bg i).now.set _ _).length = 5; rw [List.length_set]; exact h4
    · show (Bg i).ops + 1 = _; rw [h5]; omega
    · show (Bg i).wr + 1 = _; rw [h8]
theorem bg_small {i : Nat} (h : i ≤ 4) : DevP.Small (Bg i) := by
  obtain ⟨h1, h2, h3, h4, h5, h6, h7, h8⟩ := bg_is i h
  refine ⟨by rw [h5]; omega, by rw [h6, h7]; show (0 : Int) + (0 : Nat) ≤ _; omega, by rw [h8]; omega⟩
theorem bg_write {i : Nat} (h : i < 4) : DevP.op (Bg i) (decide (0 ≤ (i : Int)) && decide ((i : Int) < ((Bg i).safe.length : Nat))) (DevP.wrote (Bg i) (i : Int).toNat (PageP.sealed (page i ((i : Int) + 1)))) = Bg (i + 1) := by
  obtain ⟨h1, h2, h3, h4, h5, h6, h7, h8⟩ := bg_is i (by omega)
  have e : (decide (0 ≤ (i : Int)) && decide ((i : Int) < ((Bg i).safe.length : Nat))) = true := by rw [h3]; simp; omega
  rw [e]
  unfold DevP.op DevP.err
  rw [h1, h2]
  rfl
def begX : DevX := DevP.done (DevP.synced (Bg 4))
theorem beg_sync : DevP.op (Bg 4) true (DevP.synced (Bg 4)) = begX := by
  obtain ⟨h1, h2, h3, h4, h5, h6, h7, h8⟩ := bg_is 4 (by omega)
  unfold DevP.op DevP.err
  rw [h1, h2]
  rfl
/-- the device, and the reference's, in memory -/
structure BK (w wr : World) (rb d : Nat) (db : List Nat) (X : DevX) (k : Int) (As : Option Addr) (cs : Nat) (Ah : Option Addr) (ch : Nat) (H : List (List Int)) : Prop where
  res : Str wr w.heap.size #[.slice none 0 0, .slice none 0 0, .slice none 0 0, .int .i64 0, .int .i64 0, .int .i64 0, .bool false, .int .i64 0]
  box : Str wr rb #[.slice As 5 cs, .slice Ah 5 ch, .slice none 0 0, .int .i64 0, .int .i64 0, .int .i64 (-1), .bool false, .int .i64 k]
  dev : DevW.Dev wr d db X
  lo : ∀ b ∈ db, w.heap.size < b
  rb0 : w.heap.size < rb
  rbn : rb ∉ db
  ints : Elems IntE (off wr (rb :: db)) wr.heap.size As 5 cs [0, 0, 0, 0, 0]
  rows : Elems RowE (off wr (rb :: db)) wr.heap.size Ah 5 ch H
  bel : Below w.heap.size w wr
theorem BK.next {w wr w' : World} {rb d : Nat} {db : List Nat} {X : DevX} {k : Int} {As Ah : Option Addr} {cs ch : Nat} {H : List (List Int)} (h : BK w wr rb d db X k As cs Ah ch H) (hb : Below wr.heap.size wr w') : BK w w' rb d db X k As cs Ah ch H :=
  ⟨h.res.next hb, h.box.next hb, h.dev.below hb, h.lo, h.rb0, h.rbn, (h.ints.sub (off_below (rb :: db) hb)).more hb.size, (h.rows.sub (off_below (rb :: db) hb)).more hb.size, bstep h.bel hb⟩
theorem keep_str {N : Nat} {bl : List Nat} {w w' : World} {b : Nat} {cs : Array Value} (hk : Reg.KeepB N bl w w') (h : Str w b cs) (hb : b < N) (hn : b ∉ bl) : Str w' b cs := by
  obtain ⟨t, ht⟩ := h
  exact ⟨t, (hk.block b hb hn).trans ht⟩
theorem BK.told {w wr w' : World} {rb d : Nat} {db : List Nat} {X X' : DevX} {k : Int} {As Ah : Option Addr} {cs ch : Nat} {H : List (List Int)} {r : Value} {e : Ending} (h : BK w wr rb d db X k As cs Ah ch H) (hT : DevW.Told wr d db X' r e w') : e = .returned r ∧ ∃ db', BK w w' rb d db' X' k As cs Ah ch H := by
  obtain ⟨he, db', h1, h2, h3⟩ := hT
  have hrb : ∀ b ∈ rb :: db', b ∈ rb :: db ∨ wr.heap.size ≤ b := fun b hb => by
    rcases List.mem_cons.1 hb with rfl | hb
    · exact .inl (by simp)
    · exact (h2 b hb).imp (List.mem_cons_of_mem _) id
  refine ⟨he, db', keep_str h3 h.res h.res.lt (fun hm => by have := h.lo _ hm; omega), keep_str h3 h.box h.box.lt h.rbn, h1, fun b hb => (h2 b hb).elim (h.lo b) (fun hb => Nat.lt_of_lt_of_le h.res.lt hb), h.rb0, fun hm => (h2 rb hm).elim h.rbn (fun hb => by have := h.box.lt; omega), ?_, ?_, h.bel.trans (h3.below h.bel.size (fun b hb => Nat.le_of_lt (h.lo b hb)))⟩
  · exact (h.ints.sub (off_keep (fun k hk hn => h3.block k hk (fun hm => hn (List.mem_cons_of_mem _ hm))) hrb)).more h3.size
  · exact (h.rows.sub (off_keep (fun k hk hn => h3.block k hk (fun hm => hn (List.mem_cons_of_mem _ hm))) hrb)).more h3.size
/-- the reference's device is stored -/
theorem BK.store {w wr w' : World} {rb d : Nat} {db : List Nat} {X : DevX} {k k' : Int} {As Ah Ah' : Option Addr} {cs ch ch' : Nat} {H H' : List (List Int)} (h : BK w wr rb d db X k As cs Ah ch H) (hg : wr.grownBy w' (some rb)) (hs : Str w' rb #[.slice As 5 cs, .slice Ah' 5 ch', .slice none 0 0, .int .i64 0, .int .i64 0, .int .i64 (-1), .bool false, .int .i64 k']) (hr : Elems RowE (off wr (rb :: db)) wr.heap.size Ah' 5 ch' H') (hi : Elems IntE (off wr (rb :: db)) wr.heap.size As 5 cs [0, 0, 0, 0, 0]) : BK w w' rb d db X k' As cs Ah' ch' H' := by
  have hb : ∀ k, k < wr.heap.size → k ∉ rb :: db → w'.heap[k]? = wr.heap[k]? := fun k hk hn => hg.block k hk (fun e => hn (by injection e with e; rw [e]; simp))
  have hsub : Sub wr.heap.size (off wr (rb :: db)) (off w' (rb :: db)) := off_keep hb (fun b hb => .inl hb)
  refine ⟨h.res.grown hg (by have := h.rb0; omega), hs, h.dev.at_ (fun b hb => hg.block b (h.dev.lt b hb) (fun e => h.rbn (by injection e with e; rw [← e]; exact hb))), h.lo, h.rb0, h.rbn, (hi.sub hsub).more hg.size, (hr.sub hsub).more hg.size, below_grown h.bel hg (Nat.le_of_lt h.rb0)⟩
theorem heap_drew (V : World) (b : Nat) : V.drew.heap[b]? = V.heap[b]? := rfl
theorem heap_set1 {W V : World} {b b0 : Nat} (hb : b ≠ b0) (h : V.heap[b]? = W.heap[b]?) (i : Nat) (v : Value) : (V.setCell ⟨b0, i, none⟩ v).heap[b]? = W.heap[b]? := (Deep.blk_setCell_other V ⟨b0, i, none⟩ v b hb).trans h
theorem heap_set8 (W : World) (b0 : Nat) (v0 v1 v2 v3 v4 v5 v6 v7 : Value) : ∀ b, b ≠ b0 → ((((((((W.setCell ⟨b0, 0, none⟩ v0).setCell ⟨b0, 1, none⟩ v1).setCell ⟨b0, 2, none⟩ v2).setCell ⟨b0, 3, none⟩ v3).setCell ⟨b0, 4, none⟩ v4).setCell ⟨b0, 5, none⟩ v5).setCell ⟨b0, 6, none⟩ v6).setCell ⟨b0, 7, none⟩ v7).drew.heap[b]? = W.heap[b]? := fun b hb =>
  (heap_drew _ b).trans <| heap_set1 hb (heap_set1 hb (heap_set1 hb (heap_set1 hb (heap_set1 hb (heap_set1 hb (heap_set1 hb (heap_set1 hb ((rfl : W.heap[b]? = W.heap[b]?)) 0 v0) 1 v1) 2 v2) 3 v3) 4 v4) 5 v5) 6 v6) 7 v7
theorem below_set1 {w W : World} (h : Below w.heap.size w W) (i : Nat) (v0 : Value) : Below w.heap.size w (W.setCell ⟨w.heap.size, i, none⟩ v0) := h.setCell (p := ⟨w.heap.size, i, none⟩) (Nat.le_refl w.heap.size) v0
theorem below_set8 {w W : World} (h : Below w.heap.size w W) (v0 v1 v2 v3 v4 v5 v6 v7 : Value) : Below w.heap.size w ((((((((W.setCell ⟨w.heap.size, 0, none⟩ v0).setCell ⟨w.heap.size, 1, none⟩ v1).setCell ⟨w.heap.size, 2, none⟩ v2).setCell ⟨w.heap.size, 3, none⟩ v3).setCell ⟨w.heap.size, 4, none⟩ v4).setCell ⟨w.heap.size, 5, none⟩ v5).setCell ⟨w.heap.size, 6, none⟩ v6).setCell ⟨w.heap.size, 7, none⟩ v7).drew :=
  Below.drew (below_set1 (below_set1 (below_set1 (below_set1 (below_set1 (below_set1 (below_set1 (below_set1 (h) 0 v0) 1 v1) 2 v2) 3 v3) 4 v4) 5 v5) 6 v6) 7 v7)
set_option maxRecDepth 100000 in
set_option maxHeartbeats 1000000 in
theorem new_str (w : World) : Calls Tryz.prog 29 #[.int .i64 5] w fun e w' => ∃ b1 b2, e = .returned (.agg (devV (some ⟨b1, 0, none⟩) 5 5 (some ⟨b2, 0, none⟩) 5 5 0)) ∧ Str w' b1 #[.int .i64 0, .int .i64 0, .int .i64 0, .int .i64 0, .int .i64 0] ∧ Str w' b2 #[.slice none 0 0, .slice none 0 0, .slice none 0 0, .slice none 0 0, .slice none 0 0] ∧ w.heap.size < b1 ∧ w.heap.size < b2 ∧ Below w.heap.size w w' := by
  have hm1 := mk_ints
  have hm2 := mk_rows
  go_enter Tryz.func29, Tryz.ntmps29
  go_wp2_with fail
  go_region
  all_goals go_wp2_with fail
  · exact bodyPost_ret (v := .agg (devV (some ⟨w.heap.size + 1, 0, none⟩) 5 5 (some ⟨w.heap.size + 1 + 1, 0, none⟩) 5 5 0)) (by simp [results, Tryz.results29, go_sem, devV, *]) rfl ⟨_, _, rfl, (new_two _ _ _ _ _ _).1, (new_two _ _ _ _ _ _).2.1, by omega, by omega, (new_two _ _ _ _ _ _).2.2⟩
  · exact bodyPost_ret (v := .agg (devV (some ⟨w.heap.size + 1 + 1, 0, none⟩) 5 5 (some ⟨w.heap.size + 1, 0, none⟩) 5 5 0)) (by simp [results, Tryz.results29, go_sem, devV, *]) rfl ⟨_, _, rfl, (new_two _ _ _ _ _ _).2.1, (new_two _ _ _ _ _ _).1, by omega, by omega, (new_two _ _ _ _ _ _).2.2⟩
theorem ints_off {w : World} {b : Nat} {db : List Nat} (h : Str w b #[.int .i64 0, .int .i64 0, .int .i64 0, .int .i64 0, .int .i64 0]) (hb : b ∉ db) : Elems IntE (off w db) w.heap.size (some ⟨b, 0, none⟩) 5 5 [0, 0, 0, 0, 0] :=
  ⟨[[.int .i64 0], [.int .i64 0], [.int .i64 0], [.int .i64 0], [.int .i64 0]], ⟨rfl, rfl, rfl, rfl, rfl, trivial⟩, rfl, Nat.le_refl _, by unfold maxLen; omega, fun _ => ⟨b, 0, rfl, h.lt, fun j v hv => by
    rw [Nat.zero_add, off_str h hb]
    simpa using hv⟩⟩
theorem rows_off {w : World} {b : Nat} {db : List Nat} (h : Str w b #[.slice none 0 0, .slice none 0 0, .slice none 0 0, .slice none 0 0, .slice none 0 0]) (hb : b ∉ db) : Elems RowE (off w db) w.heap.size (some ⟨b, 0, none⟩) 5 5 [[], [], [], [], []] :=
  rows_of h hb rfl (Nat.le_refl _) (by unfold maxLen; omega) (by simp) (fun j x hj => by
    have h5 : j < 5 := by have := (List.getElem?_eq_some_iff.1 hj).1; simpa using this
    have : j = 0 ∨ j = 1 ∨ j = 2 ∨ j = 3 ∨ j = 4 := by omega
    rcases this with rfl | rfl | rfl | rfl | rfl <;> (cases hj; exact ⟨none, 0, 0, rfl, Elems.none_ _ _ _⟩))
set_option maxRecDepth 100000 in
set_option maxHeartbeats 4000000 in
theorem begin_any (w : World) : Calls Tryz.prog 6 #[] w fun e w' => ∃ d db A n c A' n' c' k, e = .returned (.tuple #[.pointer (some ⟨d, 0, none⟩), .agg (devV A n c A' n' c' k)]) ∧ DevW.Dev w' d db begX ∧ (∀ b ∈ db, w.heap.size ≤ b) ∧ Below w.heap.size w w' := by
  have hal := fun W => run_al (P := Tryz.prog) arrPage W
  go_enter Tryz.func6, Tryz.ntmps6
  go_wp2_with fail
  obtain ⟨W0, hW0⟩ : ∃ W, w.alloc (.cells #[.slice none 0 0, .slice none 0 0, .slice none 0 0, .int .i64 0, .int .i64 0, .int .i64 0, .bool false, .int .i64 0] 29) = W := ⟨_, rfl⟩
  rw [hW0]
  have hs0 : Str W0 w.heap.size #[.slice none 0 0, .slice none 0 0, .slice none 0 0, .int .i64 0, .int .i64 0, .int .i64 0, .bool false, .int .i64 0] := by rw [← hW0]; exact Str.new _ _ _
  have hb0 : Below w.heap.size w W0 := by rw [← hW0]; exact balloc (bsame w) _
  clear hW0
  refine (DevW.new_any 5 W0).mono ?_
  rintro e W1 ⟨d, db1, rfl, hD1, hn1, hb1⟩
  have hD1 : DevW.Dev W1 d db1 (DevP.new 5) := hD1
  have hl0 := hs0.lt
  go_wp2_with fail
  refine (new_str W1).mono ?_
  rintro e W2 ⟨b1, b2, rfl, h1, h2, hl1, hl2, hb2⟩
  unfold devV
  have hb12 := bstep hb1 hb2
  have hs1 := hb1.size
  have hs2 := hb2.size
  go_wp2_with fail
  generalize hW3 : W2.alloc (.cells #[.slice (some ⟨b1, 0, none⟩) 5 5, .slice (some ⟨b2, 0, none⟩) 5 5, .slice none 0 0, .int .i64 0, .int .i64 0, .int .i64 (-1), .bool false, .int .i64 0] 29) = W3
  have hb3 : Below W2.heap.size W2 W3 := by rw [← hW3]; exact balloc (bsame _) _
  have hs3 : Str W3 W2.heap.size #[.slice (some ⟨b1, 0, none⟩) 5 5, .slice (some ⟨b2, 0, none⟩) 5 5, .slice none 0 0, .int .i64 0, .int .i64 0, .int .i64 (-1), .bool false, .int .i64 0] := by rw [← hW3]; exact Str.new _ _ _
  have hl3 := hs3.lt
  have hn : W2.heap.size ∉ db1 := fun hm => by have := hD1.lt _ hm; omega
  have HK0 : Hid (BK w W3 W2.heap.size d db1 (Bg 0) ((0 : Nat) : Int) (some ⟨b1, 0, none⟩) 5 (some ⟨b2, 0, none⟩) 5 (Hk 0)) := Lib.hid (by
    have hm1 : b1 ∉ W2.heap.size :: db1 := fun hm => by
      rcases List.mem_cons.1 hm with e | hm
      · have := h1.lt; omega
      · have := hD1.lt _ hm; omega
    have hm2 : b2 ∉ W2.heap.size :: db1 := fun hm => by
      rcases List.mem_cons.1 hm with e | hm
      · have := h2.lt; omega
      · have := hD1.lt _ hm; omega
    exact ⟨(hs0.next hb12).next hb3, hs3, (hD1.below hb2).below hb3, fun b hb => by have := hn1 b hb; omega, by omega, hn, ints_off (h1.next hb3) hm1, rows_off (h2.next hb3) hm2, (bstep (bstep hb0 hb12) hb3)⟩)
  have hl9 : w.heap.size < W2.heap.size := by omega
  clear hW3 hb3 hs3 hl3 hn h1 h2 hl1 hl2 hb2 hb12 hs1 hs2 hb1 hn1 hb0 hs0 hD1 hl0
  generalize W2.heap.size = rb at *
  go_loopw [4] (fun iv wr => ∃ (i : Nat) (db : List Nat) (Ah : Option Addr) (ch : Nat), i ≤ 4 ∧ iv = .int .i64 (i : Int) ∧ Hid (BK w wr rb d db (Bg i) ((i : Nat) : Int) (some ⟨b1, 0, none⟩) 5 Ah ch (Hk i))) (fun iv _ => 4 - (intOf iv).toNat)
  case atStart => exact ⟨0, db1, _, _, by omega, rfl, HK0⟩
  case round =>
    obtain ⟨i, db, Ah, ch, hi, rfl, HK⟩ := hrel
    clear HK0
    by_cases hlt : i < 4
    · have hd : decide ((i : Int) < 4) = true := by simp; omega
      have hwi : wrap64 ((i : Int) + 1) = (i : Int) + 1 := IntWalk.wrap64_in _ (by omega)
      have hPL := page_len (i : Int) ((i : Int) + 1)
      go_wp2_with fail
      refine (of_any (i : Int) ((i : Int) + 1) (by omega) (by omega) wr).mono ?_
      rintro e W1 ⟨rfl, hb1⟩
      have HK1 := Lib.hid (HK.out.next hb1)
      clear hb1 HK
      go_wp2_with fail
      refine (PageW.sealed_any _ hPL W1).mono ?_
      rintro e W2 ⟨rfl, hb2⟩
      have HK2 := Lib.hid (HK1.out.next hb2)
      clear hb2 HK1
      go_wp2_with fail
      refine (DevW.Write_any (i : Int) _ (PageP.sealed_length _ hPL) W2 HK2.out.dev (bg_small (by omega))).mono ?_
      rintro e W3 hT
      rw [bg_write hlt] at hT
      obtain ⟨rfl, db3, hK3⟩ := HK2.out.told hT
      have HK3 := Lib.hid hK3
      clear hK3 hT HK2
      have f3 := str8 HK3.out.box
      have hl3 := HK3.out.box.lt
      have hz3 := fun j => HK3.out.box.frozen j
      go_wp2_with fail
      refine (go_write (some ⟨b1, 0, none⟩) 5 5 Ah 5 ch (i : Int) ((i : Int) + 1) i (Hk i) W3 (rb :: db3) (Lib.hid (fun b hb => by
        rcases List.mem_cons.1 hb with rfl | hb
        · exact HK3.out.box.lt
        · exact HK3.out.dev.lt b hb)) (Lib.hid HK3.out.rows) (by omega) (by omega) (by omega) (by omega) (by omega) (hk_get hlt).1).mono ?_
      rintro e W4 ⟨A4, c4, rfl, hr4, hb4⟩
      rw [(hk_get hlt).2] at hr4
      unfold devV
      have HK4 := Lib.hid (HK3.out.next hb4)
      have HI4 := Lib.hid HK4.out.ints
      have HR4 := Lib.hid hr4
      clear hb4 hr4 HK3 f3 hl3 hz3
      have f4 := str8 HK4.out.box
      have hl4 := HK4.out.box.lt
      have hz4 := fun j => HK4.out.box.frozen j
      have key : ∀ W5, ((((((((W4).setCell ⟨rb, 0, none⟩ (.slice (some ⟨b1, 0, none⟩) 5 5)).setCell ⟨rb, 1, none⟩ (.slice A4 5 c4)).setCell ⟨rb, 2, none⟩ (.slice none 0 0)).setCell ⟨rb, 3, none⟩ (.int .i64 0)).setCell ⟨rb, 4, none⟩ (.int .i64 0)).setCell ⟨rb, 5, none⟩ (.int .i64 (-1))).setCell ⟨rb, 6, none⟩ (.bool false)).setCell ⟨rb, 7, none⟩ (.int .i64 ((i : Int) + 1)) = W5 → Hid (BK w W5 rb d db3 (Bg (i + 1)) ((i + 1 : Nat) : Int) (some ⟨b1, 0, none⟩) 5 A4 c4 (Hk (i + 1))) := fun W5 h5 => Lib.hid (by
        have hg : W4.grownBy W5 (some rb) := by rw [← h5]; exact grown_set (grown_set (grown_set (grown_set (grown_set (grown_set (grown_set (grown_set (grown_refl W4 rb) 0 _) 1 _) 2 _) 3 _) 4 _) 5 _) 6 _) 7 _
        have hs : Str W5 rb #[.slice (some ⟨b1, 0, none⟩) 5 5, .slice A4 5 c4, .slice none 0 0, .int .i64 0, .int .i64 0, .int .i64 (-1), .bool false, .int .i64 ((i : Int) + 1)] := by rw [← h5]; have := ((((((((HK4.out.box).set 0 (.slice (some ⟨b1, 0, none⟩) 5 5)).set 1 (.slice A4 5 c4)).set 2 (.slice none 0 0)).set 3 (.int .i64 0)).set 4 (.int .i64 0)).set 5 (.int .i64 (-1))).set 6 (.bool false)).set 7 (.int .i64 ((i : Int) + 1)); simpa using this
        exact HK4.out.store hg (by rw [show ((i + 1 : Nat) : Int) = (i : Int) + 1 from by omega]; exact hs) HR4.out HI4.out)
      go_wp2_with fail
      generalize hW5 : ((((((((W4).setCell ⟨rb, 0, none⟩ (.slice (some ⟨b1, 0, none⟩) 5 5)).setCell ⟨rb, 1, none⟩ (.slice A4 5 c4)).setCell ⟨rb, 2, none⟩ (.slice none 0 0)).setCell ⟨rb, 3, none⟩ (.int .i64 0)).setCell ⟨rb, 4, none⟩ (.int .i64 0)).setCell ⟨rb, 5, none⟩ (.int .i64 (-1))).setCell ⟨rb, 6, none⟩ (.bool false)).setCell ⟨rb, 7, none⟩ (.int .i64 ((i : Int) + 1)) = W5
      have HK5 := key W5 hW5
      clear key hW5 f4 hl4 hz4 HK4 HI4 HR4
      go_roundw
      case rel => exact ⟨i + 1, db3, A4, c4, by omega, by go_num, HK5⟩
      case measure => simp [intOf]; omega
    · have hd : decide ((i : Int) < 4) = false := by simp; omega
      obtain rfl : i = 4 := by omega
      go_wp2_with fail
      refine (DevW.Sync_any wr HK.out.dev (bg_small (by omega)).1).mono ?_
      rintro e W3 hT
      rw [beg_sync] at hT
      obtain ⟨rfl, db3, hK3⟩ := HK.out.told hT
      have HK3 := Lib.hid hK3
      clear hK3 hT HK
      have f3 := str8 HK3.out.box
      have hl3 := HK3.out.box.lt
      have hz3 := fun j => HK3.out.box.frozen j
      go_wp2_with fail
      refine (go_sync (some ⟨b1, 0, none⟩) 5 Ah ch ((4 : Nat) : Int) _ (Hk 4) W3 (Lib.hid (HK3.out.ints.sub (off_sub _ _ _))) (Lib.hid (HK3.out.rows.sub (off_sub _ _ _))) (by omega) (by omega)).mono ?_
      rintro e W4 ⟨A5, n5, c5, A6, n6, c6, rfl, hb4⟩
      unfold devV
      have HK4 := Lib.hid (HK3.out.next hb4)
      clear hb4 HK3 f3 hl3 hz3
      have f4 := str8 HK4.out.box
      have hl4 := HK4.out.box.lt
      have hz4 := fun j => HK4.out.box.frozen j
      have g4 := str8 HK4.out.res
      have hl5 := HK4.out.res.lt
      have hz5 := fun j => HK4.out.res.frozen j
      have hrb := HK4.out.rb0
      go_wp2_with fail
      generalize hW5 : ((((((((W4).setCell ⟨rb, 0, none⟩ (.slice A5 n5 c5)).setCell ⟨rb, 1, none⟩ (.slice A6 n6 c6)).setCell ⟨rb, 2, none⟩ (.slice none 0 0)).setCell ⟨rb, 3, none⟩ (.int .i64 0)).setCell ⟨rb, 4, none⟩ (.int .i64 0)).setCell ⟨rb, 5, none⟩ (.int .i64 (-1))).setCell ⟨rb, 6, none⟩ (.bool false)).setCell ⟨rb, 7, none⟩ (.int .i64 5) = W5
      have hg : W4.grownBy W5 (some rb) := by rw [← hW5]; exact grown_set (grown_set (grown_set (grown_set (grown_set (grown_set (grown_set (grown_set (grown_refl W4 rb) 0 _) 1 _) 2 _) 3 _) 4 _) 5 _) 6 _) 7 _
      have hs : Str W5 rb #[.slice A5 n5 c5, .slice A6 n6 c6, .slice none 0 0, .int .i64 0, .int .i64 0, .int .i64 (-1), .bool false, .int .i64 5] := by rw [← hW5]; have := ((((((((HK4.out.box).set 0 (.slice A5 n5 c5)).set 1 (.slice A6 n6 c6)).set 2 (.slice none 0 0)).set 3 (.int .i64 0)).set 4 (.int .i64 0)).set 5 (.int .i64 (-1))).set 6 (.bool false)).set 7 (.int .i64 5); simpa using this
      have hrbn := HK4.out.rbn
      have hD5 : Hid (DevW.Dev W5 d db3 begX) := Lib.hid (HK4.out.dev.at_ (fun b hb => hg.block b (HK4.out.dev.lt b hb) (fun e => hrbn (by injection e with e; rw [← e]; exact hb))))
      have hr5 := HK4.out.res.grown hg (by omega)
      have hb5 := below_grown HK4.out.bel hg (Nat.le_of_lt hrb)
      have HR5 := Lib.hid hr5
      have HB5 := Lib.hid hb5
      have HLO := Lib.hid HK4.out.lo
      have f5 := str8 hs
      have g5 := str8 hr5
      have hl6 := hs.lt
      have hl7 := hr5.lt
      have hz6 := fun j => hr5.frozen j
      have hfin : ∀ W6, Below w.heap.size w W6 → (∀ b, b ≠ w.heap.size → W6.heap[b]? = W5.heap[b]?) → ∃ d' db A n c A' n' c' k, Ending.returned (.tuple #[.pointer (some ⟨d, 0, none⟩), .agg (devV A5 n5 c5 A6 n6 c6 5)]) = .returned (.tuple #[.pointer (some ⟨d', 0, none⟩), .agg (devV A n c A' n' c' k)]) ∧ DevW.Dev W6 d' db begX ∧ (∀ b ∈ db, w.heap.size ≤ b) ∧ Below w.heap.size w W6 := fun W6 h1 h2 => by
        refine ⟨d, db3, _, _, _, _, _, _, _, rfl, hD5.out.at_ (fun b hb => h2 b (by have := HLO.out b hb; omega)), fun b hb => Nat.le_of_lt (HLO.out b hb), h1⟩
      clear hW5 hg hs hr5 hb5 f4 g4 hl4 hl5 hz4 hz5 HK4
      go_region
      all_goals go_wp2_with fail
      refine bodyPost_ret (v := .tuple #[.pointer (some ⟨d, 0, none⟩), .agg (devV A5 n5 c5 A6 n6 c6 5)]) (by simp [results, Tryz.results6, go_sem, devV, *]) rfl (hfin _ ?_ ?_)
      · exact below_set8 HB5.out _ _ _ _ _ _ _ _
      · exact heap_set8 _ _ _ _ _ _ _ _ _ _

end Go.Proofs.YtcfieofcnpalgaaGreat.Law20
end
section
namespace Go.Proofs.YtcfieofcnpalgaaGreat
open Go.RowKit
set_option linter.unusedVariables false
set_option linter.unusedSimpArgs false
namespace PoolW
/-- the call hands back a new pool -/
def GivesPool (w : World) (d lg : Nat) (db : List Nat) (S : PoolX) (e : Ending) (w' : World) : Prop := ∃ p, e = .returned (.pointer (some ⟨p, 0, none⟩)) ∧ w.heap.size ≤ p ∧ Pool w' p d lg (p :: lg :: db) S ∧ Below w.heap.size w w'
theorem new_pool {w : World} {d lg : Nat} {db : List Nat} {X : DevX} {far n : Int} (hD : DevW.Dev w d db X) (hL : Str w lg #[.int .i64 far]) (hN : (lg :: db).Nodup) (T : TypeId) :
    GivesPool w d lg db ⟨X, far, n, []⟩ (.returned (.pointer (some ⟨w.heap.size, 0, none⟩))) (w.alloc (.cells (poolC d lg n none 0 0) T)) := by
  have hb : Below w.heap.size w (w.alloc (.cells (poolC d lg n none 0 0) T)) := balloc (bsame w) _
  refine ⟨w.heap.size, rfl, Nat.le_refl _, ⟨none, 0, 0, [], db, ⟨Str.new _ _ _, OwnE.none_ _ _ _ _, ⟨rfl, fun i b f h => by simp at h, fun f h => by cases h⟩, by simp, by omega⟩, hD.below hb, hL.next hb, ?_, by simp [blocks]⟩, hb⟩
  have h1 : w.heap.size ∉ lg :: db := fun hm => by
    rcases List.mem_cons.1 hm with h | h
    · have := hL.lt; omega
    · have := hD.lt _ h; omega
  simpa [blocks] using (List.nodup_cons.2 ⟨h1, hN⟩)
set_option maxRecDepth 100000 in
set_option maxHeartbeats 1000000 in
theorem new_low (n : Int) (d lg : Nat) (db : List Nat) (X : DevX) (far : Int) (w : World) (hD : DevW.Dev w d db X) (hL : Str w lg #[.int .i64 far]) (hN : (lg :: db).Nodup) (h1 : n < 1) :
    Calls Tryz.prog 7 #[.pointer (some ⟨d, 0, none⟩), .iface 32 (.pointer (some ⟨lg, 0, none⟩)), .int .i64 n] w (GivesPool w d lg db ⟨X, far, 1, []⟩) := by
  have HG := Lib.hid (new_pool (n := 1) hD hL hN 72)
  clear hD hL hN
  have d1 : decide (n < 1) = true := by simpa using h1
  go_enter Tryz.func7, Tryz.ntmps7
  go_wp2_with fail
  go_ret
  exact HG.out
set_option maxRecDepth 100000 in
set_option maxHeartbeats 1000000 in
theorem new_high (n : Int) (d lg : Nat) (db : List Nat) (X : DevX) (far : Int) (w : World) (hD : DevW.Dev w d db X) (hL : Str w lg #[.int .i64 far]) (hN : (lg :: db).Nodup) (h1 : 64 < n) :
    Calls Tryz.prog 7 #[.pointer (some ⟨d, 0, none⟩), .iface 32 (.pointer (some ⟨lg, 0, none⟩)), .int .i64 n] w (GivesPool w d lg db ⟨X, far, 64, []⟩) := by
  have HG := Lib.hid (new_pool (n := 64) hD hL hN 72)
  clear hD hL hN
  have d1 : decide (n < 1) = false := by simp; omega
  have d2 : decide (64 < n) = true := by simpa using h1
  go_enter Tryz.func7, Tryz.ntmps7
  go_wp2_with fail
  go_ret
  exact HG.out
set_option maxRecDepth 100000 in
set_option maxHeartbeats 1000000 in
theorem new_mid (n : Int) (d lg : Nat) (db : List Nat) (X : DevX) (far : Int) (w : World) (hD : DevW.Dev w d db X) (hL : Str w lg #[.int .i64 far]) (hN : (lg :: db).Nodup) (h1 : ¬ n < 1) (h2 : ¬ 64 < n) :
    Calls Tryz.prog 7 #[.pointer (some ⟨d, 0, none⟩), .iface 32 (.pointer (some ⟨lg, 0, none⟩)), .int .i64 n] w (GivesPool w d lg db ⟨X, far, n, []⟩) := by
  have HG := Lib.hid (new_pool (n := n) hD hL hN 72)
  clear hD hL hN
  have d1 : decide (n < 1) = false := by simpa using h1
  have d2 : decide (64 < n) = false := by simpa using h2
  go_enter Tryz.func7, Tryz.ntmps7
  go_wp2_with fail
  go_ret
  exact HG.out
theorem new_any (n : Int) (d lg : Nat) (db : List Nat) (X : DevX) (far : Int) (w : World) (hD : DevW.Dev w d db X) (hL : Str w lg #[.int .i64 far]) (hN : (lg :: db).Nodup) :
    Calls Tryz.prog 7 #[.pointer (some ⟨d, 0, none⟩), .iface 32 (.pointer (some ⟨lg, 0, none⟩)), .int .i64 n] w (GivesPool w d lg db ⟨X, far, min (max n 1) 64, []⟩) := by
  by_cases h1 : n < 1
  · rw [show min (max n 1) 64 = (1 : Int) by omega]; exact new_low n d lg db X far w hD hL hN h1
  · by_cases h2 : 64 < n
    · rw [show min (max n 1) 64 = (64 : Int) by omega]; exact new_high n d lg db X far w hD hL hN h2
    · rw [show min (max n 1) 64 = n by omega]; exact new_mid n d lg db X far w hD hL hN h1 h2
end PoolW
end Go.Proofs.YtcfieofcnpalgaaGreat
end
section
namespace Go.Proofs.YtcfieofcnpalgaaGreat
open Go.RowKit
set_option linter.unusedVariables false
set_option linter.unusedSimpArgs false
namespace PoolW
attribute [local go_sem ↓] app_fold
/-- the call hands back a slice of numbers -/
def GivesInts (w : World) (l : List Int) (e : Ending) (w' : World) : Prop := ∃ A n c, e = .returned (.slice A n c) ∧ OwnE IntE 3 w' w.heap.size A n c l ∧ Below w.heap.size w w'
variable {p d lg m c : Nat} {n : Int} {A : Option Addr} {L : List Nat} {F : List Fr}
set_option maxRecDepth 100000 in
set_option maxHeartbeats 1000000 in
theorem in_at (w : World) (h : In w p d lg n A m c L F) :
    Calls Tryz.prog 28 #[.pointer (some ⟨p, 0, none⟩)] w (GivesInts w (F.map (·.no))) := by
  obtain ⟨i0, hi0, hz0, hz1, hz2⟩ := info_parts infoI
  have HI0 := Lib.hid hi0
  have g0 := str4 (show Str w p #[.pointer (some ⟨d, 0, none⟩), .iface 32 (.pointer (some ⟨lg, 0, none⟩)), .int .i64 n, .slice A m c] from h.box)
  have hlp := h.box.lt
  have hm100 := h.m100
  have hlen := h.row.len
  have H := Lib.hid h
  clear h hi0
  go_enter Tryz.func28, Tryz.ntmps28
  go_wp2
  go_loopw [3, 13] (fun sv iv wr => ∃ (k q cq : Nat) (B : Option Addr), k ≤ m ∧ q ≤ k ∧ iv = .int .i64 (k : Int) ∧ sv = .slice B q cq ∧ Hid (OwnE IntE 3 wr w.heap.size B q cq ((F.take k).map (·.no)) ∧ Below w.heap.size w wr)) (fun _ iv _ => m - (intOf iv).toNat)
  case atStart => exact ⟨0, 0, 0, none, Nat.zero_le _, Nat.le_refl _, rfl, rfl, Lib.hid ⟨OwnE.none_ _ _ _ _, bsame w⟩⟩
  case round =>
    obtain ⟨k, q, cq, B, hk, hqk, rfl, rfl, HK⟩ := hrel
    have HB := Lib.hid HK.out.2
    have hsz := HB.out.size
    by_cases hlt : k < m
    · have hd : decide ((k : Int) < (m : Int)) = true := by simp; omega
      have HR := Lib.hid (H.out.next HB.out)
      obtain ⟨b, o, x, rfl, hb, hx, q0⟩ := ptr_at HR.out.row.elems hlt
      obtain ⟨f, hf⟩ : ∃ f, F[k]? = some f := ⟨_, List.getElem?_eq_getElem (by rw [← H.out.frs.len, hlen]; exact hlt)⟩
      have hsx := HR.out.frs.str k x f hx hf
      have hok := H.out.frs.ok f (List.mem_of_getElem? hf)
      obtain ⟨q1, q2, q3⟩ := fr_cells hsx hok.x
      have HF := Lib.hid hf
      have hlx := hsx.lt
      clear hf hx hsx hok q3
      have hb1 : Below wr.heap.size wr (wr.alloc (.cells #[.int .i64 f.no] 3)) := balloc (bsame wr) _
      have hO1 := HK.out.1.next hb1
      obtain ⟨B2, cq2, w3, happ, hO3, hb3, hg3, hA3⟩ := hO1.app (P := Tryz.prog) 25 25 i0 _ 8 Tryz.underlying25 HI0.out hz0 hz1 hz2 rfl (IntE.lit (wr := hid B (wr.alloc (.cells #[.int .i64 f.no] 3))) (x := f.no) (Str.new wr _ _)) (by unfold maxLen; omega) (by omega) (by simp; omega)
      have HB3 := Lib.hid ((HB.out.trans (hb1.mono hsz)).trans (hb3.mono (by omega)))
      have HO3 := Lib.hid hO3
      clear hb1 hO1 hO3 hb3 hg3 hA3
      go_wp2
      go_roundw
      case rel => exact ⟨k + 1, q + 1, cq2, B2, by omega, by omega, by go_num, rfl, Lib.hid ⟨by have h := HO3.out; rwa [show ((F.take k).map (·.no)) ++ [f.no] = (F.take (k + 1)).map (·.no) from by rw [List.take_add_one, HF.out, List.map_append]; rfl] at h, HB3.out⟩⟩
      case measure => simp [intOf]; omega
    · have hd : decide ((k : Int) < (m : Int)) = false := by simp; omega
      have hkm : k = m := by omega
      subst hkm
      have HK2 : Hid (OwnE IntE 3 wr w.heap.size B q cq (F.map (·.no))) := Lib.hid (by have h := HK.out.1; rwa [List.take_of_length_le (by rw [← H.out.frs.len, hlen]; exact Nat.le_refl _)] at h)
      clear HK
      go_wp2
      go_ret
      exact ⟨B, q, cq, rfl, HK2.out, HB.out⟩
end PoolW
end Go.Proofs.YtcfieofcnpalgaaGreat
end
