/-
  Parts of the proof of PlanGrows.
-/
import Derived.Test.YtpklclnehlgcpaaGreatPlanG3
import Derived.Test.YtpklclnehlgcpaaGreatPlanG5
import Derived.Laws.EntriesVeiled
section
namespace Go.Proofs.YtpklclnehlgcpaaGreat
open Go.RowKit Go.Shelf
set_option linter.unusedVariables false
set_option linter.unusedSimpArgs false
/-! a block that is no cells turns: rows stand -/
theorem nocell {w : World} {r : Nat} {o : Obj} (h : w.heap[r]? = some o) (hc : o.isCells = false) (p : Addr) (hp : p.block = r) : w.cell? p = none := by
  unfold World.cell?
  rw [hp, h]
  cases o <;> simp_all [Obj.isCells]
theorem sub_grownN {w w' : World} {row : Option Nat} (A : Option Addr) (hg : w.grownBy w' row) (hr : ∀ r, row = some r → ∃ o : Obj, w.heap[r]? = some o ∧ o.isCells = false) : Sub w.heap.size (hid A w) (hid A w') := by
  have key : ∀ (p : Addr) (v : Value), p.block < w.heap.size → w.cell? p = some v → w'.cell? p = some v := fun p v hp hv => by
    by_cases e : row = some p.block
    · obtain ⟨o, ho, hc⟩ := hr _ e
      rw [nocell ho hc p rfl] at hv; cases hv
    · exact (World.cell?_of_block (a := p) (hg.block p.block hp (fun h => e h.symm))).trans hv
  cases A with
  | none => exact key
  | some a =>
    intro p v hp hv
    by_cases e : p.block = a.block
    · have : (hide w a.block).cell? p = none := by rw [← e]; exact hide_none w p
      change (hide w a.block).cell? p = _ at hv
      rw [this] at hv; cases hv
    · change (hide w a.block).cell? p = _ at hv
      rw [hide_other w a.block p e] at hv
      show (hide w' a.block).cell? p = _
      rw [hide_other w' a.block p e]
      refine key p v ?_ hv
      have : (hide w a.block).heap.size = w.heap.size := hide_size w a.block
      omega
theorem OwnE.grownN {α : Type} {E : El α} {T : TypeId} {w w' : World} {base n c : Nat} {A : Option Addr} {l : List α} {row : Option Nat} (h : OwnE E T w base A n c l) (hg : w.grownBy w' row) (hr : ∀ r, row = some r → ∃ o : Obj, w.heap[r]? = some o ∧ o.isCells = false) : OwnE E T w' base A n c l := by
  obtain ⟨vs, h1, h2⟩ := h
  refine ⟨vs, ⟨h1.1, ?_⟩, h2.imp fun _ _ q => E.more hg.size (E.sub (sub_grownN A hg hr) q)⟩
  rcases h1.2 with h3 | ⟨g', cap, cur, hv, hb, hh, r⟩
  · exact .inl h3
  · refine .inr ⟨g', cap, cur, hv, hb, (hg.block g' (Array.getElem?_eq_some_iff.1 hh).1 (fun e => ?_)).trans hh, r⟩
    obtain ⟨o, ho, hc⟩ := hr _ e.symm
    rw [hh] at ho
    cases ho
    cases hc
theorem Str.grownN {w w' : World} {b : Nat} {cs : Array Value} {row : Option Nat} (h : Str w b cs) (hg : w.grownBy w' row) (hr : ∀ r, row = some r → ∃ o : Obj, w.heap[r]? = some o ∧ o.isCells = false) : Str w' b cs := by
  refine h.grownO hg fun e => ?_
  obtain ⟨t, ht⟩ := h
  obtain ⟨o, ho, hc⟩ := hr _ e
  rw [ht] at ho
  cases ho
  cases hc
namespace DiffW
theorem unlike_any (a b : List UInt8) (w : World) :
    Calls Tryz.prog 46 #[.agg (rowV a), .agg (rowV b)] w fun e w' => e = .returned (.func (.func 63) #[] #[.pointer (some ⟨w.heap.size, 0, none⟩), .pointer (some ⟨w.heap.size + 1, 0, none⟩)]) ∧
      Str w' w.heap.size (rowV a) ∧ Str w' (w.heap.size + 1) (rowV b) ∧ Below w.heap.size w w' ∧ w'.heap.size = w.heap.size + 2 := by
  go_enter Tryz.func46, Tryz.ntmps46
  go_wp2
  go_ret
  refine ⟨rfl, (Str.new w _ _).alloc _, ?_, balloc (balloc (bsame w) _) _, by simp⟩
  have := Str.new (w.alloc (.cells (rowV a) 30)) (rowV b) 30
  simpa using this
theorem unlike_stops (n : Nat) (hn : 1 ≤ n) (Ba Bb : Nat) (a b : List UInt8) (ha : a.length = 512) (hb : b.length = 512) (w : World) (hA : Str w Ba (rowV a)) (hB : Str w Bb (rowV b)) :
    SeqStopsK Fence.wide n Tryz.prog 63 #[.pointer (some ⟨Ba, 0, none⟩), .pointer (some ⟨Bb, 0, none⟩)] (fun x : Nat => #[.int .i64 ((DiffP.place x : Nat) : Int)]) (KpP Ba Bb) (fun ys => ys = DiffP.places a b 500) (fun _ => True) 500 w := fun l J Jx W hW hJ _ hY h0 =>
  (unlike1_in n hn l Ba Bb a b ha hb J Jx hY (fun pre X Y hs hxy => hJ pre X Y none hs (grown_below hxy none) (fun r e => by cases e)) W (hA.next hW) (hB.next hW) h0).mono fun e W' ⟨h1, h2⟩ => ⟨h1, h2.imp id fun ⟨pre, h⟩ => ⟨pre, trivial, h⟩⟩
theorem runE_byt : El.Byt RunE := fun hs ⟨A, n, c, e, h, r⟩ => ⟨A, n, c, e, h.subU hs, r⟩
theorem own_cells {α : Type} {E : El α} {T : TypeId} {w : World} {base n c : Nat} {ad : Addr} {l : List α} (h : OwnE E T w base (some ad) n c l) : ∃ cur, w.heap[ad.block]? = some (.cells cur T (0, 0)) := by
  obtain ⟨vs, h1, -⟩ := h
  rcases h1.2 with ⟨e, -⟩ | ⟨g, cap, cur, e, -, hh, -⟩
  · cases e
  · cases e
    exact ⟨cur, hh⟩
theorem not_row {α : Type} {E : El α} {T : TypeId} {w : World} {base n c k : Nat} {A : Option Addr} {l : List α} {o : Obj} (h : OwnE E T w base A n c l) (hk : w.heap[k]? = some o) (hc : o.isCells = false) : k ∉ (A.map (·.block)).toList := by
  intro hm
  obtain ⟨a, rfl, e⟩ := Option.map_eq_some_iff.1 (Option.mem_toList.1 hm)
  obtain ⟨cur, hh⟩ := own_cells h
  rw [e, hk] at hh
  cases hh
  cases hc
/-- what holds between two rounds -/
structure DI (N : Nat) (w : World) (base tB fB oB bB cB : Nat) (b : List UInt8) (FV : Value) (pre : List Nat) (W : World) : Prop where
  box : ∃ A n c, Box W base tB fB oB bB b (DiffP.run b pre) A n c
  fn : Str W cB #[FV]
  bel : Below N w W
  sz : base ≤ W.heap.size
theorem di_own {N base tB fB oB bB cB B : Nat} {w : World} {b : List UInt8} {FV : Value} (hN : N ≤ w.heap.size) (hB : N ≤ B) : OwnFrom B (DI N w base tB fB oB bB cB b FV) := fun s X Y row h hg hr => by
  have hr' : ∀ r, row = some r → ∃ o : Obj, X.heap[r]? = some o ∧ o.isCells = false := fun r e => (hr r e).2
  obtain ⟨⟨A, n, c, hx⟩, h1, h2, h3⟩ := h
  exact ⟨⟨A, n, c, ⟨hx.t.grownN hg hr', hx.f.grownN hg hr', hx.o.grownN hg hr', hx.p.grownN hg hr', hx.e.grownN hg hr'⟩⟩, h1.grownN hg hr', h2.grown hg (Nat.le_trans hN h2.size) (fun k e => Nat.le_trans hB (hr k e).1), Nat.le_trans h3 hg.size⟩
theorem Box.to_ {W : World} {base tB fB oB bB n c : Nat} {b : List UInt8} {s : DiffP.St} {A : Option Addr} (h : Box W base tB fB oB bB b s A n c) (v : Nat) (hlt : tB < base) (h1 : tB ≠ fB) (h2 : tB ≠ oB) (h3 : tB ≠ bB) :
    Box (W.setCell ⟨tB, 0, none⟩ (.int .i64 (v : Int))) base tB fB oB bB b ⟨s.out, s.from_, v⟩ A n c := by
  have hg : W.grownBy (W.setCell ⟨tB, 0, none⟩ (.int .i64 (v : Int))) (some tB) := grown_set (grown_refl W _) 0 _
  exact ⟨by simpa using h.t.set 0 (.int .i64 (v : Int)), h.f.grownO hg (by intro e; injection e; omega), h.o.grownO hg (by intro e; injection e; omega), h.p.grownO hg (by intro e; injection e; omega), h.e.grownU runE_byt h.t rfl hg (fun a e => by have := h.e.ge a e; omega)⟩
theorem Box.fr_ {W : World} {base tB fB oB bB n c : Nat} {b : List UInt8} {s : DiffP.St} {A : Option Addr} (h : Box W base tB fB oB bB b s A n c) (v : Nat) (hlt : fB < base) (h1 : fB ≠ tB) (h2 : fB ≠ oB) (h3 : fB ≠ bB) :
    Box (W.setCell ⟨fB, 0, none⟩ (.int .i64 (v : Int))) base tB fB oB bB b ⟨s.out, v, s.to⟩ A n c := by
  have hg : W.grownBy (W.setCell ⟨fB, 0, none⟩ (.int .i64 (v : Int))) (some fB) := grown_set (grown_refl W _) 0 _
  exact ⟨h.t.grownO hg (by intro e; injection e; omega), by simpa using h.f.set 0 (.int .i64 (v : Int)), h.o.grownO hg (by intro e; injection e; omega), h.p.grownO hg (by intro e; injection e; omega), h.e.grownU runE_byt h.f rfl hg (fun a e => by have := h.e.ge a e; omega)⟩
/-- behind the closure: the runs with the open one -/
theorem Box.cut_ {W W' : World} {base tB fB oB bB n c n' c' : Nat} {b : List UInt8} {s : DiffP.St} {A A' : Option Addr} (h : Box W base tB fB oB bB b s A n c) (ho : Str W' oB #[.slice A' n' c']) (he : OwnE RunE 79 W' base A' n' c' (DiffP.cut b s)) (hk : Reg.KeepB W.heap.size (oB :: (A.map (·.block)).toList) W W')
    (hne : tB ≠ oB ∧ fB ≠ oB ∧ bB ≠ oB) (hlt : tB < base ∧ fB < base ∧ bB < base) : Box W' base tB fB oB bB b ⟨DiffP.cut b s, s.from_, s.to⟩ A' n' c' := by
  have hnm : ∀ k, k ≠ oB → k < base → k ∉ oB :: (A.map (·.block)).toList := fun k h1 h2 hm => by
    rcases List.mem_cons.1 hm with e | hm
    · exact h1 e
    · obtain ⟨a, e, h2⟩ := Option.map_eq_some_iff.1 (Option.mem_toList.1 hm)
      have := h.e.ge a e
      omega
  exact ⟨h.t.keepB hk (hnm _ hne.1 hlt.1), h.f.keepB hk (hnm _ hne.2.1 hlt.2.1), ho, h.p.keepB hk (hnm _ hne.2.2 hlt.2.2), he⟩
theorem keepsFrom_keepB {B : Nat} {W W' : World} {bs : List Nat} (h : Reg.KeepB W.heap.size bs W W') (hb : ∀ k (o : Obj), B ≤ k → W.heap[k]? = some o → o.isCells = false → k ∉ bs) : KeepsFrom B W W' :=
  ⟨h.size, fun k o hk ho hc => (h.block k (Array.getElem?_eq_some_iff.1 ho).1 (hb k o hk ho hc)).trans ho⟩
attribute [local go_sem] Oper.semAt_some
attribute [local go_sem ↓] ldPage_fold
set_option maxRecDepth 100000 in
set_option maxHeartbeats 2000000 in
theorem diff_any (a b : List UInt8) (ha : a.length = 512) (hb : b.length = 512) (w : World) :
    Calls Tryz.prog 21 #[.agg (rowV a), .agg (rowV b)] w fun e w' => ∃ A n c, e = .returned (.slice A n c) ∧ OwnE RunE 79 w' w.heap.size A n c (DiffP.diff a b) ∧ Below w.heap.size w w' := by
  have HA5 := Lib.hid ha
  have HB5 := Lib.hid hb
  clear ha hb
  refine (callsIn_wide (n := 5)).1 ?_
  refine callsIn_of_wp_marks Tryz.func21 rfl trivial ?_ rfl
  simp only [Tryz.ntmps21, List.size_toArray, List.length_cons, List.length_nil, Nat.reduceAdd, Nat.reduceSub, Array.replicate_succ, Array.replicate_zero, List.push_toArray, List.append_toArray, List.nil_append, List.cons_append]
  gi_wp2_with fail
  generalize hW0 : ((((((w).alloc (.cells (rowV a) 30)).alloc (.cells (rowV b) 30)).alloc (.cells #[.slice none 0 0] 31)).alloc (.cells #[.int .i64 0] 3)).alloc (.cells #[.int .i64 0] 3)).alloc (.cells #[.func (.func 45) #[] #[.pointer (some ⟨w.heap.size + 1 + 1 + 1 + 1, 0, none⟩), .pointer (some ⟨w.heap.size + 1 + 1 + 1, 0, none⟩), .pointer (some ⟨w.heap.size + 1 + 1, 0, none⟩), .pointer (some ⟨w.heap.size + 1, 0, none⟩)]] 1) = W0
  have HS0_0 : Hid (Str W0 (w.heap.size) (rowV a)) := Lib.hid (by rw [← hW0]; have := (((((Str.new (w) (rowV a) 30).alloc (.cells (rowV b) 30)).alloc (.cells #[.slice none 0 0] 31)).alloc (.cells #[.int .i64 0] 3)).alloc (.cells #[.int .i64 0] 3)).alloc (.cells #[.func (.func 45) #[] #[.pointer (some ⟨w.heap.size + 1 + 1 + 1 + 1, 0, none⟩), .pointer (some ⟨w.heap.size + 1 + 1 + 1, 0, none⟩), .pointer (some ⟨w.heap.size + 1 + 1, 0, none⟩), .pointer (some ⟨w.heap.size + 1, 0, none⟩)]] 1); simpa using this)
  have HS1_0 : Hid (Str W0 (w.heap.size + 1) (rowV b)) := Lib.hid (by rw [← hW0]; have := ((((Str.new ((w).alloc (.cells (rowV a) 30)) (rowV b) 30).alloc (.cells #[.slice none 0 0] 31)).alloc (.cells #[.int .i64 0] 3)).alloc (.cells #[.int .i64 0] 3)).alloc (.cells #[.func (.func 45) #[] #[.pointer (some ⟨w.heap.size + 1 + 1 + 1 + 1, 0, none⟩), .pointer (some ⟨w.heap.size + 1 + 1 + 1, 0, none⟩), .pointer (some ⟨w.heap.size + 1 + 1, 0, none⟩), .pointer (some ⟨w.heap.size + 1, 0, none⟩)]] 1); simpa using this)
  have HS2_0 : Hid (Str W0 (w.heap.size + 1 + 1) #[.slice none 0 0]) := Lib.hid (by rw [← hW0]; have := (((Str.new (((w).alloc (.cells (rowV a) 30)).alloc (.cells (rowV b) 30)) #[.slice none 0 0] 31).alloc (.cells #[.int .i64 0] 3)).alloc (.cells #[.int .i64 0] 3)).alloc (.cells #[.func (.func 45) #[] #[.pointer (some ⟨w.heap.size + 1 + 1 + 1 + 1, 0, none⟩), .pointer (some ⟨w.heap.size + 1 + 1 + 1, 0, none⟩), .pointer (some ⟨w.heap.size + 1 + 1, 0, none⟩), .pointer (some ⟨w.heap.size + 1, 0, none⟩)]] 1); simpa using this)
  have HS3_0 : Hid (Str W0 (w.heap.size + 1 + 1 + 1) #[.int .i64 0]) := Lib.hid (by rw [← hW0]; have := ((Str.new ((((w).alloc (.cells (rowV a) 30)).alloc (.cells (rowV b) 30)).alloc (.cells #[.slice none 0 0] 31)) #[.int .i64 0] 3).alloc (.cells #[.int .i64 0] 3)).alloc (.cells #[.func (.func 45) #[] #[.pointer (some ⟨w.heap.size + 1 + 1 + 1 + 1, 0, none⟩), .pointer (some ⟨w.heap.size + 1 + 1 + 1, 0, none⟩), .pointer (some ⟨w.heap.size + 1 + 1, 0, none⟩), .pointer (some ⟨w.heap.size + 1, 0, none⟩)]] 1); simpa using this)
  have HS4_0 : Hid (Str W0 (w.heap.size + 1 + 1 + 1 + 1) #[.int .i64 0]) := Lib.hid (by rw [← hW0]; have := (Str.new (((((w).alloc (.cells (rowV a) 30)).alloc (.cells (rowV b) 30)).alloc (.cells #[.slice none 0 0] 31)).alloc (.cells #[.int .i64 0] 3)) #[.int .i64 0] 3).alloc (.cells #[.func (.func 45) #[] #[.pointer (some ⟨w.heap.size + 1 + 1 + 1 + 1, 0, none⟩), .pointer (some ⟨w.heap.size + 1 + 1 + 1, 0, none⟩), .pointer (some ⟨w.heap.size + 1 + 1, 0, none⟩), .pointer (some ⟨w.heap.size + 1, 0, none⟩)]] 1); simpa using this)
  have HS5_0 : Hid (Str W0 (w.heap.size + 1 + 1 + 1 + 1 + 1) #[.func (.func 45) #[] #[.pointer (some ⟨w.heap.size + 1 + 1 + 1 + 1, 0, none⟩), .pointer (some ⟨w.heap.size + 1 + 1 + 1, 0, none⟩), .pointer (some ⟨w.heap.size + 1 + 1, 0, none⟩), .pointer (some ⟨w.heap.size + 1, 0, none⟩)]]) := Lib.hid (by rw [← hW0]; have := Str.new ((((((w).alloc (.cells (rowV a) 30)).alloc (.cells (rowV b) 30)).alloc (.cells #[.slice none 0 0] 31)).alloc (.cells #[.int .i64 0] 3)).alloc (.cells #[.int .i64 0] 3)) #[.func (.func 45) #[] #[.pointer (some ⟨w.heap.size + 1 + 1 + 1 + 1, 0, none⟩), .pointer (some ⟨w.heap.size + 1 + 1 + 1, 0, none⟩), .pointer (some ⟨w.heap.size + 1 + 1, 0, none⟩), .pointer (some ⟨w.heap.size + 1, 0, none⟩)]] 1; simpa using this)
  have HB_0 : Hid (Below w.heap.size w W0) := Lib.hid (by rw [← hW0]; exact balloc (balloc (balloc (balloc (balloc (balloc (bsame w) _) _) _) _) _) _)
  have hw_0 := HB_0.out.size
  have hz0 : W0.heap.size = w.heap.size + 1 + 1 + 1 + 1 + 1 + 1 := by rw [← hW0]; simp
  clear hW0
  have hl0_0 := HS0_0.out.lt
  have hl1_0 := HS1_0.out.lt
  have f2_0_0 := str1 HS2_0.out
  have hl2_0 := HS2_0.out.lt
  have f3_0_0 := str1 HS3_0.out
  have hl3_0 := HS3_0.out.lt
  have f4_0_0 := str1 HS4_0.out
  have hl4_0 := HS4_0.out.lt
  have f5_0_0 := str1 HS5_0.out
  have hl5_0 := HS5_0.out.lt
  have hld1 := run_ld (P := Tryz.prog) arrPage HS0_0.out HA5.out
  have hld2 := run_ld (P := Tryz.prog) arrPage HS1_0.out HB5.out

  gi_wp2_with fail
  rw [hld1]
  gi_wp2_with fail
  refine ⟨trivial, ?_⟩
  refine (callsIn_wide.2 (unlike_any a b W0)).mono ?_
  rintro e W1 ⟨rfl, hA1, hB1, hb1, hz1⟩
  clear hld1 hld2
  have HS6_1 := Lib.hid hA1
  have HS7_1 := Lib.hid hB1
  have hw1 := hb1.size
  have HS0_1 := Lib.hid (HS0_0.out.next hb1)
  have HS1_1 := Lib.hid (HS1_0.out.next hb1)
  have HS2_1 := Lib.hid (HS2_0.out.next hb1)
  have HS3_1 := Lib.hid (HS3_0.out.next hb1)
  have HS4_1 := Lib.hid (HS4_0.out.next hb1)
  have HS5_1 := Lib.hid (HS5_0.out.next hb1)
  have HB_1 := Lib.hid (bstep HB_0.out hb1)
  clear hA1 hB1 hb1
  clear HS0_0 HS1_0 f2_0_0 HS2_0 f3_0_0 HS3_0 f4_0_0 HS4_0 f5_0_0 HS5_0
  have hl0_1 := HS0_1.out.lt
  have hl1_1 := HS1_1.out.lt
  have hl2_1 := HS2_1.out.lt
  have hl3_1 := HS3_1.out.lt
  have hl4_1 := HS4_1.out.lt
  have hl5_1 := HS5_1.out.lt
  gi_wp2_with fail
  have hsB := HB_1.out.size
  have HZ0 := Lib.hid hz0
  have HZ1 := Lib.hid hz1
  have HCF := Lib.hid (enters_of Tryz.func45 (P := Tryz.prog) (f := 45) (by kernel_rfl) rfl)
  refine wpIn_rangeFunc_ownG rfl (by omega) (gf := 63) (lb := #[.pointer (some ⟨w.heap.size + 1 + 1 + 1 + 1 + 1 + 1, 0, none⟩), .pointer (some ⟨w.heap.size + 1 + 1 + 1 + 1 + 1 + 1 + 1, 0, none⟩)]) rfl trivial (enters_of Tryz.func63 (by kernel_rfl) rfl)
    (unlike_stops 4 (by omega) (w.heap.size + 1 + 1 + 1 + 1 + 1 + 1) (w.heap.size + 1 + 1 + 1 + 1 + 1 + 1 + 1) a b HA5.out HB5.out W1 (by rw [← hz0]; exact HS6_1.out) (by rw [← hz0]; exact HS7_1.out))
    (fun h k => ⟨k.1.trans h.1, k.2.trans h.2⟩) ?hKb (Below.refl _ _) (fun _ => rfl)
    (DI w.heap.size w W1.heap.size (w.heap.size + 1 + 1 + 1 + 1) (w.heap.size + 1 + 1 + 1) (w.heap.size + 1 + 1) (w.heap.size + 1) (w.heap.size + 1 + 1 + 1 + 1 + 1) b (.func (.func 45) #[] #[.pointer (some ⟨w.heap.size + 1 + 1 + 1 + 1, 0, none⟩), .pointer (some ⟨w.heap.size + 1 + 1 + 1, 0, none⟩), .pointer (some ⟨w.heap.size + 1 + 1, 0, none⟩), .pointer (some ⟨w.heap.size + 1, 0, none⟩)])) (fun _ _ _ => False)
    (di_own (Nat.le_refl _) (by omega)) (fun _ _ _ _ _ hs _ _ => hs) ?h0
    (fun x => { tmps := #[.agg (rowV a), .agg (rowV b), .pointer (some ⟨w.heap.size, 0, none⟩), .pointer (some ⟨w.heap.size + 1, 0, none⟩), .slice none 0 0, .pointer (some ⟨w.heap.size + 1 + 1, 0, none⟩), .pointer (some ⟨w.heap.size + 1 + 1 + 1, 0, none⟩), .pointer (some ⟨w.heap.size + 1 + 1 + 1 + 1, 0, none⟩), .pointer (some ⟨w.heap.size + 1 + 1 + 1 + 1 + 1, 0, none⟩), .int .i64 ((DiffP.place x : Nat) : Int), .func (.func 45) #[] #[.pointer (some ⟨w.heap.size + 1 + 1 + 1 + 1, 0, none⟩), .pointer (some ⟨w.heap.size + 1 + 1 + 1, 0, none⟩), .pointer (some ⟨w.heap.size + 1 + 1, 0, none⟩), .pointer (some ⟨w.heap.size + 1, 0, none⟩)], .agg (rowV a), .agg (rowV b), .func (.func 63) #[] #[.pointer (some ⟨w.heap.size + 1 + 1 + 1 + 1 + 1 + 1, 0, none⟩), .pointer (some ⟨w.heap.size + 1 + 1 + 1 + 1 + 1 + 1 + 1, 0, none⟩)], .int .i64 ((DiffP.place x : Nat) : Int), undef, undef, undef, undef, undef, undef, undef, undef, undef, undef, undef, undef, undef, undef, undef, undef], defers := [] }) ?assign ?body ?done ?stop
  case hKb =>
    intro W l' o o' hle hl' _ _
    have hlt := (Array.getElem?_eq_some_iff.1 hl').1
    exact ⟨(grownBy_putObj' W l' o').block _ (by omega) (fun e => by cases e; omega), (grownBy_putObj' W l' o').block _ (by omega) (fun e => by cases e; omega)⟩
  case h0 =>
    clear HZ0 HZ1
    refine ⟨⟨none, 0, 0, ?_, ?_, ?_, ?_, OwnE.none_ _ _ _ _⟩, HS5_1.out, HB_1.out, Nat.le_refl _⟩
    · exact HS4_1.out
    · exact HS3_1.out
    · exact HS2_1.out
    · exact HS1_1.out
  case assign =>
    intro l' x W K hK
    gi_wp2
    exact hK
  case stop =>
    rintro D c' pre W _ _ h _
    exact h.elim
  case body =>
    rintro l' pre x W ⟨⟨A, n, c, hbox⟩, hfn, hbel, hsz⟩ hlt
    have hp := DiffP.place_lt x
    have HRS := Lib.hid (DiffP.run_snoc b pre x)
    obtain ⟨⟨hs1, hs2⟩, hs3⟩ := DiffP.run_in b pre
    obtain ⟨s, hs⟩ : ∃ s, DiffP.run b pre = s := ⟨_, rfl⟩
    rw [hs] at hbox hs1 hs2 hs3
    have HS := Lib.hid hs
    clear hs
    obtain ⟨out, fr, to⟩ := s
    dsimp only at hs1 hs2 hs3
    have hT := hbox.t
    have gT := str1 hT
    have kT := hbox.t.frozen 0
    have kF := hbox.f.frozen 0
    have gF := str1 hbox.f
    have gC := str1 hfn
    have lT := hbox.t.lt
    have lF := hbox.f.lt
    have lC := hfn.lt
    clear hz0 hz1
    have HBX := Lib.hid hbox
    have HFN := Lib.hid hfn
    have HBEL := Lib.hid hbel
    have HSZ := Lib.hid hsz
    have hcf : ∀ W : World, (callFunc 45 #[.pointer (some ⟨w.heap.size + 1 + 1 + 1 + 1, 0, none⟩), .pointer (some ⟨w.heap.size + 1 + 1 + 1, 0, none⟩), .pointer (some ⟨w.heap.size + 1 + 1, 0, none⟩), .pointer (some ⟨w.heap.size + 1, 0, none⟩)]).run Tryz.prog W = .ok (.enter 45 #[.pointer (some ⟨w.heap.size + 1 + 1 + 1 + 1, 0, none⟩), .pointer (some ⟨w.heap.size + 1 + 1 + 1, 0, none⟩), .pointer (some ⟨w.heap.size + 1 + 1, 0, none⟩), .pointer (some ⟨w.heap.size + 1, 0, none⟩)]) W := fun W => HCF.out _ W
    clear hbox hfn hbel hsz hT
    have hvp : ((DiffP.place x + 1 : Nat) : Int) = ((DiffP.place x : Nat) : Int) + 1 := by omega
    cases ho : DiffP.opens ⟨out, fr, to⟩ (DiffP.place x) with
    | false =>
      have h0 : ¬ to = 0 := by intro h; unfold DiffP.opens at ho; simp [h] at ho
      have h4 : ¬ 4 < DiffP.place x - to := by intro h; unfold DiffP.opens at ho; simp [h] at ho
      have h0' : ((to : Int) == 0) = false := by simpa using h0
      have h4' : decide ((4 : Int) < ((DiffP.place x : Nat) : Int) - (to : Int)) = false := by simp; omega
      have HO := Lib.hid ho
      have HVP := Lib.hid hvp
      clear ho h0 h4 hvp
      gi_wp2_with fail
      have hg : W.grownBy (W.setCell ⟨w.heap.size + 1 + 1 + 1 + 1, 0, none⟩ (.int .i64 (((DiffP.place x : Nat) : Int) + 1))) (some (w.heap.size + 1 + 1 + 1 + 1)) := grown_set (grown_refl W _) 0 _
      have hz0 := HZ0.out
      have hz1 := HZ1.out
      have hszW := HSZ.out
      show KeepsFrom W1.heap.size W _ ∧ KpP _ _ _ _ ∧ DI _ _ _ _ _ _ _ _ _ _ _ _
      refine ⟨KeepsFrom.of_grownBy hg (fun j e => by injection e; omega), ⟨hg.block _ (by omega) (by intro e; injection e; omega), hg.block _ (by omega) (by intro e; injection e; omega)⟩, ⟨⟨A, n, c, ?_⟩, HFN.out.grownO hg (by intro e; injection e; omega), HBEL.out.grown hg (by have := HBEL.out.size; omega) (fun k e => by injection e; omega), by have := hg.size; omega⟩⟩
      have h := HBX.out.to_ (DiffP.place x + 1) (by omega) (by omega) (by omega) (by omega)
      rw [HVP.out] at h
      rw [HRS.out, HS.out]
      unfold DiffP.step
      rw [HO.out]
      exact h
    | true =>
      have hc2 : to = 0 ∨ 4 < DiffP.place x - to := by
        by_cases h0 : to = 0
        · exact .inl h0
        · refine .inr ?_
          unfold DiffP.opens at ho
          simpa [h0] using ho
      have HO := Lib.hid ho
      have HVP := Lib.hid hvp
      clear ho hvp
      rcases hc2 with h0 | h4
      · have h0' : ((to : Int) == 0) = true := by simp [h0]
        clear h0
        gi_wp2_with fail
        refine ⟨trivial, ?_⟩
        refine ((callsIn_wide.2 (cut_any A n c W1.heap.size (w.heap.size + 1 + 1 + 1 + 1) (w.heap.size + 1 + 1 + 1) (w.heap.size + 1 + 1) (w.heap.size + 1) b ⟨out, fr, to⟩ W HB5.out HBX.out hs1 hs2 (by have := HBX.out.e.len; dsimp only at this; omega) ⟨by omega, by omega, by omega, by omega, HSZ.out⟩ ⟨by omega, by omega, by omega⟩)).inRound l').mono ?_
        rintro e W2 ⟨rfl, A', n', c', ho2, he2, hk2⟩
        have HBX2 := Lib.hid (HBX.out.cut_ ho2 he2 hk2 ⟨by omega, by omega, by omega⟩ ⟨by omega, by omega, by omega⟩)
        have hfn2 : Str W2 (w.heap.size + 1 + 1 + 1 + 1 + 1) #[.func (.func 45) #[] #[.pointer (some ⟨w.heap.size + 1 + 1 + 1 + 1, 0, none⟩), .pointer (some ⟨w.heap.size + 1 + 1 + 1, 0, none⟩), .pointer (some ⟨w.heap.size + 1 + 1, 0, none⟩), .pointer (some ⟨w.heap.size + 1, 0, none⟩)]] := HFN.out.keepB hk2 (fun hm => by
          rcases List.mem_cons.1 hm with e | hm
          · omega
          · obtain ⟨a, e, h2⟩ := Option.map_eq_some_iff.1 (Option.mem_toList.1 hm)
            have := HBX.out.e.ge a e
            omega)
        have HKF := Lib.hid (keepsFrom_keepB (B := W1.heap.size) hk2 (fun k o q1 q2 q3 hm => by
          rcases List.mem_cons.1 hm with e | hm
          · omega
          · exact not_row HBX.out.e q2 q3 hm))
        have HKP : Hid (KpP (w.heap.size + 1 + 1 + 1 + 1 + 1 + 1) (w.heap.size + 1 + 1 + 1 + 1 + 1 + 1 + 1) W W2) := Lib.hid (by
          have hz0 := HZ0.out
          have hz1 := HZ1.out
          have hszW := HSZ.out
          have hnm : ∀ k, k ≠ w.heap.size + 1 + 1 → k < W1.heap.size → k ∉ (w.heap.size + 1 + 1) :: (A.map (·.block)).toList := fun k h1 h2 hm => by
            rcases List.mem_cons.1 hm with e | hm
            · exact h1 e
            · obtain ⟨a, e, h2⟩ := Option.map_eq_some_iff.1 (Option.mem_toList.1 hm)
              have := HBX.out.e.ge a e
              omega
          exact ⟨hk2.block _ (by omega) (hnm _ (by omega) (by omega)), hk2.block _ (by omega) (hnm _ (by omega) (by omega))⟩)
        have HBEL2 := Lib.hid (HBEL.out.trans (hk2.below (M := w.heap.size) HBEL.out.size (fun k hm => by
          rcases List.mem_cons.1 hm with e | hm
          · omega
          · obtain ⟨a, e, h2⟩ := Option.map_eq_some_iff.1 (Option.mem_toList.1 hm)
            have := HBX.out.e.ge a e
            omega)))
        have hws2 := hk2.size
        have HFN2 := Lib.hid hfn2
        have gT2 := str1 HBX2.out.t
        have gF2 := str1 HBX2.out.f
        have kT2 := HBX2.out.t.frozen 0
        have kF2 := HBX2.out.f.frozen 0
        have lT2 := HBX2.out.t.lt
        have lF2 := HBX2.out.f.lt
        clear ho2 he2 hk2 hfn2 gT gF gC kT kF
        gi_wp2_with fail
        have hg1 : W2.grownBy (W2.setCell ⟨w.heap.size + 1 + 1 + 1, 0, none⟩ (.int .i64 ((DiffP.place x : Nat) : Int))) (some (w.heap.size + 1 + 1 + 1)) := grown_set (grown_refl W2 _) 0 _
        have hg2 : (W2.setCell ⟨w.heap.size + 1 + 1 + 1, 0, none⟩ (.int .i64 ((DiffP.place x : Nat) : Int))).grownBy ((W2.setCell ⟨w.heap.size + 1 + 1 + 1, 0, none⟩ (.int .i64 ((DiffP.place x : Nat) : Int))).setCell ⟨w.heap.size + 1 + 1 + 1 + 1, 0, none⟩ (.int .i64 (((DiffP.place x : Nat) : Int) + 1))) (some (w.heap.size + 1 + 1 + 1 + 1)) := grown_set (grown_refl _ _) 0 _
        have hz0 := HZ0.out
        have hz1 := HZ1.out
        have hszW := HSZ.out
        have hsg1 := hg1.size
        show KeepsFrom W1.heap.size W _ ∧ KpP _ _ _ _ ∧ DI _ _ _ _ _ _ _ _ _ _ _ _
        refine ⟨HKF.out.trans ((KeepsFrom.of_grownBy hg1 (fun j e => by injection e; omega)).trans (KeepsFrom.of_grownBy hg2 (fun j e => by injection e; omega))), ⟨(hg2.block _ (by omega) (by intro e; injection e; omega)).trans ((hg1.block _ (by omega) (by intro e; injection e; omega)).trans HKP.out.1), (hg2.block _ (by omega) (by intro e; injection e; omega)).trans ((hg1.block _ (by omega) (by intro e; injection e; omega)).trans HKP.out.2)⟩, ⟨⟨A', n', c', ?_⟩, (HFN2.out.grownO hg1 (by intro e; injection e; omega)).grownO hg2 (by intro e; injection e; omega), (HBEL2.out.grown hg1 (by have := HBEL.out.size; omega) (fun k e => by injection e; omega)).grown hg2 (by have := HBEL.out.size; omega) (fun k e => by injection e; omega), by have := hg2.size; omega⟩⟩
        have h := (HBX2.out.fr_ (DiffP.place x) (by omega) (by omega) (by omega) (by omega)).to_ (DiffP.place x + 1) (by omega) (by omega) (by omega) (by omega)
        rw [HVP.out] at h
        rw [HRS.out, HS.out]
        unfold DiffP.step
        rw [HO.out]
        exact h
      · by_cases h0 : to = 0
        · have h0' : ((to : Int) == 0) = true := by simp [h0]
          clear h0 h4
          gi_wp2_with fail
          refine ⟨trivial, ?_⟩
          refine ((callsIn_wide.2 (cut_any A n c W1.heap.size (w.heap.size + 1 + 1 + 1 + 1) (w.heap.size + 1 + 1 + 1) (w.heap.size + 1 + 1) (w.heap.size + 1) b ⟨out, fr, to⟩ W HB5.out HBX.out hs1 hs2 (by have := HBX.out.e.len; dsimp only at this; omega) ⟨by omega, by omega, by omega, by omega, HSZ.out⟩ ⟨by omega, by omega, by omega⟩)).inRound l').mono ?_
          rintro e W2 ⟨rfl, A', n', c', ho2, he2, hk2⟩
          have HBX2 := Lib.hid (HBX.out.cut_ ho2 he2 hk2 ⟨by omega, by omega, by omega⟩ ⟨by omega, by omega, by omega⟩)
          have hfn2 : Str W2 (w.heap.size + 1 + 1 + 1 + 1 + 1) #[.func (.func 45) #[] #[.pointer (some ⟨w.heap.size + 1 + 1 + 1 + 1, 0, none⟩), .pointer (some ⟨w.heap.size + 1 + 1 + 1, 0, none⟩), .pointer (some ⟨w.heap.size + 1 + 1, 0, none⟩), .pointer (some ⟨w.heap.size + 1, 0, none⟩)]] := HFN.out.keepB hk2 (fun hm => by
            rcases List.mem_cons.1 hm with e | hm
            · omega
            · obtain ⟨a, e, h2⟩ := Option.map_eq_some_iff.1 (Option.mem_toList.1 hm)
              have := HBX.out.e.ge a e
              omega)
          have HKF := Lib.hid (keepsFrom_keepB (B := W1.heap.size) hk2 (fun k o q1 q2 q3 hm => by
            rcases List.mem_cons.1 hm with e | hm
            · omega
            · exact not_row HBX.out.e q2 q3 hm))
          have HKP : Hid (KpP (w.heap.size + 1 + 1 + 1 + 1 + 1 + 1) (w.heap.size + 1 + 1 + 1 + 1 + 1 + 1 + 1) W W2) := Lib.hid (by
            have hz0 := HZ0.out
            have hz1 := HZ1.out
            have hszW := HSZ.out
            have hnm : ∀ k, k ≠ w.heap.size + 1 + 1 → k < W1.heap.size → k ∉ (w.heap.size + 1 + 1) :: (A.map (·.block)).toList := fun k h1 h2 hm => by
              rcases List.mem_cons.1 hm with e | hm
              · exact h1 e
              · obtain ⟨a, e, h2⟩ := Option.map_eq_some_iff.1 (Option.mem_toList.1 hm)
                have := HBX.out.e.ge a e
                omega
            exact ⟨hk2.block _ (by omega) (hnm _ (by omega) (by omega)), hk2.block _ (by omega) (hnm _ (by omega) (by omega))⟩)
          have HBEL2 := Lib.hid (HBEL.out.trans (hk2.below (M := w.heap.size) HBEL.out.size (fun k hm => by
            rcases List.mem_cons.1 hm with e | hm
            · omega
            · obtain ⟨a, e, h2⟩ := Option.map_eq_some_iff.1 (Option.mem_toList.1 hm)
              have := HBX.out.e.ge a e
              omega)))
          have hws2 := hk2.size
          have HFN2 := Lib.hid hfn2
          have gT2 := str1 HBX2.out.t
          have gF2 := str1 HBX2.out.f
          have kT2 := HBX2.out.t.frozen 0
          have kF2 := HBX2.out.f.frozen 0
          have lT2 := HBX2.out.t.lt
          have lF2 := HBX2.out.f.lt
          clear ho2 he2 hk2 hfn2 gT gF gC kT kF
          gi_wp2_with fail
          have hg1 : W2.grownBy (W2.setCell ⟨w.heap.size + 1 + 1 + 1, 0, none⟩ (.int .i64 ((DiffP.place x : Nat) : Int))) (some (w.heap.size + 1 + 1 + 1)) := grown_set (grown_refl W2 _) 0 _
          have hg2 : (W2.setCell ⟨w.heap.size + 1 + 1 + 1, 0, none⟩ (.int .i64 ((DiffP.place x : Nat) : Int))).grownBy ((W2.setCell ⟨w.heap.size + 1 + 1 + 1, 0, none⟩ (.int .i64 ((DiffP.place x : Nat) : Int))).setCell ⟨w.heap.size + 1 + 1 + 1 + 1, 0, none⟩ (.int .i64 (((DiffP.place x : Nat) : Int) + 1))) (some (w.heap.size + 1 + 1 + 1 + 1)) := grown_set (grown_refl _ _) 0 _
          have hz0 := HZ0.out
          have hz1 := HZ1.out
          have hszW := HSZ.out
          have hsg1 := hg1.size
          show KeepsFrom W1.heap.size W _ ∧ KpP _ _ _ _ ∧ DI _ _ _ _ _ _ _ _ _ _ _ _
          refine ⟨HKF.out.trans ((KeepsFrom.of_grownBy hg1 (fun j e => by injection e; omega)).trans (KeepsFrom.of_grownBy hg2 (fun j e => by injection e; omega))), ⟨(hg2.block _ (by omega) (by intro e; injection e; omega)).trans ((hg1.block _ (by omega) (by intro e; injection e; omega)).trans HKP.out.1), (hg2.block _ (by omega) (by intro e; injection e; omega)).trans ((hg1.block _ (by omega) (by intro e; injection e; omega)).trans HKP.out.2)⟩, ⟨⟨A', n', c', ?_⟩, (HFN2.out.grownO hg1 (by intro e; injection e; omega)).grownO hg2 (by intro e; injection e; omega), (HBEL2.out.grown hg1 (by have := HBEL.out.size; omega) (fun k e => by injection e; omega)).grown hg2 (by have := HBEL.out.size; omega) (fun k e => by injection e; omega), by have := hg2.size; omega⟩⟩
          have h := (HBX2.out.fr_ (DiffP.place x) (by omega) (by omega) (by omega) (by omega)).to_ (DiffP.place x + 1) (by omega) (by omega) (by omega) (by omega)
          rw [HVP.out] at h
          rw [HRS.out, HS.out]
          unfold DiffP.step
          rw [HO.out]
          exact h
        · have h0' : ((to : Int) == 0) = false := by simpa using h0
          have h4' : decide ((4 : Int) < ((DiffP.place x : Nat) : Int) - (to : Int)) = true := by simp; omega
          clear h0 h4
          gi_wp2_with fail
          refine ⟨trivial, ?_⟩
          refine ((callsIn_wide.2 (cut_any A n c W1.heap.size (w.heap.size + 1 + 1 + 1 + 1) (w.heap.size + 1 + 1 + 1) (w.heap.size + 1 + 1) (w.heap.size + 1) b ⟨out, fr, to⟩ W HB5.out HBX.out hs1 hs2 (by have := HBX.out.e.len; dsimp only at this; omega) ⟨by omega, by omega, by omega, by omega, HSZ.out⟩ ⟨by omega, by omega, by omega⟩)).inRound l').mono ?_
          rintro e W2 ⟨rfl, A', n', c', ho2, he2, hk2⟩
          have HBX2 := Lib.hid (HBX.out.cut_ ho2 he2 hk2 ⟨by omega, by omega, by omega⟩ ⟨by omega, by omega, by omega⟩)
          have hfn2 : Str W2 (w.heap.size + 1 + 1 + 1 + 1 + 1) #[.func (.func 45) #[] #[.pointer (some ⟨w.heap.size + 1 + 1 + 1 + 1, 0, none⟩), .pointer (some ⟨w.heap.size + 1 + 1 + 1, 0, none⟩), .pointer (some ⟨w.heap.size + 1 + 1, 0, none⟩), .pointer (some ⟨w.heap.size + 1, 0, none⟩)]] := HFN.out.keepB hk2 (fun hm => by
            rcases List.mem_cons.1 hm with e | hm
            · omega
            · obtain ⟨a, e, h2⟩ := Option.map_eq_some_iff.1 (Option.mem_toList.1 hm)
              have := HBX.out.e.ge a e
              omega)
          have HKF := Lib.hid (keepsFrom_keepB (B := W1.heap.size) hk2 (fun k o q1 q2 q3 hm => by
            rcases List.mem_cons.1 hm with e | hm
            · omega
            · exact not_row HBX.out.e q2 q3 hm))
          have HKP : Hid (KpP (w.heap.size + 1 + 1 + 1 + 1 + 1 + 1) (w.heap.size + 1 + 1 + 1 + 1 + 1 + 1 + 1) W W2) := Lib.hid (by
            have hz0 := HZ0.out
            have hz1 := HZ1.out
            have hszW := HSZ.out
            have hnm : ∀ k, k ≠ w.heap.size + 1 + 1 → k < W1.heap.size → k ∉ (w.heap.size + 1 + 1) :: (A.map (·.block)).toList := fun k h1 h2 hm => by
              rcases List.mem_cons.1 hm with e | hm
              · exact h1 e
              · obtain ⟨a, e, h2⟩ := Option.map_eq_some_iff.1 (Option.mem_toList.1 hm)
                have := HBX.out.e.ge a e
                omega
            exact ⟨hk2.block _ (by omega) (hnm _ (by omega) (by omega)), hk2.block _ (by omega) (hnm _ (by omega) (by omega))⟩)
          have HBEL2 := Lib.hid (HBEL.out.trans (hk2.below (M := w.heap.size) HBEL.out.size (fun k hm => by
            rcases List.mem_cons.1 hm with e | hm
            · omega
            · obtain ⟨a, e, h2⟩ := Option.map_eq_some_iff.1 (Option.mem_toList.1 hm)
              have := HBX.out.e.ge a e
              omega)))
          have hws2 := hk2.size
          have HFN2 := Lib.hid hfn2
          have gT2 := str1 HBX2.out.t
          have gF2 := str1 HBX2.out.f
          have kT2 := HBX2.out.t.frozen 0
          have kF2 := HBX2.out.f.frozen 0
          have lT2 := HBX2.out.t.lt
          have lF2 := HBX2.out.f.lt
          clear ho2 he2 hk2 hfn2 gT gF gC kT kF
          gi_wp2_with fail
          have hg1 : W2.grownBy (W2.setCell ⟨w.heap.size + 1 + 1 + 1, 0, none⟩ (.int .i64 ((DiffP.place x : Nat) : Int))) (some (w.heap.size + 1 + 1 + 1)) := grown_set (grown_refl W2 _) 0 _
          have hg2 : (W2.setCell ⟨w.heap.size + 1 + 1 + 1, 0, none⟩ (.int .i64 ((DiffP.place x : Nat) : Int))).grownBy ((W2.setCell ⟨w.heap.size + 1 + 1 + 1, 0, none⟩ (.int .i64 ((DiffP.place x : Nat) : Int))).setCell ⟨w.heap.size + 1 + 1 + 1 + 1, 0, none⟩ (.int .i64 (((DiffP.place x : Nat) : Int) + 1))) (some (w.heap.size + 1 + 1 + 1 + 1)) := grown_set (grown_refl _ _) 0 _
          have hz0 := HZ0.out
          have hz1 := HZ1.out
          have hszW := HSZ.out
          have hsg1 := hg1.size
          show KeepsFrom W1.heap.size W _ ∧ KpP _ _ _ _ ∧ DI _ _ _ _ _ _ _ _ _ _ _ _
          refine ⟨HKF.out.trans ((KeepsFrom.of_grownBy hg1 (fun j e => by injection e; omega)).trans (KeepsFrom.of_grownBy hg2 (fun j e => by injection e; omega))), ⟨(hg2.block _ (by omega) (by intro e; injection e; omega)).trans ((hg1.block _ (by omega) (by intro e; injection e; omega)).trans HKP.out.1), (hg2.block _ (by omega) (by intro e; injection e; omega)).trans ((hg1.block _ (by omega) (by intro e; injection e; omega)).trans HKP.out.2)⟩, ⟨⟨A', n', c', ?_⟩, (HFN2.out.grownO hg1 (by intro e; injection e; omega)).grownO hg2 (by intro e; injection e; omega), (HBEL2.out.grown hg1 (by have := HBEL.out.size; omega) (fun k e => by injection e; omega)).grown hg2 (by have := HBEL.out.size; omega) (fun k e => by injection e; omega), by have := hg2.size; omega⟩⟩
          have h := (HBX2.out.fr_ (DiffP.place x) (by omega) (by omega) (by omega) (by omega)).to_ (DiffP.place x + 1) (by omega) (by omega) (by omega) (by omega)
          rw [HVP.out] at h
          rw [HRS.out, HS.out]
          unfold DiffP.step
          rw [HO.out]
          exact h
  case done =>
    rintro D ys W hD rfl ⟨⟨A, n, c, hbox⟩, hfn, hbel, hsz⟩ hK
    obtain ⟨⟨hs1, hs2⟩, hs3⟩ := DiffP.run_in b (DiffP.places a b 500)
    have hs4 := DiffP.places_len a b 500
    have HST : Hid (DiffP.cut b (DiffP.run b (DiffP.places a b 500)) = DiffP.diff a b) := Lib.hid rfl
    obtain ⟨s, hs⟩ : ∃ s, DiffP.run b (DiffP.places a b 500) = s := ⟨_, rfl⟩
    rw [hs] at hbox hs1 hs2 hs3 HST
    clear hs
    obtain ⟨out, fr, to⟩ := s
    dsimp only at hs1 hs2 hs3
    have gC := str1 hfn
    have lC := hfn.lt
    clear hz0 hz1
    have HBX := Lib.hid hbox
    have HFN := Lib.hid hfn
    have HBEL := Lib.hid hbel
    have HSZ := Lib.hid hsz
    have HKD := Lib.hid hK
    have hcf : ∀ W : World, (callFunc 45 #[.pointer (some ⟨w.heap.size + 1 + 1 + 1 + 1, 0, none⟩), .pointer (some ⟨w.heap.size + 1 + 1 + 1, 0, none⟩), .pointer (some ⟨w.heap.size + 1 + 1, 0, none⟩), .pointer (some ⟨w.heap.size + 1, 0, none⟩)]).run Tryz.prog W = .ok (.enter 45 #[.pointer (some ⟨w.heap.size + 1 + 1 + 1 + 1, 0, none⟩), .pointer (some ⟨w.heap.size + 1 + 1 + 1, 0, none⟩), .pointer (some ⟨w.heap.size + 1 + 1, 0, none⟩), .pointer (some ⟨w.heap.size + 1, 0, none⟩)]) W := fun W => HCF.out _ W
    clear hbox hfn hbel hsz hK
    gi_wp2_with fail
    refine ⟨trivial, ?_⟩
    refine ((callsIn_wide.2 (cut_any A n c W1.heap.size (w.heap.size + 1 + 1 + 1 + 1) (w.heap.size + 1 + 1 + 1) (w.heap.size + 1 + 1) (w.heap.size + 1) b ⟨out, fr, to⟩ W HB5.out HBX.out hs1 hs2 (by have := HBX.out.e.len; dsimp only at this; omega) ⟨by omega, by omega, by omega, by omega, HSZ.out⟩ ⟨by omega, by omega, by omega⟩))).mono ?_
    rintro e W2 ⟨rfl, A', n', c', ho2, he2, hk2⟩
    rw [HST.out] at he2
    have HKD2 : Hid (W2.heap[D]? = some (.deferred (some []))) := Lib.hid ((hk2.block D (Array.getElem?_eq_some_iff.1 HKD.out).1 (fun hm => by
      rcases List.mem_cons.1 hm with e | hm
      · omega
      · exact not_row HBX.out.e HKD.out rfl hm)).trans HKD.out)
    have HBEL2 := Lib.hid (HBEL.out.trans (hk2.below (M := w.heap.size) HBEL.out.size (fun k hm => by
      rcases List.mem_cons.1 hm with e | hm
      · omega
      · obtain ⟨a, e, h2⟩ := Option.map_eq_some_iff.1 (Option.mem_toList.1 hm)
        have := HBX.out.e.ge a e
        omega)))
    have HE2 := Lib.hid he2
    have gO2 := str1 ho2
    have hws2 := hk2.size
    clear ho2 he2 hk2 gC
    gi_wp2_with fail
    refine ⟨by simp, .inl ⟨_, _, rfl, run_takeDeferred HKD2.out, ?_⟩⟩
    have hgd := grownBy_putObj' W2 D (.deferred none)
    exact ⟨_, results_tmp rfl _ _ _, A', n', c', rfl, (HE2.out.grownN hgd (fun r e => by injection e with e; subst e; exact ⟨_, HKD2.out, rfl⟩)).less hsB, HBEL2.out.grown hgd (by have := HBEL.out.size; omega) (fun k e => by injection e; omega)⟩
end DiffW
end Go.Proofs.YtpklclnehlgcpaaGreat
end
