/-
  Parts of the proof of WalStays.
-/
import Derived.Test.YtpdfnlhhnodnjaaGreatWsG33
import Derived.Test.YtpdfnlhhnodnjaaGreatWsG31
import Derived.Test.YtpdfnlhhnodnjaaGreatWsG37
import Derived.Test.YtpdfnlhhnodnjaaGreatWsG35
import Derived.Test.YtpdfnlhhnodnjaaGreatWsG7
import Derived.OrdersIn
import Derived.RangeFuncCalls
section
namespace Go.Proofs.YtpdfnlhhnodnjaaGreat.WalW
open Go.RowKit Go.Maps RecW
set_option linter.unusedVariables false
set_option linter.unusedSimpArgs false
theorem live_len : (RecP.bytes ⟨4, 1, 0, 0, [], ⟨0, ⟨#[]⟩, ⟨0, ⟨#[]⟩, ⟨0, [], 0, 0, 0⟩⟩, 0⟩⟩).length = 33 := by rw [RecP.bytes_length _ RecP.live_fits, RecP.live_len]
/-- the device of the example, whose log is so long -/
structure LiveX (X : DevX) (k : Nat) (o : Int) : Prop where
  h : X.head = 0
  l : X.log.length = k
  f : X.off = false
  u : X.fused = false
  o : X.ops = o
  w : X.wr = 0
theorem LiveX.app {X : DevX} {k : Nat} {o : Int} (h : LiveX X k o) : LiveX (appX X (RecP.bytes ⟨4, 1, 0, 0, [], ⟨0, ⟨#[]⟩, ⟨0, ⟨#[]⟩, ⟨0, [], 0, 0, 0⟩⟩, 0⟩⟩)) (k + 33) (o + 1) :=
  ⟨h.h, by show (X.log ++ _).length = _; rw [List.length_append, h.l, live_len], h.f, h.u, by show X.ops + 1 = _; rw [h.o], h.w⟩
theorem LiveX.small {X : DevX} {k : Nat} {o : Int} (h : LiveX X k o) (hk : k ≤ 1000) (ho : o ≤ 1000) : DevP.Small X := by
  refine ⟨?_, ?_, ?_⟩
  · rw [h.o]; omega
  · rw [h.h, h.l]; omega
  · rw [h.w]; omega
theorem cut_live : LiveX (cutD (DevP.new 1) 0) 0 1 := ⟨rfl, rfl, rfl, rfl, rfl, rfl⟩
theorem rec_keep {w w' : World} {b lb mb : Nat} {A A' : Option Addr} {bs bs' : List Nat} {cs : Array Value} (h : Str w b cs) (ho : Offs w w' lb mb A bs A' bs') (h1 : b ≠ lb) (h2 : b ≠ mb) (h3 : ∀ a, A = some a → a.block ≠ b) (h4 : b ∉ bs) : Hid (Str w' b cs) ∧ (∀ a, A' = some a → a.block ≠ b) ∧ b ∉ bs' := by
  obtain ⟨e1, e2, e3⟩ := ho b h.lt h1 h2 h3 h4
  obtain ⟨t, ht⟩ := h
  exact ⟨Lib.hid ⟨t, e1.trans ht⟩, e2, e3⟩
theorem whole00 : RowsP.Whole [] 0 0 := ⟨Nat.le_refl _, by rw [RowsP.at_zero]; exact Nat.le_refl _, .inl rfl⟩
set_option maxRecDepth 100000 in
set_option maxHeartbeats 8000000 in
theorem live_any (w : World) : Calls Tryz.prog 4 #[] w fun e w' => e = .returned (.bool true) ∧ Below w.heap.size w w' := by
  go_enter Tryz.func4, Tryz.ntmps4
  go_wp2_with fail
  refine (DevW.new_any 1 w).mono ?_
  rintro e W1 ⟨d, bs, rfl, hD, hbs, hb1⟩
  rw [show DevP.many 1 = 1 from rfl] at hD
  have hw1 := hb1.size
  have HD := Lib.hid hD
  have HBS := Lib.hid hbs
  have HB1 := Lib.hid hb1
  clear hD hbs hb1
  go_wp2_with fail
  refine (load_any w.heap.size d bs 70 (DevP.new 1) [] 0 0 W1 HD.out HBS.out hw1 (by omega) (by omega) whole00 (fun x hx => by cases hx) rfl (by simp [RowsP.allB]) rfl rfl rfl ⟨by decide, by decide, by decide⟩ (by rw [RowsP.at_zero]; exact ⟨by decide, by decide, by decide⟩) (by simp) (by omega)).mono ?_
  rintro e W2 ⟨lb, mb, A2, c2, bs2, L2, rfl, hk2, hL2, -, hlb, hmb, hA2, hn2⟩
  rw [RowsP.at_zero] at hL2
  have hb2 : Below w.heap.size W1 W2 := hk2.below hw1 HBS.out
  have hH2 : Hi w.heap.size lb mb A2 bs2 := ⟨by omega, by omega, fun a e => by have := hA2 a e; omega, fun b hb => by rcases hn2 b hb with h | h; exact HBS.out b h; omega⟩
  have H2 := Lib.hid hL2
  have HH2 := Lib.hid hH2
  have HB2 := Lib.hid (HB1.out.trans hb2)
  have hw2 := HB2.out.size
  clear hb2 hL2 hH2 hk2 hA2 hn2
  obtain ⟨W30, hW30⟩ : ∃ W, W2.alloc (.cells #[.int .i64 0, .int .i64 0, .int .i64 0, .int .i64 0, .slice none 0 0, .int .i64 0, .string ⟨#[]⟩, .int .i64 0, .string ⟨#[]⟩, .int .i64 0, .slice none 0 0, .int .i64 0, .int .i64 0, .int .i64 0, .int .i64 0] 40) = W := ⟨_, rfl⟩
  obtain ⟨HS30, HB30, hw30, hz30⟩ := new1 hW30
  have gs30 := str15 HS30.out
  have gsf30 := fun j => HS30.out.frozen j
  have hls30 := HS30.out.lt
  obtain ⟨W3, hW3⟩ : ∃ W, (((((((((((((((W30).setCell ⟨W2.heap.size, 0, none⟩ (.int .i64 4)).setCell ⟨W2.heap.size, 1, none⟩ (.int .i64 1)).setCell ⟨W2.heap.size, 2, none⟩ (.int .i64 0)).setCell ⟨W2.heap.size, 3, none⟩ (.int .i64 0)).setCell ⟨W2.heap.size, 4, none⟩ (.slice none 0 0)).setCell ⟨W2.heap.size, 5, none⟩ (.int .i64 0)).setCell ⟨W2.heap.size, 6, none⟩ (.string ⟨#[]⟩)).setCell ⟨W2.heap.size, 7, none⟩ (.int .i64 0)).setCell ⟨W2.heap.size, 8, none⟩ (.string ⟨#[]⟩)).setCell ⟨W2.heap.size, 9, none⟩ (.int .i64 0)).setCell ⟨W2.heap.size, 10, none⟩ (.slice none 0 0)).setCell ⟨W2.heap.size, 11, none⟩ (.int .i64 0)).setCell ⟨W2.heap.size, 12, none⟩ (.int .i64 0)).setCell ⟨W2.heap.size, 13, none⟩ (.int .i64 0)).setCell ⟨W2.heap.size, 14, none⟩ (.int .i64 0) = W := ⟨_, rfl⟩
  have hg3 : W30.grownBy W3 (some W2.heap.size) := by rw [← hW3]; exact grown_set (grown_set (grown_set (grown_set (grown_set (grown_set (grown_set (grown_set (grown_set (grown_set (grown_set (grown_set (grown_set (grown_set (grown_set (grown_refl W30 _) 0 _) 1 _) 2 _) 3 _) 4 _) 5 _) 6 _) 7 _) 8 _) 9 _) 10 _) 11 _) 12 _) 13 _) 14 _
  have HS3 : Hid (Str W3 W2.heap.size #[.int .i64 4, .int .i64 1, .int .i64 0, .int .i64 0, .slice none 0 0, .int .i64 0, .string ⟨#[]⟩, .int .i64 0, .string ⟨#[]⟩, .int .i64 0, .slice none 0 0, .int .i64 0, .int .i64 0, .int .i64 0, .int .i64 0]) := Lib.hid (by
    have := (((((((((((((((HS30.out).set 0 (.int .i64 4)).set 1 (.int .i64 1)).set 2 (.int .i64 0)).set 3 (.int .i64 0)).set 4 (.slice none 0 0)).set 5 (.int .i64 0)).set 6 (.string ⟨#[]⟩)).set 7 (.int .i64 0)).set 8 (.string ⟨#[]⟩)).set 9 (.int .i64 0)).set 10 (.slice none 0 0)).set 11 (.int .i64 0)).set 12 (.int .i64 0)).set 13 (.int .i64 0)).set 14 (.int .i64 0)
    rw [← hW3]; simpa using this)
  have HB3 := Lib.hid (below_grown HB30.out hg3 (Nat.le_refl _))
  have hw3 := HB3.out.size
  clear hg3
  have H3 := Lib.hid (H2.out.next HB3.out)
  have HC3 := Lib.hid (bstep HB2.out HB3.out)
  have hn1 : W2.heap.size ≠ lb := by have := H2.out.box.lt; omega
  have hn2 : W2.heap.size ≠ mb := by have := H2.out.map.lt; omega
  have hn3 : ∀ a, A2 = some a → a.block ≠ W2.heap.size := fun a e => by have := IntE.lt H2.out.row a e; omega
  have hn4 : W2.heap.size ∉ bs2 := fun hb => by have := H2.out.dev.lt _ hb; omega
  have HN := Lib.hid (And.intro hn1 (And.intro hn2 (And.intro hn3 hn4)))
  have LX3 := Lib.hid cut_live
  obtain ⟨X3, hX3⟩ : ∃ X, cutD (DevP.new 1) 0 = X := ⟨_, rfl⟩
  rw [hX3] at H3 LX3
  have h30 : X3.head + (X3.log.length : Nat) + (((RecP.bytes ⟨4, 1, 0, 0, [], ⟨0, ⟨#[]⟩, ⟨0, ⟨#[]⟩, ⟨0, [], 0, 0, 0⟩⟩, 0⟩⟩).length : Nat) : Int) = 33 := by rw [LX3.out.h, LX3.out.l, live_len]; rfl
  have HE3 := Lib.hid h30
  have hls3 := HS3.out.lt
  have gs3 := str15 HS3.out
  clear hz30 hn1 hn2 hn3 hn4 h30
  go_wp2_with fail
  refine (append_gen w.heap.size 4 1 0 0 [] 0 ⟨#[]⟩ 0 ⟨#[]⟩ 0 [] 0 0 0 0 none 0 0 none 0 0 0 W3 (Elems.none_ _ _ _) (Bytes.none_ _ _) H3.out HH2.out HC3.out.size (LX3.out.small (by omega) (by omega)) LX3.out.f LX3.out.u (by omega) (by omega) (by omega) (by decide) (by decide) RecP.live_fits (LX3.out.app.small (by omega) (by omega)) (by decide) (by omega) (by rw [LX3.out.l, live_len]; decide)).mono ?_
  rintro e W4 ⟨A4, c4, bs4, L4, rfl, hb4, h4, hh4, ho4⟩
  have LX4 := Lib.hid LX3.out.app
  obtain ⟨X4, hX4⟩ : ∃ X, appX X3 (RecP.bytes ⟨4, 1, 0, 0, [], ⟨0, ⟨#[]⟩, ⟨0, ⟨#[]⟩, ⟨0, [], 0, 0, 0⟩⟩, 0⟩⟩) = X := ⟨_, rfl⟩
  rw [hX4] at h4 LX4
  rw [HE3.out, show max (0 + 0 : Int) 0 = 0 from rfl] at h4
  rw [HE3.out]
  obtain ⟨HS4, hn3, hn4⟩ := rec_keep HS3.out ho4 HN.out.1 HN.out.2.1 HN.out.2.2.1 HN.out.2.2.2
  have HN4 := Lib.hid (And.intro HN.out.1 (And.intro HN.out.2.1 (And.intro hn3 hn4)))
  have H4 := Lib.hid h4
  have HH4 := Lib.hid hh4
  have HC4 := Lib.hid (HC3.out.trans hb4)
  have h40 : X4.head + (X4.log.length : Nat) + (((RecP.bytes ⟨4, 1, 0, 0, [], ⟨0, ⟨#[]⟩, ⟨0, ⟨#[]⟩, ⟨0, [], 0, 0, 0⟩⟩, 0⟩⟩).length : Nat) : Int) = 66 := by rw [LX4.out.h, LX4.out.l, live_len]; rfl
  have HE4 := Lib.hid h40
  clear gs30 gsf30 hls30 gs3 hls3 hb4 h4 hh4 ho4 hn3 hn4 h40 H3
  have gs4 := str15 HS4.out
  have hls4 := HS4.out.lt
  go_wp2_with fail
  refine (append_gen w.heap.size 4 1 0 0 [] 0 ⟨#[]⟩ 0 ⟨#[]⟩ 0 [] 0 0 0 0 none 0 0 none 0 0 0 W4 (Elems.none_ _ _ _) (Bytes.none_ _ _) H4.out HH4.out HC4.out.size (LX4.out.small (by omega) (by omega)) LX4.out.f LX4.out.u (by omega) (by omega) (by omega) (by decide) (by decide) RecP.live_fits (LX4.out.app.small (by omega) (by omega)) (by decide) (by omega) (by rw [LX4.out.l, live_len]; decide)).mono ?_
  rintro e W5 ⟨A5, c5, bs5, L5, rfl, hb5, h5, hh5, ho5⟩
  have LX5 := Lib.hid LX4.out.app
  obtain ⟨X5, hX5⟩ : ∃ X, appX X4 (RecP.bytes ⟨4, 1, 0, 0, [], ⟨0, ⟨#[]⟩, ⟨0, ⟨#[]⟩, ⟨0, [], 0, 0, 0⟩⟩, 0⟩⟩) = X := ⟨_, rfl⟩
  rw [hX5] at h5 LX5
  rw [HE4.out, show max (0 + 0 : Int) 0 = 0 from rfl] at h5
  rw [HE4.out]
  obtain ⟨HS5, hn3, hn4⟩ := rec_keep HS4.out ho5 HN4.out.1 HN4.out.2.1 HN4.out.2.2.1 HN4.out.2.2.2
  have H5 := Lib.hid h5
  have HH5 := Lib.hid hh5
  have HC5 := Lib.hid (HC4.out.trans hb5)
  clear gs4 hls4 hb5 h5 hh5 ho5 hn3 hn4 H4
  have gs5 := str15 HS5.out
  have hls5 := HS5.out.lt
  go_wp2_with fail
  refine (append_fullG w.heap.size 4 1 0 0 [] 0 ⟨#[]⟩ 0 ⟨#[]⟩ 0 [] 0 0 0 0 none 0 0 none 0 0 0 W5 (Elems.none_ _ _ _) (Bytes.none_ _ _) H5.out HH5.out HC5.out.size (LX5.out.small (by omega) (by omega)) LX5.out.f LX5.out.u (by omega) (by omega) (by omega) (by decide) (by decide) RecP.live_fits (LX5.out.app.small (by omega) (by omega)) (by decide) (by omega) (by rw [LX5.out.l, live_len]; decide)).mono ?_
  rintro e W6 ⟨rfl, hb6, h6⟩
  have HC6 := Lib.hid (bstep HC5.out hb6)
  clear gs5 hls5 hb6 h6
  go_wp2_with fail
  refine (code_any _ _).mono ?_
  rintro e w' ⟨rfl, rfl⟩
  go_wp2_with fail
  refine (code_any _ _).mono ?_
  rintro e w' ⟨rfl, rfl⟩
  go_wp2_with fail
  refine (code_any _ _).mono ?_
  rintro e w' ⟨rfl, rfl⟩
  go_wp2_with fail
  refine (code_any _ _).mono ?_
  rintro e w' ⟨rfl, rfl⟩
  go_wp2
  go_ret
  exact ⟨rfl, HC6.out⟩
end Go.Proofs.YtpdfnlhhnodnjaaGreat.WalW
end
section
namespace Go.Proofs.YtpdfnlhhnodnjaaGreat
open Go.RowKit
set_option linter.unusedVariables false
set_option linter.unusedSectionVars false
namespace Reg
/-- the parts: the box and its field, the slice in it, what comes behind; the slots of the slice, the row of one, the new slice -/
structure PushQ {α : Type} (E : El α) where
  N : Nat
  d : Nat
  f : Nat
  box : Array Value
  A : Option Addr
  n : Nat
  c : Nat
  l : List α
  x : α
  T : TypeId
  t0 : Tmp
  t1 : Tmp
  t2 : Tmp
section
variable {α : Type} {E : El α} {I : PushQ E} {a : Act} {w w' : World} {b : Bool} {dst : Option Tmp} {v : Value} {P : Program}
def PushQ.Side (I : PushQ E) (b : Bool) (a : Act) (w : World) : Prop := b = true → ∃ g vs, a.eval (.tmp I.t1) = .slice (some ⟨g, 0, none⟩) 1 1 ∧ Str w g vs.toArray ∧ E.rel w w.heap.size vs I.x
def PushQ.Row (I : PushQ E) (w : World) (A' : Option Addr) (c' : Nat) : Prop := OwnE E I.T w 0 A' (I.n + 1) c' (I.l ++ [I.x]) ∧ ∀ p, A' = some p → I.A = some p ∨ I.N ≤ p.block
def PushQ.S (I : PushQ E) : LS := fun k b a w => match k with
  | 0 => Str w I.d I.box ∧ OwnE E I.T w 0 I.A I.n I.c I.l ∧ I.Side b a w
  | 1 => a.eval (.tmp I.t0) = .slice I.A I.n I.c ∧ Str w I.d I.box ∧ OwnE E I.T w 0 I.A I.n I.c I.l ∧ I.Side b a w
  | 2 => b = true ∧ ∃ A' c', a.eval (.tmp I.t2) = .slice A' (I.n + 1) c' ∧ Str w I.d I.box ∧ I.Row w A' c'
  | _ => b = true ∧ ∃ A' c', Str w I.d (I.box.setIfInBounds I.f (.slice A' (I.n + 1) c')) ∧ I.Row w A' c'
theorem PushQ.Side.put (hE : E.Pure) (hd : dst ≠ some I.t1) (h : I.Side b a w) (hb : Below w.heap.size w w') : I.Side b (a.put dst v) w' := fun e => by
  obtain ⟨g, vs, h1, h2, h3⟩ := h e
  exact ⟨g, vs, by rw [eval_ne hd]; exact h1, h2.next hb, hE _ _ _ _ _ _ h3⟩
theorem PushQ.Row.next {A' : Option Addr} {c' : Nat} (h : I.Row w A' c') (hb : Below w.heap.size w w') : I.Row w' A' c' := ⟨h.1.next hb, h.2⟩
theorem PushQ.S_put (hE : E.Pure) (hd : dst ≠ some I.t0 ∧ dst ≠ some I.t1 ∧ dst ≠ some I.t2) (k : Nat) (h : I.S k b a w) (hb : Below w.heap.size w w') : I.S k b (a.put dst v) w' := by
  match k, h with
  | 0, h => exact ⟨h.1.next hb, h.2.1.next hb, h.2.2.put hE hd.2.1 hb⟩
  | 1, h => exact ⟨by rw [eval_ne hd.1]; exact h.1, h.2.1.next hb, h.2.2.1.next hb, h.2.2.2.put hE hd.2.1 hb⟩
  | 2, h =>
    obtain ⟨e, A', c', h1, h2, h3⟩ := h
    exact ⟨e, A', c', by rw [eval_ne hd.2.2]; exact h1, h2.next hb, h3.next hb⟩
  | _ + 3, h =>
    obtain ⟨e, A', c', h2, h3⟩ := h
    exact ⟨e, A', c', h2.next hb, h3.next hb⟩
/-- the slice is read -/
theorem PushQ.S_zero (hE : E.Pure) (h : I.S 0 b a w) (ha : I.t0 < a.tmps.size) (hd : I.t0 ≠ I.t1) : I.S 1 b (a.put (some I.t0) (.slice I.A I.n I.c)) w :=
  ⟨eval_put_same ha, h.1, h.2.1, h.2.2.put hE (fun e => hd (Option.some.inj e)) (bsame w)⟩
/-- the row of one is made -/
theorem PushQ.S_side (hE : E.Pure) (k : Nat) (h : I.S k false a w) (ha : I.t1 < a.tmps.size) (hd : I.t1 ≠ I.t0) (vs : List Value) (TE : TypeId) (hr : E.rel w w.heap.size vs I.x) :
    I.S k true (a.put (some I.t1) (.slice (some ⟨w.heap.size, 0, none⟩) 1 1)) (w.alloc (.cells vs.toArray TE)) := by
  have hb : Below w.heap.size w (w.alloc (.cells vs.toArray TE)) := balloc (bsame w) _
  have hside : I.Side true (a.put (some I.t1) (.slice (some ⟨w.heap.size, 0, none⟩) 1 1)) (w.alloc (.cells vs.toArray TE)) := fun _ => ⟨_, vs, eval_put_same ha, Str.new w _ _, hE _ _ _ _ _ _ hr⟩
  match k, h with
  | 0, h => exact ⟨h.1.next hb, h.2.1.next hb, hside⟩
  | 1, h => exact ⟨by rw [eval_ne (fun e => hd (Option.some.inj e))]; exact h.1, h.2.1.next hb, h.2.2.1.next hb, hside⟩
  | 2, h => exact absurd h.1 (by decide)
  | _ + 3, h => exact absurd h.1 (by decide)
/-- the append -/
theorem PushQ.S_one (hE : E.Pure) (t ty : TypeId) (i : TypeInfo) (z : Value) (bytes : Nat) (ht : P.underlying t = some (.slice I.T)) (hi : P.info? I.T = some i) (hz : i.zero = some z) (hs : i.size = E.size) (hby : i.bytes = bytes) (hzs : z.cells.size = E.size)
    (h : I.S 1 true a w) (ha : I.t2 < a.tmps.size) (hN : I.N ≤ w.heap.size) (hne : ∀ p, I.A = some p → p.block ≠ I.d) (hn : I.n + 1 ≤ maxLen) (hbytes : (I.n + 1) * bytes ≤ 140737488355328) :
    ∃ A2 A' c' w', a.eval (.tmp I.t0) = .slice I.A I.n I.c ∧ a.eval (.tmp I.t1) = .slice A2 1 1 ∧ (appSem #[t, t] ty #[.slice I.A I.n I.c, .slice A2 1 1]).run P w = .ok (.slice A' (I.n + 1) c') w' ∧ I.S 2 true (a.put (some I.t2) (.slice A' (I.n + 1) c')) w' ∧ KeepB I.N (I.d :: (I.A.map (·.block)).toList) w w' := by
  obtain ⟨h1, h2, h3, h4⟩ := h
  obtain ⟨g, vs, hg1, hg2, hg3⟩ := h4 rfl
  have hrow : ElemsIn E (hid I.A w) w w.heap.size (some ⟨g, 0, none⟩) 1 1 [I.x] := by
    refine ⟨[vs], ⟨hE _ _ _ _ _ _ hg3, trivial⟩, rfl, Nat.le_refl _, by unfold maxLen; omega, fun _ => ⟨g, 0, rfl, hg2.lt, fun j v hv => ?_⟩⟩
    rw [show [vs].flatten = vs by simp] at hv
    rw [Nat.zero_add, hg2.cell j]
    simpa using hv
  obtain ⟨A', c', w', k1, k2, k3, k4, k5⟩ := h3.app (P := P) t ty i z bytes ht hi hz hs hby hzs hrow hn hbytes (Nat.zero_le _)
  refine ⟨_, A', c', w', h1, hg1, k1, ⟨rfl, A', c', eval_put_same ha, Str.by_ h2 k4 (fun e => ?_), k2, fun p hp => ?_⟩, ⟨k4.os, k4.tape, k4.output, k4.size, fun j hj hn => k4.block j (by omega) (fun e => hn ?_)⟩⟩
  · cases hA : I.A with
    | none => rw [hA] at e; cases e
    | some ad =>
      rw [hA] at e
      exact hne ad hA (by simpa [Value.ownBlock] using e)
  · rcases k5 with e | ⟨q, e, e2⟩
    · exact .inl (by rw [← e]; exact hp)
    · right
      rw [hp] at e
      cases e
      omega
  · cases hA : I.A with
    | none => rw [hA] at e; cases e
    | some ad =>
      rw [hA] at e
      have h6 : ad.block = j := by simpa [Value.ownBlock] using e.symm
      simp [h6]
/-- the store -/
theorem PushQ.S_two (hE : E.Pure) (h : I.S 2 true a w) (hdN : I.d < I.N) (hne : ∀ p, I.A = some p → p.block ≠ I.d) :
    ∃ A' c', a.eval (.tmp I.t2) = .slice A' (I.n + 1) c' ∧ Str w I.d I.box ∧ I.S 3 true a (w.setCell ⟨I.d, I.f, none⟩ (.slice A' (I.n + 1) c')) := by
  obtain ⟨-, A', c', h1, h2, h3⟩ := h
  refine ⟨A', c', h1, h2, rfl, A', c', h2.set I.f _, h3.1.grownP hE (grown_set (grown_refl w _) I.f _) (fun ad e e2 => ?_), h3.2⟩
  injection e2 with e2
  rcases h3.2 ad e with h4 | h4
  · exact hne ad h4 e2.symm
  · omega
end
end Reg
end Go.Proofs.YtpdfnlhhnodnjaaGreat
end
section
namespace Go.Proofs.YtpdfnlhhnodnjaaGreat
namespace Reg
set_option linter.unusedVariables false
def noDefer : Op → Bool
  | .defer _ => false
  | _ => true
/-- the region's end, and no other way out -/
def Only (Q : Exit → Act → World → Prop) : Exit → Act → World → Prop := fun e a w => e = .normal ∧ Q e a w
section
variable {P : Program} {ops : Array Oper} {Q : Exit → Act → World → Prop} {n l : Nat}
theorem lets_only : ¬ LetsOut (Only Q) := fun ⟨_, _, h, _⟩ => by cases h
theorem opIn {o : Oper} {a : Act} {w : World} {K : Act → World → Prop} (hd : noDefer o.op = true) (h : o.wp P a w K (Only Q)) : o.wpIn (Fence.wide.inRound l) n P a w K Q := by
  unfold Oper.wp at h
  unfold Oper.wpIn
  refine ⟨fun _ _ => trivial, ?_⟩
  rw [Oper.semAt_eq _ _ _ (fun c e => by rw [e] at hd; cases hd)]
  generalize (execOp a.eval o).run P w = r at *
  cases r with
  | ok x w' =>
    cases x with
    | value v => exact h
    | skip => exact h
    | «defer» d => exact h
    | enter f args =>
      refine ⟨fun hd => (by cases hd), ((callsIn_wide.2 h).mono ?_).inRound l⟩
      intro e w'' he
      cases e with
      | returned v => exact he
      | panicked ch => exact absurd he.1 (by simp)
      | outgrown => exact absurd he lets_only
    | row row args =>
      refine ⟨fun hd => (by cases hd), fun c cs _ => ?_⟩
      obtain ⟨v, w'', r, s⟩ := h c cs
      exact ⟨v, w'', r, stepsIn_wide.2 s⟩
    | _ => exact h.elim
  | halt x w' =>
    cases x with
    | panic v => exact absurd h.1 (by simp)
    | _ => exact h.elim
theorem anyIn (hd : (ops.toList.all fun o => noDefer o.op) = true) {md : Region.Mode} : ∀ (fuel : Nat) (listed : Array Bool) (a : Act) (w : World), wpAny P md ops (Only Q) fuel listed a w → wpAnyIn (Fence.wide.inRound l) n P md ops Q fuel listed a w
  | 0, listed, a, w, h => ⟨h.1, h.2.2⟩
  | fuel + 1, listed, a, w, h => by
    refine ⟨fun hr => (h.1 hr).2, fun i hi => ?_⟩
    have h2 := h.2 i hi
    unfold wpOp at h2
    unfold wpOpIn
    cases ho : ops[i]? with
    | none => rw [ho] at h2; exact anyIn hd fuel _ a w h2
    | some o =>
      rw [ho] at h2
      dsimp only at h2 ⊢
      have hdo : noDefer o.op = true := List.all_eq_true.1 hd o (Array.mem_toList_iff.2 (Array.mem_of_getElem? ho))
      split
      · rename_i hw
        rw [if_pos hw] at h2
        rcases h2 with h2 | ⟨-, h2⟩
        · exact opIn hdo (Oper.wp_mono (fun a' w' h => anyIn hd fuel _ a' w' h) h2)
        · exact absurd h2 lets_only
      · rename_i hw
        rw [if_neg hw] at h2
        exact ⟨fun _ _ => trivial, anyIn hd fuel _ _ w h2⟩
end
section
variable {R : Way} {P : Program} {ops : Array Oper} {Q : Exit → Act → World → Prop} {a0 : Act} {W : World}
/-- THE LAW, inside a round -/
theorem wpIn_region_vals {id l m : Nat} (T : List (SP R)) (n : Nat) (L : List (List (Tmp × Option Nat))) (hn : a0.tmps.size = n) (hm : P.follows .mixedOrders = true) (hc : checkB ops n = true) (hL : lookAll ops 0 ops.toList = L) (hobl : Obls P ops (Only Q) T a0 W 0 ops.toList L)
    (D : List (Option Tmp)) (hD : ops.toList.map (·.dst) = D) (hfin : ∀ w', R.rel W w' → Fin (Q .normal) w' D T a0) (hd : (ops.toList.all fun o => noDefer o.op) = true := by kernel_rfl) : (Code.region id ops true).wpIn (Fence.wide.inRound l) m P Q a0 W := by
  subst hn
  subst hL
  subst hD
  refine wpIn_region_any hm (anyIn hd _ _ _ _ (wpAny_vals (form_of hc) hobl (fun w' hw => fin_mono (fun _ _ h => ⟨rfl, h⟩) _ _ _ (hfin w' hw)) _ _ _ _ (by simp) ⟨R.drew W, rfl, rfl, by simp, fun _ _ => rfl, fun i o ho hl => ?_, fun i o ho hl e he hb => ?_⟩))
  · have hlt := (Array.getElem?_eq_some_iff.1 ho).1
    simp [hlt] at hl
  · have hlt := (Array.getElem?_eq_some_iff.1 ho).1
    simp [hlt] at hl
end
end Reg
end Go.Proofs.YtpdfnlhhnodnjaaGreat
end
