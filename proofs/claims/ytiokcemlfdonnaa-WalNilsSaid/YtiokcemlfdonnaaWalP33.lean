/-
  Parts of the proof of WalNils.
-/
import Derived.Test.YtiokcemlfdonnaaWalP7
import Derived.Test.YtiokcemlfdonnaaWalP31
import Derived.Test.YtiokcemlfdonnaaWalP32
import Derived.Test.YtiokcemlfdonnaaWalP3
import Derived.Test.YtiokcemlfdonnaaWalP10
section
namespace Go.Proofs.Ytiokcemlfdonnaa.WalW
open Go.RowKit RecW
set_option linter.unusedVariables false
set_option linter.unusedSimpArgs false
set_option maxRecDepth 100000 in
set_option maxHeartbeats 1000000 in
theorem load_nil (n : Int) (w : World) : Calls Try.prog 21 #[.pointer none, .int .i64 n] w fun e w' => e = .returned (.tuple #[.pointer none, .int .i64 4]) ∧ w = w' := by
  go_enter Try.func21, Try.ntmps21
  go_wp2
  exact bodyPost_ret (v := .tuple #[.pointer none, .int .i64 4]) (by simp [results, Try.results21, go_sem, *]) rfl ⟨rfl, rfl⟩
set_option maxRecDepth 100000 in
set_option maxHeartbeats 1000000 in
theorem force_nil (n : Int) (w : World) : Calls Try.prog 24 #[.pointer none, .int .i64 n] w fun e w' => e = .returned (.int .i64 4) ∧ w = w' := by
  go_enter Try.func24, Try.ntmps24
  go_wp2
  go_ret
  exact ⟨rfl, rfl⟩
set_option maxRecDepth 100000 in
set_option maxHeartbeats 1000000 in
theorem free_nil (n : Int) (w : World) : Calls Try.prog 25 #[.pointer none, .int .i64 n] w fun e w' => e = .returned (.int .i64 4) ∧ w = w' := by
  go_enter Try.func25, Try.ntmps25
  go_wp2
  go_ret
  exact ⟨rfl, rfl⟩
set_option maxRecDepth 100000 in
set_option maxHeartbeats 1000000 in
theorem end_nil (n : Int) (w : World) : Calls Try.prog 26 #[.pointer none] w fun e w' => e = .returned (.int .i64 0) ∧ w = w' := by
  go_enter Try.func26, Try.ntmps26
  go_wp2
  go_ret
  exact ⟨rfl, rfl⟩
set_option maxRecDepth 100000 in
set_option maxHeartbeats 1000000 in
theorem head_nil (n : Int) (w : World) : Calls Try.prog 27 #[.pointer none] w fun e w' => e = .returned (.int .i64 0) ∧ w = w' := by
  go_enter Try.func27, Try.ntmps27
  go_wp2
  go_ret
  exact ⟨rfl, rfl⟩
set_option maxRecDepth 100000 in
set_option maxHeartbeats 1000000 in
theorem forced_nil (n : Int) (w : World) : Calls Try.prog 28 #[.pointer none] w fun e w' => e = .returned (.int .i64 0) ∧ w = w' := by
  go_enter Try.func28, Try.ntmps28
  go_wp2
  go_ret
  exact ⟨rfl, rfl⟩
set_option maxRecDepth 100000 in
set_option maxHeartbeats 1000000 in
theorem kept_nil (n : Int) (w : World) : Calls Try.prog 29 #[.pointer none] w fun e w' => e = .returned (.int .i64 0) ∧ w = w' := by
  go_enter Try.func29, Try.ntmps29
  go_wp2
  go_ret
  exact ⟨rfl, rfl⟩
set_option maxRecDepth 100000 in
set_option maxHeartbeats 1000000 in
theorem room_nil (n : Int) (w : World) : Calls Try.prog 30 #[.pointer none] w fun e w' => e = .returned (.int .i64 0) ∧ w = w' := by
  go_enter Try.func30, Try.ntmps30
  go_wp2
  go_ret
  exact ⟨rfl, rfl⟩
set_option maxRecDepth 100000 in
set_option maxHeartbeats 1000000 in
theorem code_any (n : Int) (w : World) : Calls Try.prog 23 #[.int .i64 n] w fun e w' => e = .returned (.int .i64 n) ∧ w = w' := by
  go_enter Try.func23, Try.ntmps23
  go_wp2
  go_ret
  exact ⟨rfl, rfl⟩
set_option maxRecDepth 100000 in
set_option maxHeartbeats 1000000 in
theorem append_nil (c0 c1 c2 c3 c4 c5 c6 c7 c8 c9 c10 c11 c12 c13 c14 : Value) (n : Int) (w : World) : Calls Try.prog 19 #[.pointer none, .agg #[c0, c1, c2, c3, c4, c5, c6, c7, c8, c9, c10, c11, c12, c13, c14], .int .i64 n] w fun e w' => e = .returned (.tuple #[.int .i64 0, .int .i64 4]) ∧ Below w.heap.size w w' := by
  go_enter Try.func19, Try.ntmps19
  go_wp2
  exact bodyPost_ret (v := .tuple #[.int .i64 0, .int .i64 4]) (by simp [results, Try.results19, go_sem, *]) rfl ⟨rfl, balloc (bsame w) _⟩
set_option maxRecDepth 100000 in
set_option maxHeartbeats 4000000 in
theorem rec_nil (n : Int) (w : World) : Calls Try.prog 20 #[.pointer none, .int .i64 n] w fun e w' => e = .returned (.tuple #[.agg #[.int .i64 0, .int .i64 0, .int .i64 0, .int .i64 0, .slice none 0 0, .int .i64 0, .string ⟨#[]⟩, .int .i64 0, .string ⟨#[]⟩, .int .i64 0, .slice none 0 0, .int .i64 0, .int .i64 0, .int .i64 0, .int .i64 0], .bool false]) ∧ Below w.heap.size w w' := by
  obtain ⟨W0, hW0⟩ : ∃ W, w.alloc (.cells #[.int .i64 0, .int .i64 0, .int .i64 0, .int .i64 0, .slice none 0 0, .int .i64 0, .string ⟨#[]⟩, .int .i64 0, .string ⟨#[]⟩, .int .i64 0, .slice none 0 0, .int .i64 0, .int .i64 0, .int .i64 0, .int .i64 0] 31) = W := ⟨_, rfl⟩
  obtain ⟨HS0, HB0, hw0, hz0⟩ := new1 hW0
  have hl0 := HS0.out.lt
  have g0 := str15 HS0.out
  have gf := fun j => HS0.out.frozen j
  obtain ⟨W8, hW8⟩ : ∃ W, (((((((((((((((W0).setCell ⟨w.heap.size, 0, none⟩ (.int .i64 0)).setCell ⟨w.heap.size, 1, none⟩ (.int .i64 0)).setCell ⟨w.heap.size, 2, none⟩ (.int .i64 0)).setCell ⟨w.heap.size, 3, none⟩ (.int .i64 0)).setCell ⟨w.heap.size, 4, none⟩ (.slice none 0 0)).setCell ⟨w.heap.size, 5, none⟩ (.int .i64 0)).setCell ⟨w.heap.size, 6, none⟩ (.string ⟨#[]⟩)).setCell ⟨w.heap.size, 7, none⟩ (.int .i64 0)).setCell ⟨w.heap.size, 8, none⟩ (.string ⟨#[]⟩)).setCell ⟨w.heap.size, 9, none⟩ (.int .i64 0)).setCell ⟨w.heap.size, 10, none⟩ (.slice none 0 0)).setCell ⟨w.heap.size, 11, none⟩ (.int .i64 0)).setCell ⟨w.heap.size, 12, none⟩ (.int .i64 0)).setCell ⟨w.heap.size, 13, none⟩ (.int .i64 0)).setCell ⟨w.heap.size, 14, none⟩ (.int .i64 0) = W := ⟨_, rfl⟩
  have hg8 : W0.grownBy W8 (some w.heap.size) := by rw [← hW8]; exact grown_set (grown_set (grown_set (grown_set (grown_set (grown_set (grown_set (grown_set (grown_set (grown_set (grown_set (grown_set (grown_set (grown_set (grown_set (grown_refl W0 _) 0 _) 1 _) 2 _) 3 _) 4 _) 5 _) 6 _) 7 _) 8 _) 9 _) 10 _) 11 _) 12 _) 13 _) 14 _
  have hres : Str W8 w.heap.size #[.int .i64 0, .int .i64 0, .int .i64 0, .int .i64 0, .slice none 0 0, .int .i64 0, .string ⟨#[]⟩, .int .i64 0, .string ⟨#[]⟩, .int .i64 0, .slice none 0 0, .int .i64 0, .int .i64 0, .int .i64 0, .int .i64 0] := by
    have := (((((((((((((((HS0.out).set 0 (.int .i64 0)).set 1 (.int .i64 0)).set 2 (.int .i64 0)).set 3 (.int .i64 0)).set 4 (.slice none 0 0)).set 5 (.int .i64 0)).set 6 (.string ⟨#[]⟩)).set 7 (.int .i64 0)).set 8 (.string ⟨#[]⟩)).set 9 (.int .i64 0)).set 10 (.slice none 0 0)).set 11 (.int .i64 0)).set 12 (.int .i64 0)).set 13 (.int .i64 0)).set 14 (.int .i64 0)
    rw [← hW8]; simpa using this
  have HFIN := Lib.hid (below_grown HB0.out hg8 (Nat.le_refl _))
  have gz := str15 hres
  clear hg8 hres
  go_enter Try.func20, Try.ntmps20
  go_wp2
  exact bodyPost_ret (v := .tuple #[.agg #[.int .i64 0, .int .i64 0, .int .i64 0, .int .i64 0, .slice none 0 0, .int .i64 0, .string ⟨#[]⟩, .int .i64 0, .string ⟨#[]⟩, .int .i64 0, .slice none 0 0, .int .i64 0, .int .i64 0, .int .i64 0, .int .i64 0], .bool false]) (by simp [results, Try.results20, go_sem, *]) rfl ⟨rfl, HFIN.out⟩
set_option maxRecDepth 100000 in
set_option maxHeartbeats 1000000 in
theorem all_nil (w : World) : Calls Try.prog 22 #[.pointer none] w fun e w' => e = .returned (.func (.func 63) #[] #[.pointer (some ⟨w.heap.size, 0, none⟩)]) ∧ w.alloc (.cells #[.pointer none] 47) = w' := by
  go_enter Try.func22, Try.ntmps22
  go_wp2
  go_ret
  exact ⟨rfl, rfl⟩
end Go.Proofs.Ytiokcemlfdonnaa.WalW
end
section
namespace Go.Proofs.Ytiokcemlfdonnaa.WalW
open Go.RowKit Go.Maps RecW
set_option linter.unusedVariables false
set_option linter.unusedSimpArgs false
theorem live_len : (RecP.bytes ⟨4, 1, 0, 0, [], ⟨0, ⟨#[]⟩, ⟨0, ⟨#[]⟩, ⟨0, [], 0, 0, 0⟩⟩, 0⟩⟩).length = 33 := by rw [RecP.bytes_length _ RecP.live_fits, RecP.live_len]
/-- the device of the example, whose log is so long -/
structure LiveX (X : DevX) (k : Nat) (o : Int) : Prop where
  h : X.head = 0
  l : X.log.length = k
  f : X.off = false
  u : X.fused = false
  o : X.ops = o
  w : X.wr = 0
theorem LiveX.app {X : DevX} {k : Nat} {o : Int} (h : LiveX X k o) : LiveX (appX X (RecP.bytes ⟨4, 1, 0, 0, [], ⟨0, ⟨#[]⟩, ⟨0, ⟨#[]⟩, ⟨0, [], 0, 0, 0⟩⟩, 0⟩⟩)) (k + 33) (o + 1) :=
  ⟨h.h, by show (X.log ++ _).length = _; rw [List.length_append, h.l, live_len], h.f, h.u, by show X.ops + 1 = _; rw [h.o], h.w⟩
theorem LiveX.small {X : DevX} {k : Nat} {o : Int} (h : LiveX X k o) (hk : k ≤ 1000) (ho : o ≤ 1000) : DevP.Small X := by
  refine ⟨?_, ?_, ?_⟩
  · rw [h.o]; omega
  · rw [h.h, h.l]; omega
  · rw [h.w]; omega
theorem cut_live : LiveX cutX 0 1 := ⟨rfl, rfl, rfl, rfl, rfl, rfl⟩
theorem rec_keep {w w' : World} {b lb mb : Nat} {A A' : Option Addr} {bs bs' : List Nat} {cs : Array Value} (h : Str w b cs) (ho : Offs w w' lb mb A bs A' bs') (h1 : b ≠ lb) (h2 : b ≠ mb) (h3 : ∀ a, A = some a → a.block ≠ b) (h4 : b ∉ bs) : Hid (Str w' b cs) ∧ (∀ a, A' = some a → a.block ≠ b) ∧ b ∉ bs' := by
  obtain ⟨e1, e2, e3⟩ := ho b h.lt h1 h2 h3 h4
  obtain ⟨t, ht⟩ := h
  exact ⟨Lib.hid ⟨t, e1.trans ht⟩, e2, e3⟩
set_option maxRecDepth 100000 in
set_option maxHeartbeats 8000000 in
theorem live_any (w : World) : Calls Try.prog 18 #[] w fun e w' => e = .returned (.bool true) ∧ Below w.heap.size w w' := by
  go_enter Try.func18, Try.ntmps18
  go_wp2_with fail
  refine (DevW.new_any 1 w).mono ?_
  rintro e W1 ⟨d, bs, rfl, hD, hbs, hb1⟩
  rw [show DevP.many 1 = 1 from rfl] at hD
  have hw1 := hb1.size
  have HD := Lib.hid hD
  have HBS := Lib.hid hbs
  have HB1 := Lib.hid hb1
  clear hD hbs hb1
  go_wp2_with fail
  refine (load_new w.heap.size d bs 70 W1 HD.out HBS.out hw1 (by omega) (by omega)).mono ?_
  rintro e W2 ⟨lb, d2, mb, bs2, rfl, hb2, hL2, hH2⟩
  have H2 := Lib.hid hL2
  have HH2 := Lib.hid hH2
  have HB2 := Lib.hid (HB1.out.trans hb2)
  have hw2 := HB2.out.size
  clear hb2 hL2 hH2
  obtain ⟨W30, hW30⟩ : ∃ W, W2.alloc (.cells #[.int .i64 0, .int .i64 0, .int .i64 0, .int .i64 0, .slice none 0 0, .int .i64 0, .string ⟨#[]⟩, .int .i64 0, .string ⟨#[]⟩, .int .i64 0, .slice none 0 0, .int .i64 0, .int .i64 0, .int .i64 0, .int .i64 0] 31) = W := ⟨_, rfl⟩
  obtain ⟨HS30, HB30, hw30, hz30⟩ := new1 hW30
  have gs30 := str15 HS30.out
  have gsf30 := fun j => HS30.out.frozen j
  have hls30 := HS30.out.lt
  obtain ⟨W3, hW3⟩ : ∃ W, (((((((((((((((W30).setCell ⟨W2.heap.size, 0, none⟩ (.int .i64 4)).setCell ⟨W2.heap.size, 1, none⟩ (.int .i64 1)).setCell ⟨W2.heap.size, 2, none⟩ (.int .i64 0)).setCell ⟨W2.heap.size, 3, none⟩ (.int .i64 0)).setCell ⟨W2.heap.size, 4, none⟩ (.slice none 0 0)).setCell ⟨W2.heap.size, 5, none⟩ (.int .i64 0)).setCell ⟨W2.heap.size, 6, none⟩ (.string ⟨#[]⟩)).setCell ⟨W2.heap.size, 7, none⟩ (.int .i64 0)).setCell ⟨W2.heap.size, 8, none⟩ (.string ⟨#[]⟩)).setCell ⟨W2.heap.size, 9, none⟩ (.int .i64 0)).setCell ⟨W2.heap.size, 10, none⟩ (.slice none 0 0)).setCell ⟨W2.heap.size, 11, none⟩ (.int .i64 0)).setCell ⟨W2.heap.size, 12, none⟩ (.int .i64 0)).setCell ⟨W2.heap.size, 13, none⟩ (.int .i64 0)).setCell ⟨W2.heap.size, 14, none⟩ (.int .i64 0) = W := ⟨_, rfl⟩
  have hg3 : W30.grownBy W3 (some W2.heap.size) := by rw [← hW3]; exact grown_set (grown_set (grown_set (grown_set (grown_set (grown_set (grown_set (grown_set (grown_set (grown_set (grown_set (grown_set (grown_set (grown_set (grown_set (grown_refl W30 _) 0 _) 1 _) 2 _) 3 _) 4 _) 5 _) 6 _) 7 _) 8 _) 9 _) 10 _) 11 _) 12 _) 13 _) 14 _
  have HS3 : Hid (Str W3 W2.heap.size #[.int .i64 4, .int .i64 1, .int .i64 0, .int .i64 0, .slice none 0 0, .int .i64 0, .string ⟨#[]⟩, .int .i64 0, .string ⟨#[]⟩, .int .i64 0, .slice none 0 0, .int .i64 0, .int .i64 0, .int .i64 0, .int .i64 0]) := Lib.hid (by
    have := (((((((((((((((HS30.out).set 0 (.int .i64 4)).set 1 (.int .i64 1)).set 2 (.int .i64 0)).set 3 (.int .i64 0)).set 4 (.slice none 0 0)).set 5 (.int .i64 0)).set 6 (.string ⟨#[]⟩)).set 7 (.int .i64 0)).set 8 (.string ⟨#[]⟩)).set 9 (.int .i64 0)).set 10 (.slice none 0 0)).set 11 (.int .i64 0)).set 12 (.int .i64 0)).set 13 (.int .i64 0)).set 14 (.int .i64 0)
    rw [← hW3]; simpa using this)
  have HB3 := Lib.hid (below_grown HB30.out hg3 (Nat.le_refl _))
  have hw3 := HB3.out.size
  clear hg3
  have H3 := Lib.hid (H2.out.next HB3.out)
  have HC3 := Lib.hid (bstep HB2.out HB3.out)
  have hn1 : W2.heap.size ≠ lb := by have := H2.out.box.lt; omega
  have hn2 : W2.heap.size ≠ mb := by have := H2.out.map.lt; omega
  have hn3 : ∀ a, (none : Option Addr) = some a → a.block ≠ W2.heap.size := fun a e => by cases e
  have hn4 : W2.heap.size ∉ bs2 := fun hb => by have := H2.out.dev.lt _ hb; omega
  have HN := Lib.hid (And.intro hn1 (And.intro hn2 (And.intro hn3 hn4)))
  have LX3 := Lib.hid cut_live
  obtain ⟨X3, hX3⟩ : ∃ X, cutX = X := ⟨_, rfl⟩
  rw [hX3] at H3 LX3
  have h30 : X3.head + (X3.log.length : Nat) + (((RecP.bytes ⟨4, 1, 0, 0, [], ⟨0, ⟨#[]⟩, ⟨0, ⟨#[]⟩, ⟨0, [], 0, 0, 0⟩⟩, 0⟩⟩).length : Nat) : Int) = 33 := by rw [LX3.out.h, LX3.out.l, live_len]; rfl
  have HE3 := Lib.hid h30
  have hls3 := HS3.out.lt
  have gs3 := str15 HS3.out
  clear hz30 hn1 hn2 hn3 hn4 h30
  go_wp2_with fail
  refine (append_any w.heap.size 4 1 0 0 0 ⟨#[]⟩ 0 ⟨#[]⟩ 0 0 0 0 0 0 W3 H3.out HH2.out HC3.out.size (LX3.out.small (by omega) (by omega)) LX3.out.f LX3.out.u (by omega) (by omega) (by omega) (by decide) (by decide) RecP.live_fits (LX3.out.app.small (by omega) (by omega)) (by decide) (by omega) (by rw [LX3.out.l, live_len]; decide)).mono ?_
  rintro e W4 ⟨A4, c4, bs4, L4, rfl, hb4, h4, hh4, ho4⟩
  have LX4 := Lib.hid LX3.out.app
  obtain ⟨X4, hX4⟩ : ∃ X, appX X3 (RecP.bytes ⟨4, 1, 0, 0, [], ⟨0, ⟨#[]⟩, ⟨0, ⟨#[]⟩, ⟨0, [], 0, 0, 0⟩⟩, 0⟩⟩) = X := ⟨_, rfl⟩
  rw [hX4] at h4 LX4
  rw [HE3.out, show max (0 + 0 : Int) 0 = 0 from rfl] at h4
  rw [HE3.out]
  obtain ⟨HS4, hn3, hn4⟩ := rec_keep HS3.out ho4 HN.out.1 HN.out.2.1 HN.out.2.2.1 HN.out.2.2.2
  have HN4 := Lib.hid (And.intro HN.out.1 (And.intro HN.out.2.1 (And.intro hn3 hn4)))
  have H4 := Lib.hid h4
  have HH4 := Lib.hid hh4
  have HC4 := Lib.hid (HC3.out.trans hb4)
  have h40 : X4.head + (X4.log.length : Nat) + (((RecP.bytes ⟨4, 1, 0, 0, [], ⟨0, ⟨#[]⟩, ⟨0, ⟨#[]⟩, ⟨0, [], 0, 0, 0⟩⟩, 0⟩⟩).length : Nat) : Int) = 66 := by rw [LX4.out.h, LX4.out.l, live_len]; rfl
  have HE4 := Lib.hid h40
  clear gs30 gsf30 hls30 gs3 hls3 hb4 h4 hh4 ho4 hn3 hn4 h40 H3
  have gs4 := str15 HS4.out
  have hls4 := HS4.out.lt
  go_wp2_with fail
  refine (append_any w.heap.size 4 1 0 0 0 ⟨#[]⟩ 0 ⟨#[]⟩ 0 0 0 0 0 0 W4 H4.out HH4.out HC4.out.size (LX4.out.small (by omega) (by omega)) LX4.out.f LX4.out.u (by omega) (by omega) (by omega) (by decide) (by decide) RecP.live_fits (LX4.out.app.small (by omega) (by omega)) (by decide) (by omega) (by rw [LX4.out.l, live_len]; decide)).mono ?_
  rintro e W5 ⟨A5, c5, bs5, L5, rfl, hb5, h5, hh5, ho5⟩
  have LX5 := Lib.hid LX4.out.app
  obtain ⟨X5, hX5⟩ : ∃ X, appX X4 (RecP.bytes ⟨4, 1, 0, 0, [], ⟨0, ⟨#[]⟩, ⟨0, ⟨#[]⟩, ⟨0, [], 0, 0, 0⟩⟩, 0⟩⟩) = X := ⟨_, rfl⟩
  rw [hX5] at h5 LX5
  rw [HE4.out, show max (0 + 0 : Int) 0 = 0 from rfl] at h5
  rw [HE4.out]
  obtain ⟨HS5, hn3, hn4⟩ := rec_keep HS4.out ho5 HN4.out.1 HN4.out.2.1 HN4.out.2.2.1 HN4.out.2.2.2
  have H5 := Lib.hid h5
  have HH5 := Lib.hid hh5
  have HC5 := Lib.hid (HC4.out.trans hb5)
  clear gs4 hls4 hb5 h5 hh5 ho5 hn3 hn4 H4
  have gs5 := str15 HS5.out
  have hls5 := HS5.out.lt
  go_wp2_with fail
  refine (append_full w.heap.size 4 1 0 0 0 ⟨#[]⟩ 0 ⟨#[]⟩ 0 0 0 0 0 0 W5 H5.out HH5.out HC5.out.size (LX5.out.small (by omega) (by omega)) LX5.out.f LX5.out.u (by omega) (by omega) (by omega) (by decide) (by decide) RecP.live_fits (LX5.out.app.small (by omega) (by omega)) (by decide) (by omega) (by rw [LX5.out.l, live_len]; decide)).mono ?_
  rintro e W6 ⟨rfl, hb6, h6⟩
  have HC6 := Lib.hid (bstep HC5.out hb6)
  clear gs5 hls5 hb6 h6
  go_wp2_with fail
  refine (code_any _ _).mono ?_
  rintro e w' ⟨rfl, rfl⟩
  go_wp2_with fail
  refine (code_any _ _).mono ?_
  rintro e w' ⟨rfl, rfl⟩
  go_wp2_with fail
  refine (code_any _ _).mono ?_
  rintro e w' ⟨rfl, rfl⟩
  go_wp2_with fail
  refine (code_any _ _).mono ?_
  rintro e w' ⟨rfl, rfl⟩
  go_wp2
  go_ret
  exact ⟨rfl, HC6.out⟩
end Go.Proofs.Ytiokcemlfdonnaa.WalW
end
section
namespace Go.Proofs.Ytiokcemlfdonnaa
open Go.RowKit
set_option linter.unusedVariables false
set_option linter.unusedSimpArgs false
namespace walNils
open RecW WalW
attribute [local go_sem] Oper.semAt_some
theorem run_equalIn_func_nil {P : Program} (w : World) (d : Nat) (t : TypeId) {a b : Array TypeId} {c : Bool} (h : P.underlying t = some (.func a b c)) (f : Fn) (xs ys : Array Value) : (Op.equalIn (d + 1) t (.func f xs ys) .nilFunc).run P w = .ok false w := by
  simp [Op.equalIn, run_underlying h]
theorem run_eql_func_nil {P : Program} (w : World) (t : TypeId) {a b : Array TypeId} {c : Bool} (h : P.underlying t = some (.func a b c)) (f : Fn) (xs ys : Array Value) : (binOp .eql t (.func f xs ys) .nilFunc).run P w = .ok (.bool false) w := by
  simp only [binOp]
  simp [Op.equal, Op.maxDepth, run_equalIn_func_nil w 9999 t h]
theorem all_seq (b : Nat) (w : World) (hlt : b < w.heap.size) (hc : w.cell? ⟨b, 0, none⟩ = some (.pointer none)) :
    SeqStopsK Fence.wide 4 Try.prog 63 #[.pointer (some ⟨b, 0, none⟩)] (fun _ : Empty => Array.replicate 2 undef) (fun _ _ => True) (fun _ => True) (fun _ => False) 0 w := by
  refine seq_none (fun l W hW => ?_) 2
  have h := all1_nil l b W ((hW.cell (p := ⟨b, 0, none⟩) hlt).trans hc)
  rw [show #[Value.func (.yield l) #[] #[]] ++ #[Value.pointer (some ⟨b, 0, none⟩)] = #[Value.func (.yield l) #[] #[], Value.pointer (some ⟨b, 0, none⟩)] from rfl]
  exact h
set_option maxRecDepth 100000 in
set_option maxHeartbeats 8000000 in
theorem go (kd tx pv nx : Int) (A : Option Addr) (n c : Nat) (l : List PatchX) (pact : Int) (puk : ByteArray) (Ap : Option Addr) (np cp : Nat) (pst : Int) (pk : ByteArray) (pkd : Int) (pda : List UInt8) (plo phi pva : Int) (pun : Int) (no : Int) (w : World) (hE : Elems PatchE w w.heap.size A n c l) (hp : Bytes w w.heap.size Ap np cp pda) (hpk : pk.size ≤ maxLen) (hpuk : puk.size ≤ maxLen) (hun : In64 pun) (hui : SlotP.In ⟨pst, pk, ⟨pkd, pda, plo, phi, pva⟩⟩) :
    Calls Try.prog 6 #[.agg #[.int .i64 kd, .int .i64 tx, .int .i64 pv, .int .i64 nx, .slice A n c, .int .i64 pact, .string puk, .int .i64 pst, .string pk, .int .i64 pkd, .slice Ap np cp, .int .i64 plo, .int .i64 phi, .int .i64 pva, .int .i64 pun], .int .i64 no] w fun e w' => e = .returned (.bool true) ∧ Below w.heap.size w w' := by
  have HE := Lib.hid hE
  have HP := Lib.hid hp
  have HPK := Lib.hid (And.intro hpk hpuk)
  have HUN := Lib.hid (And.intro hun hui)
  clear hE hp hpk hpuk hun hui
  obtain ⟨W0, hW0⟩ : ∃ W, (w.alloc (.cells #[.int .i64 kd, .int .i64 tx, .int .i64 pv, .int .i64 nx, .slice A n c, .int .i64 pact, .string puk, .int .i64 pst, .string pk, .int .i64 pkd, .slice Ap np cp, .int .i64 plo, .int .i64 phi, .int .i64 pva, .int .i64 pun] 31)).alloc (.cells #[.bool false] 4) = W := ⟨_, rfl⟩
  obtain ⟨HS0, HR0, HB0, hw0, hz0⟩ := new2 hW0
  have g0 := str15 HS0.out
  have hl0 := HS0.out.lt
  have hfn := fun W xs ys => run_eql_func_nil (P := Try.prog) W 55 Try.underlying55 (.func 63) xs ys
  refine (callsIn_wide (n := 5)).1 ?_
  refine callsIn_of_wp_marks Try.func6 rfl trivial ?_ rfl
  simp only [Try.ntmps6, List.size_toArray, List.length_cons, List.length_nil, Nat.reduceAdd, Nat.reduceSub, Array.replicate_succ, Array.replicate_zero, List.push_toArray, List.append_toArray, List.nil_append, List.cons_append]
  gi_wp2_with fail
  refine ⟨trivial, ?_⟩
  refine (callsIn_wide.2 (RefRec.much_is kd tx pv nx A n c w.heap.size l pact puk Ap np cp w.heap.size pst pk pkd pda plo phi pva pun W0 (HE.out.below HB0.out) HB0.out.size (HP.out.below HB0.out) HB0.out.size HPK.out.1 HPK.out.2)).mono ?_
  rintro e W1 ⟨rfl, hb1⟩
  have HS1 := Lib.hid (HS0.out.next hb1)
  have HR1 := Lib.hid (HR0.out.next hb1)
  have HB1 := Lib.hid (bstep HB0.out hb1)
  have hw1 := hb1.size
  clear hb1 g0 hl0
  by_cases hA : RefRec.Asked ⟨kd, tx, pv, nx, l, ⟨pact, puk, ⟨pst, pk, ⟨pkd, pda, plo, phi, pva⟩⟩, pun⟩⟩
  case neg =>
    rw [RefRec.not_asked_no hA]
    clear hA
    gi_wp2_with fail
    refine ⟨trivial, ?_⟩
    refine (callsIn_wide.2 (WalW.live_any W1)).mono ?_
    rintro e W2 ⟨rfl, hb2⟩
    have HB2 := Lib.hid (bstep HB1.out hb2)
    have HR2 := Lib.hid (HR1.out.next hb2)
    have r2 : W2.cell? ⟨w.heap.size + 1, 0, none⟩ = some (.bool false) := by simpa using HR2.out.cell 0
    have rf2 := fun j => HR2.out.frozen j
    have hr2 := HR2.out.lt
    clear hb2
    gi_wp2_with fail
    have hg : W2.grownBy (W2.setCell ⟨w.heap.size + 1, 0, none⟩ (.bool true)) (some (w.heap.size + 1)) := grown_set (grown_refl W2 _) 0 _
    have HFIN := Lib.hid (below_grown HB2.out hg (Nat.le_succ _))
    have hrs : Str (W2.setCell ⟨w.heap.size + 1, 0, none⟩ (.bool true)) (w.heap.size + 1) #[.bool true] := by have := HR2.out.set 0 (.bool true); simpa using this
    have rr : (W2.setCell ⟨w.heap.size + 1, 0, none⟩ (.bool true)).cell? ⟨w.heap.size + 1, 0, none⟩ = some (.bool true) := by simpa using hrs.cell 0
    exact ⟨.bool true, by simp [results, Try.results6, go_sem, *], rfl, HFIN.out⟩
  case pos =>
    rw [RefRec.not_asked_yes hA]
    clear hA
    have g1 := str15 HS1.out
    have hl1 := HS1.out.lt
    gi_wp2_with fail
    refine ⟨trivial, ?_⟩
    refine (callsIn_wide.2 (append_nil _ _ _ _ _ _ _ _ _ _ _ _ _ _ _ no W1)).mono ?_
    rintro e W2 ⟨rfl, hb2⟩
    have HB2 := Lib.hid (bstep HB1.out hb2)
    have HR2 := Lib.hid (HR1.out.next hb2)
    have hw2 := hb2.size
    clear hb2 g1 hl1
    gi_wp2_with fail
    refine ⟨trivial, ?_⟩
    refine (callsIn_wide.2 (rec_nil no W2)).mono ?_
    rintro e W3 ⟨rfl, hb3⟩
    have HB3 := Lib.hid (bstep HB2.out hb3)
    have HR3 := Lib.hid (HR2.out.next hb3)
    have hw3 := hb3.size
    clear hb3
    obtain ⟨W40, hW40⟩ : ∃ W, W3.alloc (.cells #[.int .i64 0, .int .i64 0, .int .i64 0, .int .i64 0, .slice none 0 0, .int .i64 0, .string ⟨#[]⟩, .int .i64 0, .string ⟨#[]⟩, .int .i64 0, .slice none 0 0, .int .i64 0, .int .i64 0, .int .i64 0, .int .i64 0] 31) = W := ⟨_, rfl⟩
    obtain ⟨HS40, HB40, hw40, hz40⟩ := new1 hW40
    have gs40 := str15 HS40.out
    have gsf40 := fun j => HS40.out.frozen j
    have hls40 := HS40.out.lt
    obtain ⟨W4, hW4⟩ : ∃ W, (((((((((((((((W40).setCell ⟨W3.heap.size, 0, none⟩ (.int .i64 0)).setCell ⟨W3.heap.size, 1, none⟩ (.int .i64 0)).setCell ⟨W3.heap.size, 2, none⟩ (.int .i64 0)).setCell ⟨W3.heap.size, 3, none⟩ (.int .i64 0)).setCell ⟨W3.heap.size, 4, none⟩ (.slice none 0 0)).setCell ⟨W3.heap.size, 5, none⟩ (.int .i64 0)).setCell ⟨W3.heap.size, 6, none⟩ (.string ⟨#[]⟩)).setCell ⟨W3.heap.size, 7, none⟩ (.int .i64 0)).setCell ⟨W3.heap.size, 8, none⟩ (.string ⟨#[]⟩)).setCell ⟨W3.heap.size, 9, none⟩ (.int .i64 0)).setCell ⟨W3.heap.size, 10, none⟩ (.slice none 0 0)).setCell ⟨W3.heap.size, 11, none⟩ (.int .i64 0)).setCell ⟨W3.heap.size, 12, none⟩ (.int .i64 0)).setCell ⟨W3.heap.size, 13, none⟩ (.int .i64 0)).setCell ⟨W3.heap.size, 14, none⟩ (.int .i64 0) = W := ⟨_, rfl⟩
    have hg4 : W40.grownBy W4 (some W3.heap.size) := by rw [← hW4]; exact grown_set (grown_set (grown_set (grown_set (grown_set (grown_set (grown_set (grown_set (grown_set (grown_set (grown_set (grown_set (grown_set (grown_set (grown_set (grown_refl W40 _) 0 _) 1 _) 2 _) 3 _) 4 _) 5 _) 6 _) 7 _) 8 _) 9 _) 10 _) 11 _) 12 _) 13 _) 14 _
    have HB34 := Lib.hid (below_grown HB40.out hg4 (Nat.le_refl _))
    have HB4 := Lib.hid (bstep HB3.out HB34.out)
    have HR4 := Lib.hid (HR3.out.next HB34.out)
    have hw4 := HB34.out.size
    clear hg4
    gi_wp2_with fail
    refine ⟨trivial, ?_⟩
    refine (callsIn_wide.2 (load_nil no W4)).mono ?_
    rintro e w' ⟨rfl, rfl⟩
    clear gs40 gsf40 hls40
    gi_wp2_with fail
    refine ⟨trivial, ?_⟩
    refine (callsIn_wide.2 (all_nil W4)).mono ?_
    rintro e w' ⟨rfl, rfl⟩
    obtain ⟨W5, hW5⟩ : ∃ W, W4.alloc (.cells #[.pointer none] 47) = W := ⟨_, rfl⟩
    obtain ⟨HP5, HB45, hw5, hz5⟩ := new1 hW5
    have HB5 := Lib.hid (bstep HB4.out HB45.out)
    have HR5 := Lib.hid (HR4.out.next HB45.out)
    gi_wp2_with fail
    have hlt5 : W4.heap.size < W5.heap.size := by omega
    have HSEQ : Hid (SeqStopsK Fence.wide 4 Try.prog 63 #[.pointer (some ⟨W4.heap.size, 0, none⟩)] (fun _ : Empty => Array.replicate 2 undef) (fun _ _ => True) (fun _ => True) (fun _ => False) 0 W5) := Lib.hid (all_seq W4.heap.size W5 hlt5 (by simpa using HP5.out.cell 0))
    refine wpIn_rangeFunc_ownG (α := Empty) rfl (by omega) (gf := 63) (lb := #[.pointer (some ⟨W4.heap.size, 0, none⟩)]) rfl trivial (enters_of Try.func63 (by kernel_rfl) rfl)
      HSEQ.out
      (fun _ _ => trivial) (fun W l' o o' _ _ _ _ => trivial) (Below.refl _ _) (fun x => x.elim)
      (fun _ W => Below W5.heap.size W5 W) (fun _ _ _ => False) (ownFrom_below (Nat.le_refl _) (Nat.le_refl _)) (fun _ _ _ _ _ hs _ _ => hs) (Below.refl _ _) (fun x => x.elim) (fun l x => x.elim) (fun l pre x => x.elim) ?done (fun D c' pre W _ _ h _ => h.elim)
    case done =>
      intro D xs W6 hDD _ hI hK
      have HB6 := Lib.hid (bstep HB5.out hI)
      have HR6 := Lib.hid (HR5.out.next hI)
      have HKD := Lib.hid hK
      have hDlo : w.heap.size + 1 < D := by have := HR5.out.lt; omega
      have hDhi := (Array.getElem?_eq_some_iff.1 hK).1
      clear hI hK
      gi_wp2_with fail
      refine ⟨trivial, ?_⟩
      refine (callsIn_wide.2 (WalW.code_any 4 W6)).mono ?_
      rintro e w' ⟨rfl, rfl⟩
      gi_wp2_with fail
      refine ⟨trivial, ?_⟩
      refine (callsIn_wide.2 (WalW.code_any 4 W6)).mono ?_
      rintro e w' ⟨rfl, rfl⟩
      gi_wp2_with fail
      refine ⟨trivial, ?_⟩
      refine (callsIn_wide.2 (force_nil no W6)).mono ?_
      rintro e w' ⟨rfl, rfl⟩
      gi_wp2_with fail
      refine ⟨trivial, ?_⟩
      refine (callsIn_wide.2 (WalW.code_any 4 W6)).mono ?_
      rintro e w' ⟨rfl, rfl⟩
      gi_wp2_with fail
      refine ⟨trivial, ?_⟩
      refine (callsIn_wide.2 (free_nil no W6)).mono ?_
      rintro e w' ⟨rfl, rfl⟩
      gi_wp2_with fail
      refine ⟨trivial, ?_⟩
      refine (callsIn_wide.2 (WalW.code_any 4 W6)).mono ?_
      rintro e w' ⟨rfl, rfl⟩
      gi_wp2_with fail
      refine ⟨trivial, ?_⟩
      refine (callsIn_wide.2 (end_nil 0 W6)).mono ?_
      rintro e w' ⟨rfl, rfl⟩
      gi_wp2_with fail
      refine ⟨trivial, ?_⟩
      refine (callsIn_wide.2 (head_nil 0 W6)).mono ?_
      rintro e w' ⟨rfl, rfl⟩
      gi_wp2_with fail
      refine ⟨trivial, ?_⟩
      refine (callsIn_wide.2 (forced_nil 0 W6)).mono ?_
      rintro e w' ⟨rfl, rfl⟩
      gi_wp2_with fail
      refine ⟨trivial, ?_⟩
      refine (callsIn_wide.2 (kept_nil 0 W6)).mono ?_
      rintro e w' ⟨rfl, rfl⟩
      gi_wp2_with fail
      refine ⟨trivial, ?_⟩
      refine (callsIn_wide.2 (room_nil 0 W6)).mono ?_
      rintro e w' ⟨rfl, rfl⟩
      gi_wp2_with fail
      refine ⟨trivial, ?_⟩
      refine (callsIn_wide.2 (WalW.live_any W6)).mono ?_
      rintro e W7 ⟨rfl, hb7⟩
      have HB7 := Lib.hid (bstep HB6.out hb7)
      have HR7 := Lib.hid (HR6.out.next hb7)
      have HK7 : Hid (W7.heap[D]? = some (.deferred (some []))) := Lib.hid ((hb7.block D hDhi).trans HKD.out)
      have r7 : W7.cell? ⟨w.heap.size + 1, 0, none⟩ = some (.bool false) := by simpa using HR7.out.cell 0
      have rf7 := fun j => HR7.out.frozen j
      have hr7 := HR7.out.lt
      have hw7 := hb7.size
      clear hb7
      gi_wp2_with fail
      have hg : W7.grownBy (W7.setCell ⟨w.heap.size + 1, 0, none⟩ (.bool true)) (some (w.heap.size + 1)) := grown_set (grown_refl W7 _) 0 _
      have HFIN := Lib.hid (below_grown HB7.out hg (Nat.le_succ _))
      have hrs : Str (W7.setCell ⟨w.heap.size + 1, 0, none⟩ (.bool true)) (w.heap.size + 1) #[.bool true] := by have := HR7.out.set 0 (.bool true); simpa using this
      have hk8 := (hg.block D (by omega) (fun e => by injection e with e; omega)).trans HK7.out
      have hgd := grownBy_putObj' (W7.setCell ⟨w.heap.size + 1, 0, none⟩ (.bool true)) D (.deferred none)
      have hr9 := hrs.grown hgd (by omega)
      have rr := hr9.cell 0
      refine ⟨by simp, .inl ⟨_, _, rfl, run_takeDeferred hk8, ?_⟩⟩
      exact ⟨.bool true, by simp [results, Try.results6, go_sem, *], rfl, below_grown HFIN.out hgd (by omega)⟩
theorem walk (v0 v1 : Value) (a0 : RecX) (a1 : Int) (w : World) (g0 : RRec w w.heap.size v0 a0) (g1 : RInt w v1 a1) :
    Calls Try.prog 6 #[v0, v1] w fun e w' => e = .returned (.bool true) ∧ Below w.heap.size w w' := by
  obtain ⟨A, n, c, Ap, np, cp, rfl, hE, hp, ⟨hpuk, hpk⟩, hui, -, hun, -, -, -, -⟩ := g0
  obtain ⟨kd, tx, pv, nx, l, ⟨pact, puk, ⟨pst, pk, ⟨pkd, pda, plo, phi, pva⟩⟩, pun⟩⟩ := a0
  obtain ⟨rfl, hno⟩ := g1
  dsimp only at *
  exact go kd tx pv nx A n c l pact puk Ap np cp pst pk pkd pda plo phi pva pun a1 w hE hp hpk hpuk hun hui
end walNils
end Go.Proofs.Ytiokcemlfdonnaa
end
