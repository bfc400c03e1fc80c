/-
  Parts of the proof of PoolAhead.
-/
import Derived.Test.YtcfieofcnpalgaaGreatAhG27
import Derived.Test.YtcfieofcnpalgaaGreatAhG28
section
namespace Go.Proofs.YtcfieofcnpalgaaGreat.Law20
open Go.RowKit PoolW RefDev
set_option linter.unusedVariables false
set_option linter.unusedSimpArgs false
/-- behind a failure of the power: all that was set is on the device -/
structure Crashed (S : PoolX) (f : Nat → Int) (k : Nat) : Prop where
  off : S.D.off = false
  fused : S.D.fused = false
  len : S.D.safe.length = 5
  now : ∀ k : Nat, k < 4 → S.D.now[k]? = some (PageP.sealed (PoolP.page k (f k)))
  wants : ∀ k, k < 4 → 0 ≤ f k ∧ f k ≤ 1000
  room : PoolP.Room k S.D
theorem Crashed.done {S : PoolX} {f : Nat → Int} {k : Nat} (h : Crashed S f (k + 1)) : Crashed { S with D := DevP.done S.D } f k :=
  ⟨h.off, h.fused, h.len, h.now, h.wants, ⟨by have := h.room.1; show S.D.ops + 1 + (k : Int) ≤ _; omega, h.room.2.1, by have := h.room.2.2; show S.D.wr + k ≤ _; omega⟩⟩
theorem crashed_of {S : PoolX} {f : Nat → Int} {k : Nat} (h : PoolP.Ahead S f) (hs : S.D.safe = S.D.now) (hn : ∀ k : Nat, k < 4 → S.D.now[k]? = some (PageP.sealed (PoolP.page k (f k)))) (hr : PoolP.Room k S.D) : Crashed { S with D := DevP.crashed S.D 0 } f k := by
  refine ⟨rfl, rfl, h.len, fun k hk => ?_, h.wants, hr.1, ?_, hr.2.2⟩
  · show S.D.safe[k]? = _
    rw [hs]
    exact hn k hk
  · show S.D.head + ((S.D.log.take _).length : Int) ≤ _
    have := hr.2.1
    rw [List.length_take]
    omega
/-- four numbers -/
def wantC (f : Nat → Int) : Array Value := #[.int .i64 (f 0), .int .i64 (f 1), .int .i64 (f 2), .int .i64 (f 3)]
theorem want_get (f : Nat → Int) {k : Nat} (hk : k < 4) : (wantC f)[k]? = some (.int .i64 (f k)) := by
  have : k = 0 ∨ k = 1 ∨ k = 2 ∨ k = 3 := by omega
  rcases this with rfl | rfl | rfl | rfl <;> rfl
theorem want_set (f : Nat → Int) {k : Nat} (hk : k < 4) (v : Int) : (wantC f).setIfInBounds k (.int .i64 v) = wantC (fun i => if (i : Int) = (k : Int) then v else f i) := by
  have : k = 0 ∨ k = 1 ∨ k = 2 ∨ k = 3 := by omega
  rcases this with rfl | rfl | rfl | rfl <;> rfl
/-- a pool, and four numbers beside it -/
structure PW (w wr : World) (p d lg wb : Nat) (bs : List Nat) (S : PoolX) (f : Nat → Int) : Prop where
  pk : PK w wr p d lg bs S
  box : Str wr wb (wantC f)
  lo : w.heap.size ≤ wb
  off : wb ∉ bs
section
variable {w wr w' : World} {p d lg wb : Nat} {bs : List Nat} {S S' : PoolX} {f : Nat → Int} {r : Value} {e : Ending}
theorem PW.next (h : PW w wr p d lg wb bs S f) (hb : Below wr.heap.size wr w') : PW w w' p d lg wb bs S f := ⟨h.pk.next hb, h.box.next hb, h.lo, h.off⟩
theorem PW.told (h : PW w wr p d lg wb bs S f) (hT : PoolW.Told wr p d lg bs S' r e w') : e = .returned r ∧ ∃ bs', PW w w' p d lg wb bs' S' f := by
  obtain ⟨he, bs', h1, h2, h3⟩ := hT
  have hsz := h.pk.bel.size
  refine ⟨he, bs', ⟨h1, fun b hb => (h2 b hb).elim (h.pk.lo b) (by omega), h.pk.bel.trans (h3.below hsz h.pk.lo)⟩, keep_str h3 h.box h.box.lt h.off, h.lo, fun hm => (h2 wb hm).elim h.off (fun hb => by have := h.box.lt; omega)⟩
/-- the pool's device -/
theorem PW.devs (h : PW w wr p d lg wb bs S f) : ∃ db, DevW.Dev wr d db S.D ∧ Str wr lg #[.int .i64 S.far] ∧ ∀ (X' : DevX) r e w', DevW.Told wr d db X' r e w' → e = .returned r ∧ ∃ bs', PW w w' p d lg wb bs' { S with D := X' } f := by
  obtain ⟨A, m, c, L, db, h1, h2, h3, h4, rfl⟩ := h.pk.pool
  refine ⟨db, h2, h3, fun X' r e w' hT => ?_⟩
  obtain ⟨he, hT⟩ := hT
  exact h.told ⟨he, Pool.dev h1 h2 h3 h4 hT⟩
theorem PW.dirty (h : PW w wr p d lg wb bs S f) : Calls Tryz.prog 16 #[.pointer (some ⟨p, 0, none⟩)] wr (GivesInts wr (PoolP.dirty S.fs)) := by
  obtain ⟨A, m, c, L, db, h1, h2, h3, h4, rfl⟩ := h.pk.pool
  exact dirty_at wr h1
/-- a page is read -/
theorem PW.read (h : PW w wr p d lg wb bs S f) {u : Nat} {y : List UInt8} (hu : u < 5) (h1 : S.D.off = false) (h2 : S.D.fused = false) (h3 : S.D.safe.length = 5) (hy : S.D.now[u]? = some y) (hs : S.D.ops ≤ 1000000000) : Calls Tryz.prog 13 #[.pointer (some ⟨d, 0, none⟩), .int .i64 (u : Int)] wr fun e w' => e = .returned (.tuple #[.agg (rowV y), .int .i64 0]) ∧ y.length = 512 ∧ ∃ bs', PW w w' p d lg wb bs' { S with D := DevP.done S.D } f := by
  obtain ⟨db, hD, -, hdev⟩ := h.devs
  have hfit : DevW.fitsN S.D (u : Int) = true := by
    show (decide (0 ≤ (u : Int)) && decide ((u : Int) < (S.D.safe.length : Nat))) = true
    rw [h3]; simp; omega
  have herr : DevP.err S.D true = 0 := by unfold DevP.err; rw [h1, h2]; rfl
  refine (DevW.Read_any (u : Int) wr hD hs).mono fun e w' hT => ?_
  rw [hfit, herr, PoolP.op_of herr, show DevP.read S.D (u : Int) true = y from by unfold DevP.read; rw [if_pos herr, show ((u : Int)).toNat = u from by omega, hy, Option.getD_some]] at hT
  obtain ⟨rfl, bs', h'⟩ := hdev _ _ _ _ hT
  exact ⟨rfl, hD.ok.w1 y (List.mem_of_getElem? hy), bs', h'⟩
theorem ahead_done {S : PoolX} {g : Nat → Int} (h : PoolP.Ahead S g) : PoolP.Ahead { S with D := DevP.done S.D } g :=
  ⟨h.off, h.fused, h.len, h.nlen, h.n1, h.fsn, h.once, h.nos, h.pins, h.wants, h.good, h.dev, h.far⟩
theorem fine_done {S : PoolX} {k : Nat} (h : PoolP.Fine (k + 1) S) : PoolP.Fine k { S with D := DevP.done S.D } :=
  ⟨⟨by have := h.room.1; show S.D.ops + 1 + (k : Int) ≤ _; omega, h.room.2.1, by have := h.room.2.2; show S.D.wr + k ≤ _; omega⟩, h.n1, h.n2, h.fsn⟩
/-- a number is written -/
theorem PW.store (h : PW w wr p d lg wb bs S f) {k : Nat} (hk : k < 4) (v : Int) : PW w (wr.setCell ⟨wb, k, none⟩ (.int .i64 v)) p d lg wb bs S (fun i => if (i : Int) = (k : Int) then v else f i) := by
  have hg : wr.grownBy (wr.setCell ⟨wb, k, none⟩ (.int .i64 v)) (some wb) := grown_set (grown_refl wr wb) k _
  refine ⟨⟨h.pk.pool.at_ (fun b hb => hg.block b (h.pk.pool.lt b hb) (fun e => h.off (by injection e with e; rw [← e]; exact hb))), h.pk.lo, below_grown h.pk.bel hg h.lo⟩, ?_, h.lo, h.off⟩
  rw [← want_set f hk]
  exact h.box.set k _
end
theorem room_beg {X : DevX} {k : Nat} (hk : k ≤ 1000000) (h5 : X.ops = 5) (h6 : X.head = 0) (h7 : X.log = []) (h8 : X.wr = 4) : PoolP.Room k X :=
  ⟨by rw [h5]; omega, by rw [h6, h7]; show (0 : Int) + (0 : Nat) ≤ _; omega, by rw [h8]; omega⟩
theorem ahead_beg {n : Int} (hn : 1 ≤ n) (h64 : n ≤ 64) : PoolP.Ahead ⟨begX, 12, n, []⟩ (fun k => (k : Int) + 1) ∧ PoolP.Fine 1000 ⟨begX, 12, n, []⟩ := by
  obtain ⟨h1, h2, h3, h4, h5, h6, h7, h8⟩ := beg_is
  refine ⟨⟨h1, h2, h3, h4, hn, by show ((0 : Nat) : Int) ≤ n; omega, List.nodup_nil, (fun f hf => by cases hf), (fun f hf => by cases hf), fun k hk => by omega, (fun f hf => by cases hf), fun k hk => .inr (beg_now hk), fun k hk y hy => ?_⟩, ⟨room_beg (by omega) h5 h6 h7 h8, hn, h64, by show ((0 : Nat) : Int) ≤ n; omega⟩⟩
  rw [beg_now hk] at hy
  cases hy
  have h := PoolP.Good.lsn (no := (k : Int)) (v := (k : Int) + 1) PoolP.good_sealed (by omega) (by omega)
  show PoolP.lsn (PageP.sealed (PoolP.page (k : Int) ((k : Int) + 1))) ≤ (12 : Int)
  rw [h]
  omega
theorem no_four (z : Int) : ∃ k : Nat, k < 4 ∧ wrap64 ((IntKind.u64.wrap z).tmod 4) = (k : Int) := by
  have h0 : 0 ≤ IntKind.u64.wrap z := by
    rw [BeP.u64_wrap]
    omega
  have h1 : (IntKind.u64.wrap z).tmod 4 = IntKind.u64.wrap z % 4 := Int.tmod_eq_emod_of_nonneg h0
  refine ⟨(IntKind.u64.wrap z % 4).toNat, by omega, ?_⟩
  rw [h1, IntWalk.wrap64_in _ (by omega)]
  omega
end Go.Proofs.YtcfieofcnpalgaaGreat.Law20
namespace Go.Proofs.YtcfieofcnpalgaaGreat.poolAhead
open Go.RowKit PoolW Law20
set_option linter.unusedVariables false
set_option linter.unusedSimpArgs false
attribute [local go_sem ↓] ldPage_fold stPage_fold bdPage_fold alPage_fold
set_option maxRecDepth 100000 in
set_option maxHeartbeats 8000000 in
theorem walk_main (n : Int) (A : Option Addr) (nl c : Nat) (l : List StepP) (w : World) (hE : Hid (Elems StepPE w w.heap.size A nl c l)) (hl : nl ≤ 60) : Calls Tryz.prog 3 #[.int .i64 n, .slice A nl c] w fun e w' => e = .returned (.bool true) ∧ Below w.heap.size w w' := by
  have hal := fun W => run_al (P := Tryz.prog) arrPage W
  have HZ := Lib.hid (PageN.zeros_len 512)
  have hd : decide ((60 : Int) < (nl : Int)) = false := decide_eq_false (by omega)
  go_enter Tryz.func3, Tryz.ntmps3
  go_wp2_with fail
  refine (begin_any w).mono ?_
  rintro e W1 ⟨d, db, Ad, nd, cd, Ae, ne, ce, kd, rfl, hD1, hn1, hb1⟩
  unfold RefDev.devV
  have HD1 := Lib.hid hD1
  have HN1 := Lib.hid hn1
  have HB1 := Lib.hid hb1
  clear hD1 hn1 hb1
  go_wp2_with fail
  obtain ⟨W2, hW2⟩ : ∃ W, W1.alloc (.cells #[.slice Ad nd cd, .slice Ae ne ce, .slice none 0 0, .int .i64 0, .int .i64 0, .int .i64 (-1), .bool false, .int .i64 kd] 29) = W := ⟨_, rfl⟩
  have hb2 : Below W1.heap.size W1 W2 := by rw [← hW2]; exact balloc (bsame _) _
  have HB2 := Lib.hid (bstep HB1.out hb2)
  have HD2 := Lib.hid (HD1.out.below hb2)
  have hz2 : W2.heap.size = W1.heap.size + 1 := by rw [← hW2]; simp
  try rw [hW2]
  rw [← hz2]
  clear hW2 hb2 HD1 hz2
  obtain ⟨W3, hW3⟩ : ∃ W, W2.alloc (.cells #[.int .i64 12] 34) = W := ⟨_, rfl⟩
  have hb3 : Below W2.heap.size W2 W3 := by rw [← hW3]; exact balloc (bsame _) _
  have hL3 : Str W3 W2.heap.size #[.int .i64 12] := by rw [← hW3]; exact Str.new _ _ _
  try rw [hW3]
  have hw2 := HB2.out.size
  have hnd3 : (W2.heap.size :: db).Nodup := List.nodup_cons.2 ⟨fun hm => by have : W2.heap.size < W2.heap.size := HD2.out.lt _ hm; omega, dev_nodup HD2.out⟩
  have HB3 := Lib.hid (bstep HB2.out hb3)
  refine (new_any n d W2.heap.size db begX 12 W3 (HD2.out.below hb3) hL3 hnd3).mono ?_
  rintro e W4 ⟨p, rfl, hp, hP4, hb4⟩
  have hn0 : 1 ≤ min (max n 1) 64 := by omega
  have hn64 : min (max n 1) 64 ≤ 64 := by omega
  have HK4 : Hid (PK w W4 p d W2.heap.size (p :: W2.heap.size :: db) ⟨begX, 12, min (max n 1) 64, []⟩) := Lib.hid ⟨hP4, fun b hb => by
    simp only [List.mem_cons] at hb
    have := HB3.out.size
    rcases hb with rfl | rfl | hb
    · omega
    · omega
    · exact HN1.out b hb, bstep HB3.out hb4⟩
  clear hP4 hb4 hp hnd3 hL3 hb3 hW3 HD2 HN1 HB1 HB2 HB3
  generalize min (max n 1) 64 = n1 at *
  generalize p :: W2.heap.size :: db = bs4 at *
  generalize W2.heap.size = lg at *
  obtain ⟨hA0, hF0⟩ := ahead_beg hn0 hn64
  have HA0 := Lib.hid hA0
  have HF0 := Lib.hid hF0
  clear hA0 hF0
  generalize begX = D0 at *
  go_wp2_with fail
  obtain ⟨W5, hW5⟩ : ∃ W, W4.alloc (.cells #[.int .i64 1, .int .i64 2, .int .i64 3, .int .i64 4] 37) = W := ⟨_, rfl⟩
  have hb5 : Below W4.heap.size W4 W5 := by rw [← hW5]; exact balloc (bsame _) _
  have hs5 : Str W5 W4.heap.size (wantC (fun k => (k : Int) + 1)) := by rw [← hW5]; exact Str.new _ _ _
  try rw [hW5]
  have HP5 : Hid (PW w W5 p d lg W4.heap.size bs4 ⟨D0, 12, n1, []⟩ (fun k => (k : Int) + 1)) := Lib.hid ⟨HK4.out.next hb5, hs5, HK4.out.bel.size, fun hm => by have : W4.heap.size < W4.heap.size := HK4.out.pool.lt _ hm; omega⟩
  have HF5 : Hid (PoolP.Fine ((60 - 0) * 10 + 100) ⟨D0, 12, n1, []⟩) := Lib.hid (HF0.out.less (by omega))
  clear hW5 hb5 hs5 HK4 HF0
  generalize W4.heap.size = wb at *
  go_loopw [10] (fun iv wr => ∃ (j : Nat) (bs : List Nat) (S : PoolX) (f : Nat → Int), j ≤ nl ∧ iv = .int .i64 (j : Int) ∧ Hid (PW w wr p d lg wb bs S f ∧ PoolP.Fine ((60 - j) * 10 + 100) S ∧ PoolP.Ahead S f)) (fun iv _ => nl - (intOf iv).toNat)
  case atStart => exact ⟨0, bs4, _, _, by omega, rfl, Lib.hid ⟨HP5.out, HF5.out, HA0.out⟩⟩
  case round =>
    obtain ⟨j, bs, S, f, hj, rfl, HS⟩ := hrel
    clear HP5 HF5 HA0
    by_cases hltj : j < nl
    · have hd2 : decide ((j : Int) < (nl : Int)) = true := decide_eq_true (by omega)
      have HF : Hid (PoolP.Fine ((60 - (j + 1)) * 10 + 100 + 10) S) := Lib.hid (HS.out.2.1.less (by omega))
      have hj1 : j + 1 ≤ nl := by omega
      obtain ⟨b, o, x, rfl, hb, -, ⟨hx1, hx2, hx3, hx4⟩, q0, q1, q2⟩ := stepP_at hE.out hltj
      have HB := Lib.hid HS.out.1.pk.bel
      have HQ := Lib.hid (And.intro q0 (And.intro q1 q2))
      have HBL := Lib.hid hb
      replace q1 := (HB.out.cell (p := ⟨b, o + j * 3 + 1, none⟩) hb).trans q1
      have HP := Lib.hid HS.out.1
      have HA := Lib.hid HS.out.2.2
      clear HS HB q0 q2
      obtain ⟨k, hk4, hk⟩ := no_four x.no
      go_wp2_with fail
      rw [hk]
      clear hk
      refine (get_any p d lg bs S (k : Int) wr HP.out.pk.pool HF.out.small (PoolP.Fine.free_ops (k := (60 - (j + 1)) * 10 + 100 + 9) HF.out) HF.out.free_len (by unfold In64; omega)).mono ?_
      rintro e W1 hT
      obtain ⟨g1, g2, g3, i0, g4⟩ := PoolP.Ahead.get HA.out (no := (k : Int)) (by omega) (by omega)
      obtain ⟨X, hX⟩ : ∃ X, (PoolP.get S (k : Int)).2 = (X, 0) := ⟨_, Prod.ext rfl g1⟩
      rw [hX] at hT g2
      obtain ⟨rfl, bs1, hP1⟩ := HP.out.told hT
      have g2 : PoolP.Good (k : Int) (f k) X := g2
      obtain ⟨w0, w1⟩ := HA.out.wants k hk4
      have HNV := Lib.hid (g2.note w0 w1)
      have hXl := g2.len
      have HP1 := Lib.hid hP1
      have HS1 := Lib.hid (And.intro (PoolP.Fine.get (no := (k : Int)) (k := (60 - (j + 1)) * 10 + 100 + 8) HF.out) (And.intro g3 g4))
      clear hT hP1 g1 g2 g3 g4 hX HF HA HP w0 w1
      generalize (PoolP.get S (k : Int)).1 = S1 at *
      have hst := run_st (P := Tryz.prog) arrPage (Str.new W1 (rowV (SlotP.zeros 512)) 42) (by rw [rowV_size]; exact HZ.out) hXl
      obtain ⟨W2, hWn⟩ : ∃ W, (W1.alloc (.cells (rowV (SlotP.zeros 512)) 42)).setRow W1.heap.size (rowV X) = W := ⟨_, rfl⟩
      rw [hWn] at hst
      have hbn : Below W1.heap.size W1 W2 := by rw [← hWn]; exact below_setRow (balloc (bsame _) _) (Nat.le_refl _) _
      have HP2 := Lib.hid (HP1.out.next hbn)
      have HXW2 : Hid (Str W2 W1.heap.size (rowV X)) := Lib.hid (by rw [← hWn]; exact (Str.new _ _ _).setRow)
      clear hWn hbn
      go_wp2_with fail
      clear hst
      refine Reg.wp_region_vals (R := ext) (W := W2) [Reg.eqv (.int .i64 0), Reg.eqv (.int .i64 0), Reg.eqv (.bool false), Reg.eqv (.bool false), Reg.eqv (.agg (rowV X)), Reg.eqv (.int .i64 (f k)), Reg.eqv (.int .i64 (k : Int)), Reg.eqv (.pointer (some ⟨wb, k, none⟩)), Reg.eqv (.int .i64 (f k)), Reg.eqv (.bool false), Reg.eqv (.bool false)] 146 [[(13, none)], [(58, some 0)], [(59, some 1)], [(60, some 2)], [(12, none), (61, some 3)], [(62, some 4), (61, some 3)], [(11, none), (61, some 3)], [(9, none), (64, some 6), (61, some 3)], [(65, some 7), (61, some 3)], [(63, some 5), (66, some 8), (61, some 3)], [(61, some 3), (67, some 9)]] rfl (by kernel_rfl) (by kernel_rfl) (by kernel_rfl) ?_ [some 58, some 59, some 60, some 61, some 62, some 63, some 64, some 65, some 66, some 67, some 68] (by kernel_rfl) ?_
      · refine ⟨?_, ?_, ?_, ?_, ?_, ?_, ?_, ?_, ?_, ?_, ?_, trivial⟩
        · intro ax wx hx hs
          obtain ⟨e13, -⟩ := hs
          have g13 := Reg.ev (v := .int .i64 0) e13
          exact Reg.obl_free rfl (Reg.wp_eqv (Option.some_ne_none _) (by go_simp) rfl)
        · intro ax wx hx hs
          obtain ⟨e58, -⟩ := hs
          have g58 := Reg.ev (v := .int .i64 0) e58
          refine Reg.obl_free rfl ?_
          go_simp
          refine (code_any 0 wx).mono ?_
          rintro r wy ⟨rfl, rfl⟩
          exact Reg.done (Option.some_ne_none _) rfl (bsame _)
        · intro ax wx hx hs
          obtain ⟨e59, -⟩ := hs
          have g59 := Reg.ev (v := .int .i64 0) e59
          exact Reg.obl_free rfl (Reg.wp_eqv (Option.some_ne_none _) (by go_simp) rfl)
        · intro ax wx hx hs
          obtain ⟨e60, -⟩ := hs
          have g60 := Reg.ev (v := .bool false) e60
          exact Reg.obl_free rfl (Reg.wp_eqv (Option.some_ne_none _) (by go_simp) rfl)
        · intro ax wx hx hs
          obtain ⟨e12, e61, -⟩ := hs
          have g12 := Reg.ev (v := .pointer (some ⟨W1.heap.size, 0, none⟩)) e12
          have g61 := Reg.ev (v := .bool false) e61
          have hx' : Below W2.heap.size W2 wx := hx
          have lw : wx.cell? ⟨wb, k, none⟩ = some (.int .i64 (f k)) := ((HP2.out.box.next hx').cell k).trans (want_get f hk4)
          refine Reg.obl_want rfl rfl e61 ?_
          have hx' : Below W2.heap.size W2 wx := hx
          have hld := run_ld (P := Tryz.prog) arrPage (HXW2.out.next hx') hXl
          exact Reg.wp_eqv (Option.some_ne_none _) (by go_simp) rfl
        · intro ax wx hx hs
          obtain ⟨e62, e61, -⟩ := hs
          have g62 := Reg.ev (v := .agg (rowV X)) e62
          have g61 := Reg.ev (v := .bool false) e61
          refine Reg.obl_want rfl rfl e61 ?_
          go_simp
          refine (PageW.note_any X hXl wx).mono ?_
          rintro r wy ⟨rfl, hby⟩
          exact Reg.done (Option.some_ne_none _) (by rw [HNV.out]; exact rfl) hby
        · intro ax wx hx hs
          obtain ⟨e11, e61, -⟩ := hs
          have g11 := Reg.ev (v := .int .i64 (k : Int)) e11
          have g61 := Reg.ev (v := .bool false) e61
          exact Reg.obl_want rfl rfl e61 (Reg.wp_eqv (Option.some_ne_none _) (by go_simp) rfl)
        · intro ax wx hx hs
          obtain ⟨e9, e64, e61, -⟩ := hs
          have g9 := Reg.ev (v := .pointer (some ⟨wb, 0, none⟩)) e9
          have g64 := Reg.ev (v := .int .i64 (k : Int)) e64
          have g61 := Reg.ev (v := .bool false) e61
          refine Reg.obl_want rfl rfl e61 ?_
          exact Reg.wp_eqv (Option.some_ne_none _) (by go_simp; first | done | (intro hq; omega)) rfl
        · intro ax wx hx hs
          obtain ⟨e65, e61, -⟩ := hs
          have g65 := Reg.ev (v := .pointer (some ⟨wb, k, none⟩)) e65
          have g61 := Reg.ev (v := .bool false) e61
          have hx' : Below W2.heap.size W2 wx := hx
          have lw : wx.cell? ⟨wb, k, none⟩ = some (.int .i64 (f k)) := ((HP2.out.box.next hx').cell k).trans (want_get f hk4)
          exact Reg.obl_want rfl rfl e61 (Reg.wp_eqv (Option.some_ne_none _) (by go_simp) rfl)
        · intro ax wx hx hs
          obtain ⟨e63, e66, e61, -⟩ := hs
          have g63 := Reg.ev (v := .int .i64 (f k)) e63
          have g66 := Reg.ev (v := .int .i64 (f k)) e66
          have g61 := Reg.ev (v := .bool false) e61
          exact Reg.obl_want rfl rfl e61 (Reg.wp_eqv (Option.some_ne_none _) (by go_simp) rfl)
        · intro ax wx hx hs
          obtain ⟨e61, e67, -⟩ := hs
          have g61 := Reg.ev (v := .bool false) e61
          have g67 := Reg.ev (v := .bool false) e67
          exact Reg.obl_free rfl (Reg.wp_eqv (Option.some_ne_none _) (by go_simp) rfl)
      · intro W3 hwf
        simp only [Reg.Fin]
        rintro _ rfl _ rfl _ rfl _ rfl _ rfl _ rfl _ rfl _ rfl _ rfl _ rfl _ rfl
        go_simp
        have hwf' : Below W2.heap.size W2 W3 := hwf
        have HP3 := Lib.hid (HP2.out.next hwf')
        clear hwf hwf' HXW2 HP2 HP1 HNV hXl
        have HB := Lib.hid HP3.out.pk.bel
        have q0 := (HB.out.cell (p := ⟨b, o + j * 3, none⟩) HBL.out).trans HQ.out.1
        have q2 := (HB.out.cell (p := ⟨b, o + j * 3 + 2, none⟩) HBL.out).trans HQ.out.2.2
        clear HB
        by_cases e1 : x.act = 1
        · have d1 : (x.act == 1) = true := by simpa using e1
          clear e1 q1
          have hv0 : 0 ≤ x.v + 1 := by omega
          have hv1 : x.v + 1 ≤ 1000 := by omega
          have hkk : (k : Int) < 4 := by omega
          have hkk0 : (0 : Int) ≤ (k : Int) := by omega
          have hwv : wrap64 (x.v + 1) = x.v + 1 := IntWalk.wrap64_in _ (by omega)
          have hc3 : W3.cell? ⟨wb, k, none⟩ = some (.int .i64 (f k)) := (HP3.out.box.cell k).trans (want_get f hk4)
          have hz3 := HP3.out.box.frozen k
          have hl3 := HP3.out.box.lt
          go_wp2_with fail
          clear hc3 hz3 hl3 hwv q0 q2
          obtain ⟨W4, hW4⟩ : ∃ W, W3.setCell ⟨wb, k, none⟩ (.int .i64 (x.v + 1)) = W := ⟨_, rfl⟩
          have hP4 := HP3.out.store hk4 (x.v + 1)
          rw [hW4] at hP4
          rw [hW4]
          have HP4 := Lib.hid hP4
          clear hP4 hW4 HP3
          refine (of_any (k : Int) (x.v + 1) (by omega) (by omega) W4).mono ?_
          rintro e W5 ⟨rfl, hb5⟩
          have HP5 := Lib.hid (HP4.out.next hb5)
          clear hb5 HP4
          go_wp2_with fail
          refine (set_any p d lg bs1 S1 (k : Int) (page (k : Int) (x.v + 1)) (page_len _ _) W5 HP5.out.pk.pool).mono ?_
          rintro e W6 hT
          obtain ⟨rfl, bs6, hP6⟩ := HP5.out.told hT
          obtain ⟨s1, s2, s3⟩ := PoolP.Ahead.set HS1.out.2.1 hkk0 hkk hv0 hv1 HS1.out.2.2
          have HL : Hid (PW w W6 p d lg wb bs6 (PoolP.set S1 (k : Int) (page (k : Int) (x.v + 1))).1 (fun i => if (i : Int) = (k : Int) then x.v + 1 else f i) ∧ PoolP.Fine ((60 - (j + 1)) * 10 + 100 + (4 - 0)) (PoolP.set S1 (k : Int) (page (k : Int) (x.v + 1))).1 ∧ PoolP.Ahead (PoolP.set S1 (k : Int) (page (k : Int) (x.v + 1))).1 (fun i => if (i : Int) = (k : Int) then x.v + 1 else f i)) := Lib.hid ⟨hP6, (PoolP.Fine.set (k := (60 - (j + 1)) * 10 + 100 + 8) HS1.out.1).less (by omega), s2⟩
          clear hT hP6 s1 s2 s3 HP5 HS1
          generalize (PoolP.set S1 (k : Int) (page (k : Int) (x.v + 1))).1 = S9 at *
          generalize (fun i : Nat => if (i : Int) = (k : Int) then x.v + 1 else f i) = f9 at *
          go_wp2_with fail
          go_loopw [14] (fun iv wq => ∃ (u : Nat) (bs2 : List Nat) (S2 : PoolX), u ≤ 4 ∧ iv = .int .i64 (u : Int) ∧ Hid (PW w wq p d lg wb bs2 S2 f9 ∧ PoolP.Fine ((60 - (j + 1)) * 10 + 100 + (4 - u)) S2 ∧ PoolP.Ahead S2 f9)) (fun iv _ => 4 - (intOf iv).toNat)
          case atStart => exact ⟨0, _, _, by omega, rfl, HL⟩
          case round =>
            obtain ⟨u, bs2, S2, hu, rfl, HL2⟩ := hrel
            clear HL
            by_cases hltu : u < 4
            · have hd3 : decide ((u : Int) < 4) = true := decide_eq_true (by omega)
              have HF2 : Hid (PoolP.Fine ((60 - (j + 1)) * 10 + 100 + (4 - (u + 1)) + 1) S2) := Lib.hid (HL2.out.2.1.less (by omega))
              have hu1 : u + 1 ≤ 4 := by omega
              have hu5 : u < 5 := by omega
              obtain ⟨y, hy⟩ := HL2.out.2.2.here hltu
              have hfy := HL2.out.2.2.far u hltu y hy
              have hd4 : decide (S2.far < PoolP.lsn y) = false := decide_eq_false (by omega)
              clear hfy
              go_wp2_with fail
              refine (PW.read HL2.out.1 hu5 HL2.out.2.2.off HL2.out.2.2.fused HL2.out.2.2.len hy HF2.out.small.1).mono ?_
              rintro e W6 ⟨rfl, hyl, bs6, hP6⟩
              have HP6 := Lib.hid hP6
              have HL6 := Lib.hid (And.intro (fine_done HF2.out) (ahead_done HL2.out.2.2))
              clear hP6 HL2 HF2 hy
              have hst := run_st (P := Tryz.prog) arrPage (Str.new W6 (rowV (SlotP.zeros 512)) 42) (by rw [rowV_size]; exact HZ.out) hyl
              obtain ⟨W7, hWn⟩ : ∃ W, (W6.alloc (.cells (rowV (SlotP.zeros 512)) 42)).setRow W6.heap.size (rowV y) = W := ⟨_, rfl⟩
              rw [hWn] at hst
              have hbn : Below W6.heap.size W6 W7 := by rw [← hWn]; exact below_setRow (balloc (bsame _) _) (Nat.le_refl _) _
              have HP7 := Lib.hid (HP6.out.next hbn)
              have HXW7 : Hid (Str W7 W6.heap.size (rowV y)) := Lib.hid (by rw [← hWn]; exact (Str.new _ _ _).setRow)
              clear hWn hbn
              go_wp2_with fail
              clear hst
              obtain ⟨-, -, hlg, -⟩ := HP7.out.devs
              have HLG : Hid (Str W7 lg #[.int .i64 S2.far]) := Lib.hid hlg
              clear hlg
              refine Reg.wp_region_vals (R := ext) (W := W7) [Reg.eqv (.agg (rowV y)), Reg.eqv (.int .i64 (PoolP.lsn y)), Reg.eqv (.pointer (some ⟨lg, 0, none⟩)), Reg.eqv (.pointer (some ⟨lg, 0, none⟩)), Reg.eqv (.pointer (some ⟨lg, 0, none⟩)), Reg.eqv (.int .i64 S2.far), Reg.eqv (.bool false)] 146 [[(15, none)], [(102, some 0)], [(7, none)], [(104, some 2)], [(105, some 3)], [(106, some 4)], [(103, some 1), (107, some 5)]] rfl (by kernel_rfl) (by kernel_rfl) (by kernel_rfl) ?_ [some 102, some 103, some 104, some 105, some 106, some 107, some 108] (by kernel_rfl) ?_
              · refine ⟨?_, ?_, ?_, ?_, ?_, ?_, ?_, trivial⟩
                · intro ax wx hx hs
                  obtain ⟨e15, -⟩ := hs
                  have g15 := Reg.ev (v := .pointer (some ⟨W6.heap.size, 0, none⟩)) e15
                  have lf := str1 (HLG.out.next hx)
                  refine Reg.obl_free rfl ?_
                  have hx' : Below W7.heap.size W7 wx := hx
                  have hld := run_ld (P := Tryz.prog) arrPage (HXW7.out.next hx') hyl
                  exact Reg.wp_eqv (Option.some_ne_none _) (by go_simp) rfl
                · intro ax wx hx hs
                  obtain ⟨e102, -⟩ := hs
                  have g102 := Reg.ev (v := .agg (rowV y)) e102
                  refine Reg.obl_free rfl ?_
                  go_simp
                  refine (PageW.lsn_any y hyl wx).mono ?_
                  rintro r wy ⟨rfl, hby⟩
                  exact Reg.done (Option.some_ne_none _) rfl hby
                · intro ax wx hx hs
                  obtain ⟨e7, -⟩ := hs
                  have g7 := Reg.ev (v := .pointer (some ⟨lg, 0, none⟩)) e7
                  exact Reg.obl_free rfl (Reg.wp_eqv (Option.some_ne_none _) (by go_simp) rfl)
                · intro ax wx hx hs
                  obtain ⟨e104, -⟩ := hs
                  have g104 := Reg.ev (v := .pointer (some ⟨lg, 0, none⟩)) e104
                  exact Reg.obl_free rfl (Reg.wp_eqv (Option.some_ne_none _) (by go_simp) rfl)
                · intro ax wx hx hs
                  obtain ⟨e105, -⟩ := hs
                  have g105 := Reg.ev (v := .pointer (some ⟨lg, 0, none⟩)) e105
                  exact Reg.obl_free rfl (Reg.wp_eqv (Option.some_ne_none _) (by go_simp) rfl)
                · intro ax wx hx hs
                  obtain ⟨e106, -⟩ := hs
                  have g106 := Reg.ev (v := .pointer (some ⟨lg, 0, none⟩)) e106
                  have lf := str1 (HLG.out.next hx)
                  exact Reg.obl_free rfl (Reg.wp_eqv (Option.some_ne_none _) (by go_simp) rfl)
                · intro ax wx hx hs
                  obtain ⟨e103, e107, -⟩ := hs
                  have g103 := Reg.ev (v := .int .i64 (PoolP.lsn y)) e103
                  have g107 := Reg.ev (v := .int .i64 S2.far) e107
                  exact Reg.obl_free rfl (Reg.wp_eqv (Option.some_ne_none _) (by go_simp) rfl)
              · intro W8 hwf
                simp only [Reg.Fin]
                rintro _ rfl _ rfl _ rfl _ rfl _ rfl _ rfl _ rfl
                go_simp
                have hwf' : Below W7.heap.size W7 W8 := hwf
                have HP8 := Lib.hid (HP7.out.next hwf')
                clear hwf hwf' HLG HXW7 HP7 HP6
                go_wp2
                go_roundw
                case rel => exact ⟨u + 1, bs6, _, hu1, by go_num, Lib.hid ⟨HP8.out, HL6.out⟩⟩
                case measure => simp [intOf]; omega
            · have hd3 : decide ((u : Int) < 4) = false := decide_eq_false (by omega)
              obtain rfl : u = 4 := by omega
              go_wp2
              go_roundw
              case rel => exact ⟨j + 1, bs2, S2, f9, hj1, by go_num, Lib.hid ⟨HL2.out.1, HL2.out.2.1.less (by omega), HL2.out.2.2⟩⟩
              case measure => simp [intOf]; omega
        · have d1 : (x.act == 1) = false := by simpa using e1
          clear e1 q1 q2
          have HL : Hid (PW w W3 p d lg wb bs1 S1 f ∧ PoolP.Fine ((60 - (j + 1)) * 10 + 100 + (4 - 0)) S1 ∧ PoolP.Ahead S1 f) := Lib.hid ⟨HP3.out, HS1.out.1.less (by omega), HS1.out.2.1⟩
          clear HP3 HS1
          go_wp2_with fail
          go_loopw [14] (fun iv wq => ∃ (u : Nat) (bs2 : List Nat) (S2 : PoolX), u ≤ 4 ∧ iv = .int .i64 (u : Int) ∧ Hid (PW w wq p d lg wb bs2 S2 f ∧ PoolP.Fine ((60 - (j + 1)) * 10 + 100 + (4 - u)) S2 ∧ PoolP.Ahead S2 f)) (fun iv _ => 4 - (intOf iv).toNat)
          case atStart => exact ⟨0, _, _, by omega, rfl, HL⟩
          case round =>
            obtain ⟨u, bs2, S2, hu, rfl, HL2⟩ := hrel
            clear HL
            by_cases hltu : u < 4
            · have hd3 : decide ((u : Int) < 4) = true := decide_eq_true (by omega)
              have HF2 : Hid (PoolP.Fine ((60 - (j + 1)) * 10 + 100 + (4 - (u + 1)) + 1) S2) := Lib.hid (HL2.out.2.1.less (by omega))
              have hu1 : u + 1 ≤ 4 := by omega
              have hu5 : u < 5 := by omega
              obtain ⟨y, hy⟩ := HL2.out.2.2.here hltu
              have hfy := HL2.out.2.2.far u hltu y hy
              have hd4 : decide (S2.far < PoolP.lsn y) = false := decide_eq_false (by omega)
              clear hfy
              go_wp2_with fail
              refine (PW.read HL2.out.1 hu5 HL2.out.2.2.off HL2.out.2.2.fused HL2.out.2.2.len hy HF2.out.small.1).mono ?_
              rintro e W6 ⟨rfl, hyl, bs6, hP6⟩
              have HP6 := Lib.hid hP6
              have HL6 := Lib.hid (And.intro (fine_done HF2.out) (ahead_done HL2.out.2.2))
              clear hP6 HL2 HF2 hy
              have hst := run_st (P := Tryz.prog) arrPage (Str.new W6 (rowV (SlotP.zeros 512)) 42) (by rw [rowV_size]; exact HZ.out) hyl
              obtain ⟨W7, hWn⟩ : ∃ W, (W6.alloc (.cells (rowV (SlotP.zeros 512)) 42)).setRow W6.heap.size (rowV y) = W := ⟨_, rfl⟩
              rw [hWn] at hst
              have hbn : Below W6.heap.size W6 W7 := by rw [← hWn]; exact below_setRow (balloc (bsame _) _) (Nat.le_refl _) _
              have HP7 := Lib.hid (HP6.out.next hbn)
              have HXW7 : Hid (Str W7 W6.heap.size (rowV y)) := Lib.hid (by rw [← hWn]; exact (Str.new _ _ _).setRow)
              clear hWn hbn
              go_wp2_with fail
              clear hst
              obtain ⟨-, -, hlg, -⟩ := HP7.out.devs
              have HLG : Hid (Str W7 lg #[.int .i64 S2.far]) := Lib.hid hlg
              clear hlg
              refine Reg.wp_region_vals (R := ext) (W := W7) [Reg.eqv (.agg (rowV y)), Reg.eqv (.int .i64 (PoolP.lsn y)), Reg.eqv (.pointer (some ⟨lg, 0, none⟩)), Reg.eqv (.pointer (some ⟨lg, 0, none⟩)), Reg.eqv (.pointer (some ⟨lg, 0, none⟩)), Reg.eqv (.int .i64 S2.far), Reg.eqv (.bool false)] 146 [[(15, none)], [(102, some 0)], [(7, none)], [(104, some 2)], [(105, some 3)], [(106, some 4)], [(103, some 1), (107, some 5)]] rfl (by kernel_rfl) (by kernel_rfl) (by kernel_rfl) ?_ [some 102, some 103, some 104, some 105, some 106, some 107, some 108] (by kernel_rfl) ?_
              · refine ⟨?_, ?_, ?_, ?_, ?_, ?_, ?_, trivial⟩
                · intro ax wx hx hs
                  obtain ⟨e15, -⟩ := hs
                  have g15 := Reg.ev (v := .pointer (some ⟨W6.heap.size, 0, none⟩)) e15
                  have lf := str1 (HLG.out.next hx)
                  refine Reg.obl_free rfl ?_
                  have hx' : Below W7.heap.size W7 wx := hx
                  have hld := run_ld (P := Tryz.prog) arrPage (HXW7.out.next hx') hyl
                  exact Reg.wp_eqv (Option.some_ne_none _) (by go_simp) rfl
                · intro ax wx hx hs
                  obtain ⟨e102, -⟩ := hs
                  have g102 := Reg.ev (v := .agg (rowV y)) e102
                  refine Reg.obl_free rfl ?_
                  go_simp
                  refine (PageW.lsn_any y hyl wx).mono ?_
                  rintro r wy ⟨rfl, hby⟩
                  exact Reg.done (Option.some_ne_none _) rfl hby
                · intro ax wx hx hs
                  obtain ⟨e7, -⟩ := hs
                  have g7 := Reg.ev (v := .pointer (some ⟨lg, 0, none⟩)) e7
                  exact Reg.obl_free rfl (Reg.wp_eqv (Option.some_ne_none _) (by go_simp) rfl)
                · intro ax wx hx hs
                  obtain ⟨e104, -⟩ := hs
                  have g104 := Reg.ev (v := .pointer (some ⟨lg, 0, none⟩)) e104
                  exact Reg.obl_free rfl (Reg.wp_eqv (Option.some_ne_none _) (by go_simp) rfl)
                · intro ax wx hx hs
                  obtain ⟨e105, -⟩ := hs
                  have g105 := Reg.ev (v := .pointer (some ⟨lg, 0, none⟩)) e105
                  exact Reg.obl_free rfl (Reg.wp_eqv (Option.some_ne_none _) (by go_simp) rfl)
                · intro ax wx hx hs
                  obtain ⟨e106, -⟩ := hs
                  have g106 := Reg.ev (v := .pointer (some ⟨lg, 0, none⟩)) e106
                  have lf := str1 (HLG.out.next hx)
                  exact Reg.obl_free rfl (Reg.wp_eqv (Option.some_ne_none _) (by go_simp) rfl)
                · intro ax wx hx hs
                  obtain ⟨e103, e107, -⟩ := hs
                  have g103 := Reg.ev (v := .int .i64 (PoolP.lsn y)) e103
                  have g107 := Reg.ev (v := .int .i64 S2.far) e107
                  exact Reg.obl_free rfl (Reg.wp_eqv (Option.some_ne_none _) (by go_simp) rfl)
              · intro W8 hwf
                simp only [Reg.Fin]
                rintro _ rfl _ rfl _ rfl _ rfl _ rfl _ rfl _ rfl
                go_simp
                have hwf' : Below W7.heap.size W7 W8 := hwf
                have HP8 := Lib.hid (HP7.out.next hwf')
                clear hwf hwf' HLG HXW7 HP7 HP6
                go_wp2
                go_roundw
                case rel => exact ⟨u + 1, bs6, _, hu1, by go_num, Lib.hid ⟨HP8.out, HL6.out⟩⟩
                case measure => simp [intOf]; omega
            · have hd3 : decide ((u : Int) < 4) = false := decide_eq_false (by omega)
              obtain rfl : u = 4 := by omega
              go_wp2
              go_roundw
              case rel => exact ⟨j + 1, bs2, S2, f, hj1, by go_num, Lib.hid ⟨HL2.out.1, HL2.out.2.1.less (by omega), HL2.out.2.2⟩⟩
              case measure => simp [intOf]; omega
    · have hd2 : decide ((j : Int) < (nl : Int)) = false := decide_eq_false (by omega)
      obtain rfl : j = nl := by omega
      have HFF : Hid (PoolP.Fine (35 + 65) S) := Lib.hid (HS.out.2.1.less (by omega))
      obtain ⟨a1, a2, a3, a4, a5⟩ := HS.out.2.2.flush
      have HA2 := Lib.hid (And.intro a2 (And.intro a3 (And.intro a4 a5)))
      have HF2 := Lib.hid (PoolP.Fine.flush (k := 35) HFF.out)
      go_wp2_with fail
      refine (flush_any p d lg bs S wr HS.out.1.pk.pool (PoolP.Fine.flush_room (k := 35) HFF.out)).mono ?_
      rintro e W1 hT
      rw [a1] at hT
      obtain ⟨rfl, bs1, hP1⟩ := HS.out.1.told hT
      have HP1 := Lib.hid hP1
      clear hT hP1 a1 a2 a3 a4 a5 HS HFF
      generalize (PoolP.flush S).1 = S1 at *
      go_wp2_with fail
      refine (code_any 0 W1).mono ?_
      rintro e w' ⟨rfl, rfl⟩
      go_wp2_with fail
      refine HP1.out.dirty.mono ?_
      rintro e W2 ⟨A2, n2, c2, rfl, hO2, hb2⟩
      rw [HA2.out.2.1] at hO2
      obtain rfl : n2 = 0 := hO2.len.symm
      have HP2 := Lib.hid (HP1.out.next hb2)
      clear hO2 hb2 HP1
      obtain ⟨db2, hD2, -, hdev⟩ := HP2.out.devs
      have HD2 := Lib.hid hD2
      have HDV := Lib.hid hdev
      clear hD2 hdev
      go_wp2_with fail
      refine (DevW.Crash_any 0 (by unfold In64; omega) W2 HD2.out HF2.out.small).mono ?_
      rintro e W3 hT
      obtain ⟨rfl, bs3, hP3⟩ := HDV.out _ _ _ _ hT
      have HL : Hid (PW w W3 p d lg wb bs3 { S1 with D := DevP.crashed S1.D 0 } f ∧ Crashed { S1 with D := DevP.crashed S1.D 0 } f (10 - 0)) := Lib.hid ⟨hP3, crashed_of HA2.out.1 HA2.out.2.2.1 HA2.out.2.2.2 (HF2.out.room.less (by omega))⟩
      clear hT hP3 HD2 HDV HP2 HA2 HF2
      generalize ({ S1 with D := DevP.crashed S1.D 0 } : PoolX) = S3 at *
      go_wp2_with fail
      go_loopw [17] (fun iv wq => ∃ (u : Nat) (bs2 : List Nat) (S2 : PoolX), u ≤ 4 ∧ iv = .int .i64 (u : Int) ∧ Hid (PW w wq p d lg wb bs2 S2 f ∧ Crashed S2 f (10 - u))) (fun iv _ => 4 - (intOf iv).toNat)
      case atStart => exact ⟨0, _, _, by omega, rfl, HL⟩
      case round =>
        obtain ⟨u, bs2, S2, hu, rfl, HL2⟩ := hrel
        clear HL
        by_cases hltu : u < 4
        · have hd3 : decide ((u : Int) < 4) = true := decide_eq_true (by omega)
          have hu1 : u + 1 ≤ 4 := by omega
          have hu5 : u < 5 := by omega
          have HC2 : Hid (Crashed S2 f (10 - (u + 1) + 1)) := Lib.hid (by rw [show 10 - (u + 1) + 1 = 10 - u from by omega]; exact HL2.out.2)
          obtain ⟨w0, w1⟩ := HC2.out.wants u hltu
          have HW2 := Lib.hid (And.intro w0 w1)
          clear w0 w1
          have hz4 : (PageP.sealed (page (u : Int) (f u))).length = 512 := PageP.sealed_length _ (page_len _ _)
          go_wp2_with fail
          refine (PW.read HL2.out.1 hu5 HC2.out.off HC2.out.fused HC2.out.len (HC2.out.now u hltu) HC2.out.room.small.1).mono ?_
          rintro e W6 ⟨rfl, -, bs6, hP6⟩
          have HP6 := Lib.hid hP6
          have HC6 := Lib.hid HC2.out.done
          clear hP6 HL2 HC2
          rw [show PoolP.page (u : Int) (f u) = page (u : Int) (f u) from rfl]
          obtain ⟨y, hy⟩ : ∃ y, PageP.sealed (page (u : Int) (f u)) = y := ⟨_, rfl⟩
          rw [hy] at hz4
          rw [hy]
          have HY := Lib.hid hy
          clear hy
          have hst := run_st (P := Tryz.prog) arrPage (Str.new W6 (rowV (SlotP.zeros 512)) 42) (by rw [rowV_size]; exact HZ.out) hz4
          obtain ⟨W7, hWn⟩ : ∃ W, (W6.alloc (.cells (rowV (SlotP.zeros 512)) 42)).setRow W6.heap.size (rowV y) = W := ⟨_, rfl⟩
          rw [hWn] at hst
          have hbn : Below W6.heap.size W6 W7 := by rw [← hWn]; exact below_setRow (balloc (bsame _) _) (Nat.le_refl _) _
          have HP7 := Lib.hid (HP6.out.next hbn)
          have HXW7 : Hid (Str W7 W6.heap.size (rowV y)) := Lib.hid (by rw [← hWn]; exact (Str.new _ _ _).setRow)
          clear hWn hbn
          go_wp2_with fail
          clear hst
          refine Reg.wp_region_vals (R := ext) (W := W7) [Reg.eqv (.int .i64 0), Reg.eqv (.int .i64 0), Reg.eqv (.bool false), Reg.eqv (.bool false), Reg.eqv (.agg (rowV y)), Reg.eqv (.int .i64 (u : Int)), Reg.eqv (.int .i64 (u : Int)), Reg.eqv (.pointer (some ⟨wb, u, none⟩)), Reg.eqv (.int .i64 (f u)), Reg.eqv (.agg (rowV (page (u : Int) (f u)))), Reg.eqv (.agg (rowV y)), Reg.eqv (.bool false), Reg.eqv (.bool false)] 146 [[(19, none)], [(132, some 0)], [(133, some 1)], [(134, some 2)], [(18, none), (135, some 3)], [(17, none), (135, some 3)], [(17, none), (135, some 3)], [(9, none), (138, some 6), (135, some 3)], [(139, some 7), (135, some 3)], [(137, some 5), (140, some 8), (135, some 3)], [(141, some 9), (135, some 3)], [(136, some 4), (142, some 10), (135, some 3)], [(135, some 3), (143, some 11)]] rfl (by kernel_rfl) (by kernel_rfl) (by kernel_rfl) ?_ [some 132, some 133, some 134, some 135, some 136, some 137, some 138, some 139, some 140, some 141, some 142, some 143, some 144] (by kernel_rfl) ?_
          · refine ⟨?_, ?_, ?_, ?_, ?_, ?_, ?_, ?_, ?_, ?_, ?_, ?_, ?_, trivial⟩
            · intro ax wx hx hs
              obtain ⟨e19, -⟩ := hs
              have g19 := Reg.ev (v := .int .i64 0) e19
              exact Reg.obl_free rfl (Reg.wp_eqv (Option.some_ne_none _) (by go_simp) rfl)
            · intro ax wx hx hs
              obtain ⟨e132, -⟩ := hs
              have g132 := Reg.ev (v := .int .i64 0) e132
              refine Reg.obl_free rfl ?_
              go_simp
              refine (code_any 0 wx).mono ?_
              rintro r wy ⟨rfl, rfl⟩
              exact Reg.done (Option.some_ne_none _) rfl (bsame _)
            · intro ax wx hx hs
              obtain ⟨e133, -⟩ := hs
              have g133 := Reg.ev (v := .int .i64 0) e133
              exact Reg.obl_free rfl (Reg.wp_eqv (Option.some_ne_none _) (by go_simp) rfl)
            · intro ax wx hx hs
              obtain ⟨e134, -⟩ := hs
              have g134 := Reg.ev (v := .bool false) e134
              exact Reg.obl_free rfl (Reg.wp_eqv (Option.some_ne_none _) (by go_simp) rfl)
            · intro ax wx hx hs
              obtain ⟨e18, e135, -⟩ := hs
              have g18 := Reg.ev (v := .pointer (some ⟨W6.heap.size, 0, none⟩)) e18
              have g135 := Reg.ev (v := .bool false) e135
              have hx' : Below W7.heap.size W7 wx := hx
              have lw : wx.cell? ⟨wb, u, none⟩ = some (.int .i64 (f u)) := ((HP7.out.box.next hx').cell u).trans (want_get f hltu)
              refine Reg.obl_want rfl rfl e135 ?_
              have hx' : Below W7.heap.size W7 wx := hx
              have hld := run_ld (P := Tryz.prog) arrPage (HXW7.out.next hx') hz4
              exact Reg.wp_eqv (Option.some_ne_none _) (by go_simp) rfl
            · intro ax wx hx hs
              obtain ⟨e17, e135, -⟩ := hs
              have g17 := Reg.ev (v := .int .i64 (u : Int)) e17
              have g135 := Reg.ev (v := .bool false) e135
              exact Reg.obl_want rfl rfl e135 (Reg.wp_eqv (Option.some_ne_none _) (by go_simp) rfl)
            · intro ax wx hx hs
              obtain ⟨e17, e135, -⟩ := hs
              have g17 := Reg.ev (v := .int .i64 (u : Int)) e17
              have g135 := Reg.ev (v := .bool false) e135
              exact Reg.obl_want rfl rfl e135 (Reg.wp_eqv (Option.some_ne_none _) (by go_simp) rfl)
            · intro ax wx hx hs
              obtain ⟨e9, e138, e135, -⟩ := hs
              have g9 := Reg.ev (v := .pointer (some ⟨wb, 0, none⟩)) e9
              have g138 := Reg.ev (v := .int .i64 (u : Int)) e138
              have g135 := Reg.ev (v := .bool false) e135
              refine Reg.obl_want rfl rfl e135 ?_
              exact Reg.wp_eqv (Option.some_ne_none _) (by go_simp; first | done | (intro hq; omega)) rfl
            · intro ax wx hx hs
              obtain ⟨e139, e135, -⟩ := hs
              have g139 := Reg.ev (v := .pointer (some ⟨wb, u, none⟩)) e139
              have g135 := Reg.ev (v := .bool false) e135
              have hx' : Below W7.heap.size W7 wx := hx
              have lw : wx.cell? ⟨wb, u, none⟩ = some (.int .i64 (f u)) := ((HP7.out.box.next hx').cell u).trans (want_get f hltu)
              exact Reg.obl_want rfl rfl e135 (Reg.wp_eqv (Option.some_ne_none _) (by go_simp) rfl)
            · intro ax wx hx hs
              obtain ⟨e137, e140, e135, -⟩ := hs
              have g137 := Reg.ev (v := .int .i64 (u : Int)) e137
              have g140 := Reg.ev (v := .int .i64 (f u)) e140
              have g135 := Reg.ev (v := .bool false) e135
              refine Reg.obl_want rfl rfl e135 ?_
              go_simp
              refine (of_any (u : Int) (f u) (by have := HW2.out.1; omega) (by have := HW2.out.2; omega) wx).mono ?_
              rintro r wy ⟨rfl, hby⟩
              exact Reg.done (Option.some_ne_none _) rfl hby
            · intro ax wx hx hs
              obtain ⟨e141, e135, -⟩ := hs
              have g141 := Reg.ev (v := .agg (rowV (page (u : Int) (f u)))) e141
              have g135 := Reg.ev (v := .bool false) e135
              refine Reg.obl_want rfl rfl e135 ?_
              go_simp
              refine (PageW.sealed_any _ (page_len _ _) wx).mono ?_
              rintro r wy ⟨rfl, hby⟩
              exact Reg.done (Option.some_ne_none _) (by rw [HY.out]; exact rfl) hby
            · intro ax wx hx hs
              obtain ⟨e136, e142, e135, -⟩ := hs
              have g136 := Reg.ev (v := .agg (rowV y)) e136
              have g142 := Reg.ev (v := .agg (rowV y)) e142
              have g135 := Reg.ev (v := .bool false) e135
              refine Reg.obl_want rfl rfl e135 ?_
              have harr := run_arr_eq (P := Tryz.prog) arrPage y y hz4 hz4 wx
              rw [beq_self_eq_true] at harr
              exact Reg.wp_eqv (Option.some_ne_none _) (by go_simp) rfl
            · intro ax wx hx hs
              obtain ⟨e135, e143, -⟩ := hs
              have g135 := Reg.ev (v := .bool false) e135
              have g143 := Reg.ev (v := .bool false) e143
              exact Reg.obl_free rfl (Reg.wp_eqv (Option.some_ne_none _) (by go_simp) rfl)
          · intro W8 hwf
            simp only [Reg.Fin]
            rintro _ rfl _ rfl _ rfl _ rfl _ rfl _ rfl _ rfl _ rfl _ rfl _ rfl _ rfl _ rfl _ rfl
            go_simp
            have hwf' : Below W7.heap.size W7 W8 := hwf
            have HP8 := Lib.hid (HP7.out.next hwf')
            clear hwf hwf' HXW7 HP7 HP6 HY hz4
            go_wp2
            go_roundw
            case rel => exact ⟨u + 1, bs6, _, hu1, by go_num, Lib.hid ⟨HP8.out, HC6.out⟩⟩
            case measure => simp [intOf]; omega
        · have hd3 : decide ((u : Int) < 4) = false := decide_eq_false (by omega)
          have HB := Lib.hid HL2.out.1.pk.bel
          go_wp2_with fail
          refine (live_any _).mono ?_
          rintro e W8 ⟨rfl, hb8⟩
          have HB8 := Lib.hid (bstep HB.out hb8)
          clear hb8
          go_wp2
          go_ret
          exact ⟨rfl, HB8.out⟩
set_option maxRecDepth 100000 in
set_option maxHeartbeats 1000000 in
theorem walk_live (n : Int) (A : Option Addr) (nl c : Nat) (w : World) (hl : 60 < nl) : Calls Tryz.prog 3 #[.int .i64 n, .slice A nl c] w fun e w' => e = .returned (.bool true) ∧ Below w.heap.size w w' := by
  have hd : decide ((60 : Int) < (nl : Int)) = true := decide_eq_true (by omega)
  go_enter Tryz.func3, Tryz.ntmps3
  go_wp2_with fail
  refine (live_any w).mono ?_
  rintro e W1 ⟨rfl, hb1⟩
  have HB1 := Lib.hid hb1
  clear hb1
  go_wp2
  go_ret
  exact ⟨rfl, HB1.out⟩
theorem walk (v0 v1 : Value) (a0 : Int) (a1 : List StepP) (w : World) (g0 : RInt w v0 a0) (g1 : RStepsP w w.heap.size v1 a1) : Calls Tryz.prog 3 #[v0, v1] w fun e w' => e = .returned (.bool true) ∧ Below w.heap.size w w' := by
  obtain ⟨rfl, -⟩ := g0
  obtain ⟨A, n, c, rfl, hE⟩ := g1
  by_cases h : 60 < n
  · exact walk_live a0 A n c w h
  · exact walk_main a0 A n c a1 w (Lib.hid hE) (by omega)
end Go.Proofs.YtcfieofcnpalgaaGreat.poolAhead
end
