/-
  Parts of the proof of LocksSteps.
-/
import Derived.Test.YtkkfabnehhamdaaDoorLkS23
import Derived.Test.YtkkfabnehhamdaaDoorLkS0
import Derived.SliceStrings
import Derived.Test.YtkkfabnehhamdaaDoorLkS14
import Derived.Test.YtkkfabnehhamdaaDoorLkS2
import Derived.Lib.OwnBridge
import Derived.Maps.AppendAt
section
namespace Go.Proofs.YtkkfabnehhamdaaDoor
open Go.RowKit
namespace RefL
open ModesP LockP
set_option linter.unusedVariables false
set_option linter.unusedSimpArgs false
attribute [local go_sem ↓] app_fold cut_fold
/-- the call hands back a table, and numbers -/
def GivesT (w : World) (A0 A02 : Option Addr) (n0 n02 : Nat) (y : RT × List Int) (e : Ending) (w' : World) : Prop := ∃ A n c A2 n2 c2 A3 n3 c3, e = .returned (.tuple #[.agg #[.slice A n c, .slice A2 n2 c2], .slice A3 n3 c3]) ∧ Elems H3E w' w'.heap.size A n c y.1.h ∧ Elems H3E w' w'.heap.size A2 n2 c2 y.1.w ∧ Elems IntE w' w'.heap.size A3 n3 c3 y.2 ∧ ((A = A0 ∧ n = n0) ∨ ∀ p, A = some p → w.heap.size ≤ p.block) ∧ ((A2 = A02 ∧ n2 = n02) ∨ ∀ p, A2 = some p → w.heap.size ≤ p.block) ∧ Below w.heap.size w w'
/-- what lies where, between the rounds of grant -/
structure Gr (w : World) (A A2 : Option Addr) (n n2 : Nat) (x : RT) (k : ByteArray) (hh done rest : List H3) (told : List Int) (A9 A10 AT : Option Addr) (n9 c9 n10 c10 nT cT : Nat) (wr : World) : Prop where
  ext : Below w.heap.size w wr
  box : Str wr w.heap.size #[.slice A9 n9 c9, .slice A10 n10 c10]
  res : Str wr (w.heap.size + 1) #[.slice none 0 0, .slice none 0 0]
  h : Elems H3E wr wr.heap.size A9 n9 c9 hh
  q : Elems H3E wr wr.heap.size A10 n10 c10 (done ++ rest)
  t : OwnE IntE 3 wr (w.heap.size + 2) AT nT cT told
  m : Modes3 hh
  mq : Modes3 (done ++ rest)
  ln : hh.length + (done ++ rest).length ≤ 10000
  lt : told.length + rest.length ≤ 10000
  eq : gR k x.w [] x.h = ((gR k rest done hh).1, told ++ (gR k rest done hh).2)
  oh : 0 < n9 → ∀ a p, AT = some a → A9 = some p → p.block ≠ a.block
  oq : 0 < n10 → ∀ a p, AT = some a → A10 = some p → p.block ≠ a.block
  fh : (A9 = A ∧ n9 = n) ∨ ∀ p, A9 = some p → w.heap.size ≤ p.block
  fq : (A10 = A2 ∧ n10 = n2) ∨ ∀ p, A10 = some p → w.heap.size ≤ p.block
theorem Gr.next {w : World} {A A2 : Option Addr} {n n2 : Nat} {x : RT} {k : ByteArray} {hh done rest : List H3} {told : List Int} {A9 A10 AT : Option Addr} {n9 c9 n10 c10 nT cT : Nat} {wr w2 : World} (h : Gr w A A2 n n2 x k hh done rest told A9 A10 AT n9 c9 n10 c10 nT cT wr) (hb : Below wr.heap.size wr w2) : Gr w A A2 n n2 x k hh done rest told A9 A10 AT n9 c9 n10 c10 nT cT w2 :=
  ⟨bstep h.ext hb, h.box.next hb, h.res.next hb, h.h.next hb, h.q.next hb, h.t.next hb, h.m, h.mq, h.ln, h.lt, h.eq, h.oh, h.oq, h.fh, h.fq⟩
theorem wrap64 (x : Int) (h1 : -9223372036854775808 ≤ x) (h2 : x ≤ 9223372036854775807) : IntKind.i64.wrap x = x := by
  simp only [IntKind.wrap, IntKind.bits, IntKind.signed]
  simp
  omega
theorem elems_lt {w : World} {B n c : Nat} {A : Option Addr} {l : List H3} (h : Elems H3E w B A n c l) (hn : 0 < n) : ∀ p, A = some p → p.block < B := fun p e => by
  obtain ⟨vs, -, -, -, -, hx⟩ := h
  obtain ⟨b, o, e2, hb, -⟩ := hx hn
  rw [e2] at e
  cases e
  exact hb
theorem ownE_lt {α : Type} {E : El α} {T : TypeId} {w : World} {base n c : Nat} {A : Option Addr} {l : List α} (h : OwnE E T w base A n c l) : ∀ a, A = some a → a.block < w.heap.size := fun a e => by
  obtain ⟨vs, ⟨-, h1⟩, -⟩ := h
  rcases h1 with ⟨e1, -⟩ | ⟨g, cap, cur, e1, -, hh, -⟩
  · cases e1; cases e
  · cases e1; cases e
    exact (Array.getElem?_eq_some_iff.1 hh).1
/-- another row grows -/
theorem elems_off {w w' : World} {B n c : Nat} {A : Option Addr} {l : List H3} {k : Option Nat} (h : Elems H3E w B A n c l) (hB : B ≤ w.heap.size) (hg : w.grownBy w' k) (hne : 0 < n → ∀ p, A = some p → k ≠ some p.block) : Elems H3E w' B A n c l := by
  obtain ⟨vs, hr, hl, hnc, hm, hx⟩ := h
  refine ⟨vs, hr, hl, hnc, hm, fun hn => ?_⟩
  obtain ⟨b, o, e, hb, hc⟩ := hx hn
  exact ⟨b, o, e, hb, fun j u hu => (World.cell?_of_block (hg.block b (by omega) (fun e2 => hne hn _ e e2.symm))).trans (hc j u hu)⟩
/-- how many wait, as the table's box tells -/
def mW (b : Nat) (wr : World) (iv : Value) : Nat := match wr.cell? ⟨b, 1, none⟩ with
  | some (.slice _ n _) => n - (intOf iv).toNat
  | _ => 0
theorem mW_eq {b : Nat} {wr : World} {iv : Value} {v : Value} {A : Option Addr} {n c : Nat} (h : Str wr b #[v, .slice A n c]) : mW b wr iv = n - (intOf iv).toNat := by
  unfold mW
  rw [show wr.cell? ⟨b, 1, none⟩ = some (.slice A n c) from h.cell 1]
theorem cut_head {w : World} {B n c : Nat} {A : Option Addr} {d r : List H3} {e : H3} {i : Nat} (hi : d.length = i) (h : Elems H3E w B A n c (d ++ e :: r)) : Elems H3E w B (cutA A 0 c 3) i c d := by
  have hl := h.len
  have hc := h.cap
  rw [List.length_append, List.length_cons] at hl
  have h2 := h.cut 0 i c (by omega) (by omega) (by omega) (Nat.le_refl _)
  rw [List.drop_zero, Nat.sub_zero, Nat.sub_zero, List.take_left' hi] at h2
  exact h2
theorem cut_tail {w : World} {B n c : Nat} {A : Option Addr} {d r : List H3} {e : H3} {i : Nat} (hi : d.length = i) (h : Elems H3E w B A n c (d ++ e :: r)) : Elems H3E w B (cutA A (i + 1) c 3) (n - (i + 1)) (c - (i + 1)) r := by
  have hl := h.len
  have hc := h.cap
  rw [List.length_append, List.length_cons] at hl
  have h2 := h.cut (i + 1) n c (by omega) (Nat.le_refl _) (by omega) (Nat.le_refl _)
  have e1 : List.drop (i + 1) (d ++ e :: r) = r := by
    rw [show d ++ e :: r = (d ++ [e]) ++ r by simp]
    exact List.drop_left' (by simp; omega)
  rw [e1, List.take_of_length_le (by omega)] at h2
  exact h2
theorem gR_no {k : ByteArray} {e : H3} {r done hh : List H3} (h : on3 k e = false ∨ blkR hh done e ≠ []) : gR k (e :: r) done hh = gR k r (done ++ [e]) hh := by
  show (if on3 k e && decide (blkR hh done e = []) then _ else _) = _
  rw [if_neg]
  rcases h with h | h
  · rw [h]; simp
  · simp [h]
theorem gR_yes {k : ByteArray} {e : H3} {r done hh : List H3} (h1 : on3 k e = true) (h2 : blkR hh done e = []) : gR k (e :: r) done hh = ((gR k r done (hh ++ [e])).1, e.txn :: (gR k r done (hh ++ [e])).2) := by
  show (if on3 k e && decide (blkR hh done e = []) then _ else _) = _
  rw [if_pos (by simp [h1, h2])]
theorem against_nil {x : RT} {e : H3} {m n8 : Nat} (h : (againstR x e m).length = n8) : n8 = 0 ↔ blkR x.h (x.w.take m) e = [] := by
  unfold againstR at h
  rw [← h]
  constructor
  · intro h
    have h1 := List.eq_nil_of_length_eq_zero h
    rcases hbl : blkR x.h (x.w.take m) e with _ | ⟨y, l⟩
    · rfl
    · have := ((SortI.sort_spec (blkR x.h (x.w.take m) e)).2 y).2 (by rw [hbl]; simp)
      rw [h1] at this
      cases this
  · intro h
    rw [h, SortI.sort_nil]
    rfl
theorem Gr.skip {w : World} {A A2 : Option Addr} {n n2 : Nat} {x : RT} {k : ByteArray} {hh done r : List H3} {e : H3} {told : List Int} {A9 A10 AT : Option Addr} {n9 c9 n10 c10 nT cT : Nat} {wr : World} (h : Gr w A A2 n n2 x k hh done (e :: r) told A9 A10 AT n9 c9 n10 c10 nT cT wr) (hno : on3 k e = false ∨ blkR hh done e ≠ []) : Gr w A A2 n n2 x k hh (done ++ [e]) r told A9 A10 AT n9 c9 n10 c10 nT cT wr := by
  have e1 : (done ++ [e]) ++ r = done ++ e :: r := by simp
  refine ⟨h.ext, h.box, h.res, h.h, by rw [e1]; exact h.q, h.t, h.m, by rw [e1]; exact h.mq, by rw [e1]; exact h.ln, ?_, ?_, h.oh, h.oq, h.fh, h.fq⟩
  · have := h.lt
    rw [List.length_cons] at this
    omega
  · rw [h.eq, gR_no hno]
/-- the walk's place: told, i -/
def GrR (w : World) (A A2 : Option Addr) (n n2 : Nat) (x : RT) (k : ByteArray) (tv iv : Value) (wr : World) : Prop := ∃ (hh done rest : List H3) (told : List Int) (A9 A10 AT : Option Addr) (n9 c9 n10 c10 nT cT i : Nat), tv = .slice AT nT cT ∧ iv = .int .i64 (i : Int) ∧ done.length = i ∧ Gr w A A2 n n2 x k hh done rest told A9 A10 AT n9 c9 n10 c10 nT cT wr
set_option maxRecDepth 100000 in
set_option maxHeartbeats 8000000 in
theorem grant_any (A A2 : Option Addr) (n c n2 c2 : Nat) (x : RT) (k : ByteArray) (w : World) (hH : Elems H3E w w.heap.size A n c x.h) (hW : Elems H3E w w.heap.size A2 n2 c2 x.w) (hm : Modes3 x.h) (hmw : Modes3 x.w) (hn : n + n2 ≤ 10000) :
    Calls Tryd.prog 39 #[.agg #[.slice A n c, .slice A2 n2 c2], .string k] w (GivesT w A A2 n n2 (grantR x k)) := by
  obtain ⟨W1, hW1⟩ : ∃ W, (w.alloc (.cells #[.slice A n c, .slice A2 n2 c2] 43)).alloc (.cells #[.slice none 0 0, .slice none 0 0] 43) = W := ⟨_, rfl⟩
  have hb1 : Below w.heap.size w W1 := by rw [← hW1]; exact balloc (balloc (bsame _) _) _
  have hG : Gr w A A2 n n2 x k x.h [] x.w [] A A2 none n c n2 c2 0 0 W1 :=
    ⟨hb1, by rw [← hW1]; exact (Str.new _ _ _).alloc _, by rw [← hW1]; have := Str.new (w.alloc (.cells #[.slice A n c, .slice A2 n2 c2] 43)) #[.slice none 0 0, .slice none 0 0] 43; simpa using this, hH.next hb1, hW.next hb1, OwnE.none_ _ _ _ _, hm, hmw, by rw [List.nil_append, hH.len, hW.len]; exact hn, by rw [hW.len]; show 0 + n2 ≤ _; omega, by simp, fun _ a p e => (by cases e), fun _ a p e => (by cases e), .inl ⟨rfl, rfl⟩, .inl ⟨rfl, rfl⟩⟩
  have HG1 := Lib.hid hG
  clear hH hW hm hmw hb1 hG
  go_enter Tryd.func39, Tryd.ntmps39
  go_wp2_with fail
  clear hW1
  go_loopw [6, 7] (fun tv iv wr => Hid (GrR w A A2 n n2 x k tv iv wr)) (fun tv iv wr => mW w.heap.size wr iv)
  case atStart => exact Lib.hid ⟨x.h, [], x.w, [], A, A2, none, n, c, n2, c2, 0, 0, 0, rfl, rfl, rfl, HG1.out⟩
  case round =>
    obtain ⟨hh, done, rest, told, A9, A10, AT, n9, c9, n10, c10, nT, cT, i, rfl, rfl, hi, hG⟩ := hrel.out
    have HG := Lib.hid hG
    have HI := Lib.hid hi
    clear hrel hG
    have g1 := str2 HG.out.box
    have gl1 := HG.out.box.lt
    have hlq := HG.out.q.len
    have hlh := HG.out.h.len
    have hlt := HG.out.t.len
    have hln := HG.out.ln
    have hltt := HG.out.lt
    have hez := HG.out.ext.size
    have hcq := HG.out.q.cap
    have hrl := HG.out.res.lt
    cases rest with
    | nil =>
      have hd : decide ((i : Int) < (n10 : Int)) = false := by rw [List.append_nil] at hlq; simp; omega
      have hge : ¬ i < n10 := by rw [List.append_nil] at hlq; omega
      clear hi
      have HR : Hid (grantR x k = (⟨hh, done⟩, told)) := Lib.hid (by
        unfold grantR
        rw [HG.out.eq]
        show (_, told ++ []) = _
        rw [List.append_nil]
        rfl)
      have g4 := str2 HG.out.res
      have gl4 := HG.out.res.lt
      have gf4 := fun j => HG.out.res.frozen j
      go_wp2_with fail
      refine bodyPost_ret (v := .tuple #[.agg #[.slice A9 n9 c9, .slice A10 n10 c10], .slice AT nT cT]) (by simp [results, Tryd.results39, go_sem, *]) rfl ?_
      rw [HR.out]
      have hq := HG.out.q
      rw [List.append_nil] at hq
      obtain ⟨k1, k2, k3⟩ := fin_box (w := w) HG.out.res HG.out.h hq HG.out.ext (by omega) rfl
      refine ⟨_, _, _, _, _, _, _, _, _, rfl, k1, k2, ?_, HG.out.fh, HG.out.fq, k3⟩
      exact (HG.out.t.grownP LockW.intE_pure ((grown_set (grown_refl wr (w.heap.size + 1)) 0 (.slice A9 n9 c9)).trans (grown_set (grown_refl _ (w.heap.size + 1)) 1 (.slice A10 n10 c10))) (fun a e => by have := HG.out.t.ge a e; intro h; injection h with h; omega)).elems
    | cons e r =>
      rw [List.length_append, List.length_cons] at hlq hln
      rw [List.length_cons] at hltt
      have hd : decide ((i : Int) < (n10 : Int)) = true := by simp; omega
      have hin : i < n10 := by omega
      have k1 : ¬ (i : Int) < 0 := by omega
      obtain ⟨b, o, p, rfl, hb, hx, q0, q1, q2⟩ := h3_at HG.out.q hin
      rw [← hi, List.getElem?_append_right (Nat.le_refl _), Nat.sub_self] at hx
      obtain rfl : e = p := by simpa using hx
      clear hx hi
      obtain ⟨W2, hW2⟩ : ∃ W, wr.alloc (.cells #[.int .i64 e.txn, .string e.key, .int .i64 e.mode] 28) = W := ⟨_, rfl⟩
      have hb2 : Below wr.heap.size wr W2 := by rw [← hW2]; exact balloc (bsame wr) _
      have hs2 : Str W2 wr.heap.size #[.int .i64 e.txn, .string e.key, .int .i64 e.mode] := by rw [← hW2]; exact Str.new _ _ _
      have HG2 := Lib.hid (HG.out.next hb2)
      have HS2 := Lib.hid hs2
      have hz2 := hb2.size
      have gl2 := hs2.lt
      have g2 := str3 hs2
      have gb2 := str2 HG2.out.box
      have gbl2 := HG2.out.box.lt
      clear hb2 hs2
      by_cases hk : e.key = k
      · have hd1 : (e.key.toList == k.toList) = true := by rw [hk]; exact beq_self_eq_true _
        have hon : Hid (on3 k e = true) := Lib.hid (on3_iff.2 hk)
        have hag := against_any A9 (some ⟨b, o, none⟩) n9 c9 n10 c10 ⟨hh, done ++ e :: r⟩ e i W2 HG2.out.h HG2.out.q HG2.out.m (by omega) (by omega) (by omega)
        clear hk
        go_wp2_with fail
        refine hag.mono ?_
        rintro e9 W3 ⟨A8, n8, c8, rfl, hE8, hb3⟩
        have HG3 := Lib.hid (HG2.out.next hb3)
        have HS3 := Lib.hid (HS2.out.next hb3)
        have hz3 := hb3.size
        have hl8 := hE8.len
        have h8 : Hid (n8 = 0 ↔ blkR hh done e = []) := Lib.hid (by
          have h := against_nil hl8
          dsimp only at h
          rwa [List.take_left' HI.out] at h)
        clear hag hb3 hE8 hl8 hW2 g1 gl1 g2 gl2 gb2 gbl2 q0 q1 q2
        by_cases hnb : n8 = 0
        · have hbl : Hid (blkR hh done e = []) := Lib.hid (h8.out.1 hnb)
          subst hnb
          have gb3 := str2 HG3.out.box
          have gbl3 := HG3.out.box.lt
          go_wp2_with fail
          have kc1 : ¬ c10 < i := by omega
          have kc2 : IntKind.i64.wrap ((i : Int) + 1) = (i : Int) + 1 := wrap64 _ (by omega) (by omega)
          have kc3 : (0 : Int) ≤ (i : Int) + 1 := by omega
          have kc4 : ¬ (n10 : Int) < (i : Int) + 1 := by omega
          refine Reg.wp_region_tail (R := (rowsW W3.heap.size (four done r e))) (W := W3) [rowK W3.heap.size (four done r e) 0, Reg.eqv (.pointer (some ⟨w.heap.size, 1, none⟩)), Reg.eqv (.slice (some ⟨b, o, none⟩) n10 c10), Reg.eqv (.int .i64 (i : Int)), Reg.eqv (.slice (cutA (some ⟨b, o, none⟩) 0 c10 3) i c10), rowK W3.heap.size (four done r e) 1, Reg.eqv (.pointer (some ⟨w.heap.size, 1, none⟩)), Reg.eqv (.slice (some ⟨b, o, none⟩) n10 c10), Reg.eqv (.int .i64 (i : Int)), Reg.eqv (.int .i64 ((i : Int) + 1)), Reg.eqv (.slice (cutA (some ⟨b, o, none⟩) (i + 1) c10 3) (n10 - (i + 1)) (c10 - (i + 1))), rowK W3.heap.size (four done r e) 3, Reg.eqv (.pointer (some ⟨w.heap.size, 1, none⟩))] 63 13 _ [[], [(2, none)], [(34, some 1)], [(7, none)], [(35, some 2), (36, some 3)], [(33, some 0), (37, some 4)], [(2, none)], [(39, some 6)], [(7, none)], [(41, some 8)], [(40, some 7), (42, some 9)], [(38, some 5), (43, some 10)], [(2, none)]] rfl (by kernel_rfl) (by kernel_rfl) (by rfl) (by rfl) rfl (by kernel_rfl) ?_ [some 33, some 34, some 35, some 36, some 37, some 38, some 39, some 40, some 41, some 42, some 43, some 44, some 45] (by kernel_rfl) ?_
          · refine ⟨?_, ?_, ?_, ?_, ?_, ?_, ?_, ?_, ?_, ?_, ?_, ?_, ?_, trivial⟩
            · intro ax wx hx hs
              refine Reg.obl_free rfl ?_
              have hx1 : Below W3.heap.size W3 wx := hx.1
              have hNx := hx1.size
              go_simp
              exact Reg.done (Option.some_ne_none _) (four_empty wx hNx) (rows_of hNx (balloc (bsame _) _))
            · intro ax wx hx hs
              obtain ⟨e2, -⟩ := hs
              have g2 := Reg.ev (v := .pointer (some ⟨w.heap.size, 0, none⟩)) e2
              exact Reg.obl_free rfl (Reg.wp_eqv (Option.some_ne_none _) (by go_simp) rfl)
            · intro ax wx hx hs
              obtain ⟨e34, -⟩ := hs
              have g34 := Reg.ev (v := .pointer (some ⟨w.heap.size, 1, none⟩)) e34
              have l0 := str2 (HG3.out.box.next hx.1)
              exact Reg.obl_free rfl (Reg.wp_eqv (Option.some_ne_none _) (by go_simp) rfl)
            · intro ax wx hx hs
              obtain ⟨e7, -⟩ := hs
              have g7 := Reg.ev (v := .int .i64 (i : Int)) e7
              exact Reg.obl_free rfl (Reg.wp_eqv (Option.some_ne_none _) (by go_simp) rfl)
            · intro ax wx hx hs
              obtain ⟨e35, e36, -⟩ := hs
              have g35 := Reg.ev (v := .slice (some ⟨b, o, none⟩) n10 c10) e35
              have g36 := Reg.ev (v := .int .i64 (i : Int)) e36
              exact Reg.obl_free rfl (Reg.wp_eqv (Option.some_ne_none _) (by go_simp) rfl)
            · intro ax wx hx hs
              obtain ⟨e33, e37, -⟩ := hs
              have g37 := Reg.ev (v := .slice (cutA (some ⟨b, o, none⟩) 0 c10 3) i c10) e37
              refine Reg.obl_free rfl ?_
              have hx1 : Below W3.heap.size W3 wx := hx.1
              have hNx := hx1.size
              obtain ⟨A0, c0, A3, n3, c3, w3, e0, h3, h4, h5⟩ := rows_one (l1 := done) e33 (cut_head HI.out (HG3.out.q.next hx1)) (by omega) hNx
              refine wp_appT (.tmp 33) (.tmp 37) rfl rfl e0 e37 h3 ?_
              exact Reg.done (Option.some_ne_none _) h4 h5
            · intro ax wx hx hs
              obtain ⟨e2, -⟩ := hs
              have g2 := Reg.ev (v := .pointer (some ⟨w.heap.size, 0, none⟩)) e2
              exact Reg.obl_free rfl (Reg.wp_eqv (Option.some_ne_none _) (by go_simp) rfl)
            · intro ax wx hx hs
              obtain ⟨e39, -⟩ := hs
              have g39 := Reg.ev (v := .pointer (some ⟨w.heap.size, 1, none⟩)) e39
              have l0 := str2 (HG3.out.box.next hx.1)
              exact Reg.obl_free rfl (Reg.wp_eqv (Option.some_ne_none _) (by go_simp) rfl)
            · intro ax wx hx hs
              obtain ⟨e7, -⟩ := hs
              have g7 := Reg.ev (v := .int .i64 (i : Int)) e7
              exact Reg.obl_free rfl (Reg.wp_eqv (Option.some_ne_none _) (by go_simp) rfl)
            · intro ax wx hx hs
              obtain ⟨e41, -⟩ := hs
              have g41 := Reg.ev (v := .int .i64 (i : Int)) e41
              exact Reg.obl_free rfl (Reg.wp_eqv (Option.some_ne_none _) (by go_simp) rfl)
            · intro ax wx hx hs
              obtain ⟨e40, e42, -⟩ := hs
              have g40 := Reg.ev (v := .slice (some ⟨b, o, none⟩) n10 c10) e40
              have g42 := Reg.ev (v := .int .i64 ((i : Int) + 1)) e42
              exact Reg.obl_free rfl (Reg.wp_eqv (Option.some_ne_none _) (by go_simp) rfl)
            · intro ax wx hx hs
              obtain ⟨e38, e43, -⟩ := hs
              have g43 := Reg.ev (v := .slice (cutA (some ⟨b, o, none⟩) (i + 1) c10 3) (n10 - (i + 1)) (c10 - (i + 1))) e43
              refine Reg.obl_free rfl ?_
              have hx1 : Below W3.heap.size W3 wx := hx.1
              have hNx := hx1.size
              obtain ⟨A0, c0, A3, n3, c3, w3, e0, h3, h4, h5⟩ := rows_two (l1 := done) e38 (cut_tail HI.out (HG3.out.q.next hx1)) (by omega) hNx
              refine wp_appT (.tmp 38) (.tmp 43) rfl rfl e0 e43 h3 ?_
              exact Reg.done (Option.some_ne_none _) h4 h5
            · intro ax wx hx hs
              obtain ⟨e2, -⟩ := hs
              have g2 := Reg.ev (v := .pointer (some ⟨w.heap.size, 0, none⟩)) e2
              exact Reg.obl_free rfl (Reg.wp_eqv (Option.some_ne_none _) (by go_simp) rfl)
          · intro W4 hwf
            simp only [Reg.Fin]
            rintro v33 h33 _ rfl _ rfl _ rfl _ rfl v38 h38 _ rfl _ rfl _ rfl _ rfl _ rfl v44 h44 _ rfl
            obtain ⟨A6, n6, c6, rfl, hE6, hA6⟩ := four3 h44
            have HF6 : Hid (∀ p, A6 = some p → w.heap.size ≤ p.block) := Lib.hid (fun p ep => by have h1 := hA6 p ep; omega)
            have HA6 : Hid (∀ a p, AT = some a → A6 = some p → p.block ≠ a.block) := Lib.hid (fun a p ea ep => by have h1 := ownE_lt HG3.out.t a ea; have h2 := hA6 p ep; omega)
            have HE6 := Lib.hid hE6
            have HG4 := Lib.hid (HG3.out.next hwf.1)
            have HS4 := Lib.hid (HS3.out.next hwf.1)
            have hz4 := hwf.1.size
            clear hA6 hwf hE6 h33 h38 h44 kc1 kc3 kc4 gb3 gbl3
            have g1 := str2 HG4.out.box
            have gl1 := HG4.out.box.lt
            have gf1 := fun j => HG4.out.box.frozen j
            refine Reg.Goal.mk ?_
            go_simp
            obtain ⟨W5, hW5⟩ : ∃ W, W4.setCell ⟨w.heap.size, 1, none⟩ (.slice A6 n6 c6) = W := ⟨_, rfl⟩
            have hz5 : W5.heap.size = W4.heap.size := by rw [← hW5]; simp
            have HB5 : Hid (Below w.heap.size w W5) := Lib.hid (by rw [← hW5]; exact Below.setCell HG4.out.ext (Nat.le_refl _) _)
            have HH5 : Hid (Elems H3E W5 W5.heap.size A9 n9 c9 hh) := Lib.hid (by rw [hz5, ← hW5]; exact elems_box HG4.out.h HG4.out.box)
            have HQ5 : Hid (Elems H3E W5 W5.heap.size A6 n6 c6 (done ++ r)) := Lib.hid (by rw [hz5, ← hW5]; exact elems_box HE6.out HG4.out.box)
            have HT5 : Hid (OwnE IntE 3 W5 (w.heap.size + 2) AT nT cT told) := Lib.hid (by rw [← hW5]; exact HG4.out.t.grownP LockW.intE_pure (grown_set (grown_refl W4 w.heap.size) 1 _) (fun a e => by have := HG4.out.t.ge a e; intro h; injection h with h; omega))
            have HR5 : Hid (Str W5 (w.heap.size + 1) #[.slice none 0 0, .slice none 0 0]) := Lib.hid (by rw [← hW5]; exact HG4.out.res.other 1 _ (by omega))
            have HS5 : Hid (Str W5 wr.heap.size #[.int .i64 e.txn, .string e.key, .int .i64 e.mode]) := Lib.hid (by rw [← hW5]; exact HS4.out.other 1 _ (by omega))
            have HBX5 : Hid (Str W5 w.heap.size #[.slice A9 n9 c9, .slice A6 n6 c6]) := Lib.hid (by rw [← hW5]; exact HG4.out.box.set 1 _)
            rw [hW5]
            clear hW5 g1 gl1 gf1 HE6
            go_wp2_with fail
            refine Reg.wp_region_tail (R := (rowsW W5.heap.size (four hh [e] e))) (W := W5) [rowK W5.heap.size (four hh [e] e) 0, Reg.eqv (.pointer (some ⟨w.heap.size, 0, none⟩)), Reg.eqv (.slice A9 n9 c9), rowK W5.heap.size (four hh [e] e) 1, Reg.eqv (.agg #[.int .i64 e.txn, .string e.key, .int .i64 e.mode]), rowK W5.heap.size (four hh [e] e) 2, rowK W5.heap.size (four hh [e] e) 3, Reg.eqv (.pointer (some ⟨w.heap.size, 0, none⟩))] 63 8 _ [[], [(2, none)], [(47, some 1)], [(46, some 0), (48, some 2)], [(8, none)], [(50, some 4)], [(49, some 3), (51, some 5)], [(2, none)]] rfl (by kernel_rfl) (by kernel_rfl) (by rfl) (by rfl) rfl (by kernel_rfl) ?_ [some 46, some 47, some 48, some 49, some 50, some 51, some 52, some 53] (by kernel_rfl) ?_
            · refine ⟨?_, ?_, ?_, ?_, ?_, ?_, ?_, ?_, trivial⟩
              · intro ax wx hx hs
                refine Reg.obl_free rfl ?_
                have hx1 : Below W5.heap.size W5 wx := hx.1
                have hNx := hx1.size
                go_simp
                exact Reg.done (Option.some_ne_none _) (four_empty wx hNx) (rows_of hNx (balloc (bsame _) _))
              · intro ax wx hx hs
                obtain ⟨e2, -⟩ := hs
                have g2 := Reg.ev (v := .pointer (some ⟨w.heap.size, 0, none⟩)) e2
                exact Reg.obl_free rfl (Reg.wp_eqv (Option.some_ne_none _) (by go_simp) rfl)
              · intro ax wx hx hs
                obtain ⟨e47, -⟩ := hs
                have g47 := Reg.ev (v := .pointer (some ⟨w.heap.size, 0, none⟩)) e47
                have l0 := str2 (HBX5.out.next hx.1)
                have l1 := str3 (HS5.out.next hx.1)
                exact Reg.obl_free rfl (Reg.wp_eqv (Option.some_ne_none _) (by go_simp) rfl)
              · intro ax wx hx hs
                obtain ⟨e46, e48, -⟩ := hs
                have g48 := Reg.ev (v := .slice A9 n9 c9) e48
                refine Reg.obl_free rfl ?_
                have hx1 : Below W5.heap.size W5 wx := hx.1
                have hNx := hx1.size
                obtain ⟨A0, c0, A3, n3, c3, w3, e0, h3, h4, h5⟩ := rows_one (l1 := hh) e46 (HH5.out.next hx1) (by omega) hNx
                refine wp_appT (.tmp 46) (.tmp 48) rfl rfl e0 e48 h3 ?_
                exact Reg.done (Option.some_ne_none _) h4 h5
              · intro ax wx hx hs
                obtain ⟨e8, -⟩ := hs
                have g8 := Reg.ev (v := .pointer (some ⟨wr.heap.size, 0, none⟩)) e8
                have l0 := str2 (HBX5.out.next hx.1)
                have l1 := str3 (HS5.out.next hx.1)
                exact Reg.obl_free rfl (Reg.wp_eqv (Option.some_ne_none _) (by go_simp) rfl)
              · intro ax wx hx hs
                obtain ⟨e50, -⟩ := hs
                have g50 := Reg.ev (v := .agg #[.int .i64 e.txn, .string e.key, .int .i64 e.mode]) e50
                refine Reg.obl_free rfl ?_
                have hx1 : Below W5.heap.size W5 wx := hx.1
                have hNx := hx1.size
                go_simp
                exact Reg.done (Option.some_ne_none _) (four_new (x := e) wx hNx) (rows_of hNx (balloc (bsame _) _))
              · intro ax wx hx hs
                obtain ⟨e49, e51, -⟩ := hs
                refine Reg.obl_free rfl ?_
                have hx1 : Below W5.heap.size W5 wx := hx.1
                have hNx := hx1.size
                obtain ⟨A5, c5, e5, hE5⟩ := four2 e51
                obtain ⟨A0, c0, A3, n3, c3, w3, e0, h3, h4, h5⟩ := rows_two (l1 := hh) e49 hE5 (by omega) hNx
                refine wp_appT (.tmp 49) (.tmp 51) rfl rfl e0 e5 h3 ?_
                exact Reg.done (Option.some_ne_none _) h4 h5
              · intro ax wx hx hs
                obtain ⟨e2, -⟩ := hs
                have g2 := Reg.ev (v := .pointer (some ⟨w.heap.size, 0, none⟩)) e2
                exact Reg.obl_free rfl (Reg.wp_eqv (Option.some_ne_none _) (by go_simp) rfl)
            · intro W6 hwf
              simp only [Reg.Fin]
              rintro v46 h46 _ rfl _ rfl v49 h49 _ rfl v51 h51 v52 h52 _ rfl
              obtain ⟨A7, n7, c7, rfl, hE7, hA7⟩ := four3 h52
              have HF7 : Hid (∀ p, A7 = some p → w.heap.size ≤ p.block) := Lib.hid (fun p ep => by have h1 := hA7 p ep; have h2 := HB5.out.size; omega)
              have HA7 : Hid (∀ a p, AT = some a → A7 = some p → p.block ≠ a.block) := Lib.hid (fun a p ea ep => by have h1 := ownE_lt HT5.out a ea; have h2 := hA7 p ep; omega)
              have HE7 := Lib.hid hE7
              have hwf' : Below W5.heap.size W5 W6 := hwf.1
              replace HB5 := Lib.hid (bstep HB5.out hwf')
              replace HQ5 := Lib.hid (HQ5.out.next hwf')
              replace HT5 := Lib.hid (HT5.out.next hwf')
              replace HR5 := Lib.hid (HR5.out.next hwf')
              replace HS5 := Lib.hid (HS5.out.next hwf')
              replace HBX5 := Lib.hid (HBX5.out.next hwf')
              have hz6 := hwf'.size
              clear hA7 hwf hwf' hE7 h46 h49 h51 h52 HH5
              have g1 := str2 HBX5.out
              have gl1 := HBX5.out.lt
              have gf1 := fun j => HBX5.out.frozen j
              refine Reg.Goal.mk ?_
              go_simp
              obtain ⟨W7, hW7⟩ : ∃ W, W6.setCell ⟨w.heap.size, 0, none⟩ (.slice A7 n7 c7) = W := ⟨_, rfl⟩
              have hz7 : W7.heap.size = W6.heap.size := by rw [← hW7]; simp
              have HB7 : Hid (Below w.heap.size w W7) := Lib.hid (by rw [← hW7]; exact Below.setCell HB5.out (Nat.le_refl _) _)
              have HH7 : Hid (Elems H3E W7 W7.heap.size A7 n7 c7 (hh ++ [e])) := Lib.hid (by rw [hz7, ← hW7]; exact elems_box HE7.out HBX5.out)
              have HQ7 : Hid (Elems H3E W7 W7.heap.size A6 n6 c6 (done ++ r)) := Lib.hid (by rw [hz7, ← hW7]; exact elems_box HQ5.out HBX5.out)
              have HT7 : Hid (OwnE IntE 3 W7 (w.heap.size + 2) AT nT cT told) := Lib.hid (by rw [← hW7]; exact HT5.out.grownP LockW.intE_pure (grown_set (grown_refl W6 w.heap.size) 0 _) (fun a e => by have := HT5.out.ge a e; intro h; injection h with h; omega))
              have HR7 : Hid (Str W7 (w.heap.size + 1) #[.slice none 0 0, .slice none 0 0]) := Lib.hid (by rw [← hW7]; exact HR5.out.other 0 _ (by omega))
              have HS7 : Hid (Str W7 wr.heap.size #[.int .i64 e.txn, .string e.key, .int .i64 e.mode]) := Lib.hid (by rw [← hW7]; exact HS5.out.other 0 _ (by omega))
              have HBX7 : Hid (Str W7 w.heap.size #[.slice A7 n7 c7, .slice A6 n6 c6]) := Lib.hid (by rw [← hW7]; exact HBX5.out.set 0 _)
              rw [hW7]
              clear hW7 g1 gl1 gf1 HE7 HB5 HQ5 HT5 HR5 HS5 HBX5
              have g3 := str3 HS7.out
              have gl3 := HS7.out.lt
              obtain ⟨W8, hW8⟩ : ∃ W, W7.alloc (.cells #[.int .i64 e.txn] 3) = W := ⟨_, rfl⟩
              have hb8 : Below W7.heap.size W7 W8 := by rw [← hW8]; exact balloc (bsame _) _
              have hs8 : Str W8 W7.heap.size #[.int .i64 e.txn] := by rw [← hW8]; exact Str.new _ _ _
              have hz8 := hb8.size
              obtain ⟨i0, hi0, z0, z1, z2⟩ := info_parts infoI
              obtain ⟨A3, c3, w3, happ, hO3, hb3, hg3, hA3⟩ := (HT7.out.next hb8).app (P := Tryd.prog) 32 32 i0 _ 8 Tryd.underlying32 hi0 z0 z1 z2 rfl (IntE.src (IntE.lit (wr := W8) (x := e.txn) hs8)) (by unfold maxLen; omega) (by omega) (by omega)
              have hl7 := HH7.out.len
              have HZ := Lib.hid (And.intro hz7 (And.intro hz6 hz5))
              clear hz7 hz5
              have hl6 := HQ7.out.len
              rw [List.length_append] at hl6
              have HN8 := Lib.hid hb8
              have HN3 := Lib.hid hb3
              have HO3 := Lib.hid hO3
              have HG9 := Lib.hid hg3
              have HA3 := Lib.hid hA3
              have HBX9 : Hid (Str w3 w.heap.size #[.slice A7 n7 c7, .slice A6 n6 c6]) := Lib.hid (Reg.Str.by_ (HBX7.out.next hb8) hg3 (fun e => by
                cases hAT : AT with
                | none => rw [hAT] at e; cases e
                | some a =>
                  have := HT7.out.ge a hAT
                  rw [hAT] at e
                  injection e with e
                  omega))
              clear hb8 hs8 hi0 z0 z1 z2 hb3 hO3 hg3 hA3
              go_wp2_with fail
              go_roundw
              case rel =>
                have hz8' := HN8.out.size
                have hown : ∀ q, (Value.slice AT 0 0).ownBlock = some q → ∃ a, AT = some a ∧ a.block = q := fun q e => by
                  cases hAT : AT with
                  | none => rw [hAT] at e; cases e
                  | some a => rw [hAT] at e; injection e with e; exact ⟨a, rfl, e⟩
                refine Lib.hid ⟨hh ++ [e], done, r, told ++ [e.txn], A7, A6, A3, n7, c7, n6, c6, nT + 1, c3, i, rfl, rfl, HI.out, ?_⟩
                refine ⟨(bstep HB7.out HN8.out).trans (HN3.out.mono (by omega)), HBX9.out, Reg.Str.by_ (HR7.out.next HN8.out) HG9.out (fun e => ?_), ?_, ?_, HO3.out, ?_, ?_, ?_, ?_, ?_, ?_, ?_, .inr fun p ep => ?_, .inr fun p ep => ?_⟩
                · obtain ⟨a, ea, e2⟩ := hown _ e
                  have := HT7.out.ge a ea
                  omega
                · exact (elems_off (HH7.out.next HN8.out) (Nat.le_refl _) HG9.out (fun _ p ep e => by obtain ⟨a, ea, e2⟩ := hown _ e; exact HA7.out a p ea ep e2.symm)).more HG9.out.size
                · exact (elems_off (HQ7.out.next HN8.out) (Nat.le_refl _) HG9.out (fun _ p ep e => by obtain ⟨a, ea, e2⟩ := hown _ e; exact HA6.out a p ea ep e2.symm)).more HG9.out.size
                · intro y hy
                  rcases List.mem_append.1 hy with h | h
                  · exact HG.out.m y h
                  · rw [List.mem_singleton] at h
                    subst h
                    exact HG.out.mq y (by simp)
                · intro y hy
                  refine HG.out.mq y ?_
                  rcases List.mem_append.1 hy with h | h
                  · exact List.mem_append_left _ h
                  · exact List.mem_append_right _ (List.mem_cons_of_mem _ h)
                · rw [List.length_append, List.length_append]
                  simp only [List.length_cons, List.length_nil]
                  omega
                · rw [List.length_append]
                  simp only [List.length_cons, List.length_nil]
                  omega
                · rw [HG.out.eq, gR_yes hon.out hbl.out]
                  simp
                · intro h0 a p ea ep
                  rcases HA3.out with e3 | ⟨a3, e3, e4⟩
                  · exact HA7.out a p (by rw [← e3, ea]) ep
                  · have h1 := elems_lt HH7.out h0 p ep
                    rw [e3] at ea
                    cases ea
                    omega
                · intro h0 a p ea ep
                  rcases HA3.out with e3 | ⟨a3, e3, e4⟩
                  · exact HA6.out a p (by rw [← e3, ea]) ep
                  · have h1 := elems_lt HQ7.out h0 p ep
                    rw [e3] at ea
                    cases ea
                    omega
                · exact HF7.out p ep
                · exact HF6.out p ep
              case measure =>
                have hi := HI.out
                rw [mW_eq HBX9.out, mW_eq HG.out.box]
                simp [intOf]
                omega
        · have hd8 : decide (0 < (n8 : Int)) = true := by simp; omega
          have hno : Hid (blkR hh done e ≠ []) := Lib.hid (fun h => hnb (h8.out.2 h))
          go_wp2_with fail
          go_roundw
          case rel => exact Lib.hid ⟨hh, done ++ [e], r, told, A9, some ⟨b, o, none⟩, AT, n9, c9, n10, c10, nT, cT, i + 1, rfl, by go_num, by simp [HI.out], HG3.out.skip (.inr hno.out)⟩
          case measure => rw [mW_eq HG3.out.box, mW_eq HG.out.box]; simp [intOf]; omega
      · have hd1 := str_ne hk
        have hon : Hid (on3 k e = false) := Lib.hid (by cases h : on3 k e; rfl; exact absurd (on3_iff.1 h) hk)
        clear hk
        go_wp2_with fail
        go_roundw
        case rel => exact Lib.hid ⟨hh, done ++ [e], r, told, A9, some ⟨b, o, none⟩, AT, n9, c9, n10, c10, nT, cT, i + 1, rfl, by go_num, by simp [HI.out], HG2.out.skip (.inl hon.out)⟩
        case measure => rw [mW_eq HG2.out.box, mW_eq HG.out.box]; simp [intOf]; omega
end RefL
end Go.Proofs.YtkkfabnehhamdaaDoor
end
section
namespace Go.Proofs.YtkkfabnehhamdaaDoor
open Go.ChangeShapes Go.WideShapes Go.ChangeAt Go.RowKit
set_option linter.unusedVariables false
set_option maxRecDepth 100000

/-- the slice (A, n, c) reads as the texts l, all below block B; nil and empty slices let in -/
def Strs (w : World) (B : Nat) (A : Option Addr) (n c : Nat) (l : List ByteArray) : Prop :=
  l.length = n ∧ n ≤ c ∧ c ≤ maxLen ∧ (∀ s ∈ l, s.size ≤ maxLen) ∧ (0 < n → ∃ b o, A = some ⟨b, o, none⟩ ∧ b < B ∧ ∀ j u, l[j]? = some u → w.cell? ⟨b, o + j, none⟩ = some (.string u))
theorem Strs.keep {w w' : World} {B n c : Nat} {A : Option Addr} {l : List ByteArray} (h : Strs w B A n c l) (hk : ∀ p : Addr, p.block < B → w'.cell? p = w.cell? p) : Strs w' B A n c l :=
  ⟨h.1, h.2.1, h.2.2.1, h.2.2.2.1, fun hn => by
    obtain ⟨b, o, e, hb, hc⟩ := h.2.2.2.2 hn
    exact ⟨b, o, e, hb, fun j u hu => (hk _ hb).trans (hc j u hu)⟩⟩
theorem Strs.below {w w' : World} {B n c : Nat} {A : Option Addr} {l : List ByteArray} (h : Strs w B A n c l) (hb : Below B w w') : Strs w' B A n c l := h.keep fun _ hp => hb.cell hp
theorem Strs.more {w : World} {B B' n c : Nat} {A : Option Addr} {l : List ByteArray} (h : Strs w B A n c l) (hB : B ≤ B') : Strs w B' A n c l :=
  ⟨h.1, h.2.1, h.2.2.1, h.2.2.2.1, fun hn => by
    obtain ⟨b, o, e, hb, hc⟩ := h.2.2.2.2 hn
    exact ⟨b, o, e, by omega, hc⟩⟩
theorem Strs.next {w w' : World} {n c : Nat} {A : Option Addr} {l : List ByteArray} (h : Strs w w.heap.size A n c l) (hb : Below w.heap.size w w') : Strs w' w'.heap.size A n c l := (h.below hb).more hb.size
section
variable {H : Type} {enc : TypeId × Value → H} {P : Program} {w : World}
end
section
variable {H : Type} {enc : TypeId × Value → H} {W : World} {base : Nat} {v : Value} {d : DataW H} {p : List MemPlace}
end
end Go.Proofs.YtkkfabnehhamdaaDoor
end
section
namespace Go.Proofs.YtkkfabnehhamdaaDoor
open Go.RowKit
theorem Strs.at_ {w : World} {B n c k : Nat} {A : Option Addr} {l : List ByteArray} (h : Strs w B A n c l) (hk : k < n) : ∃ b o, A = some ⟨b, o, none⟩ ∧ b < B ∧ w.cell? ⟨b, o + k, none⟩ = some (.string (l[k]'(by rw [h.1]; exact hk))) := by
  obtain ⟨b, o, e, hb, hc⟩ := h.2.2.2.2 (by omega)
  exact ⟨b, o, e, hb, hc k _ (List.getElem?_eq_getElem _)⟩
namespace KeyS
set_option linter.unusedVariables false
/-- a list of bytes as a text -/
def txt (l : List UInt8) : ByteArray := ⟨l.toArray⟩
def txts (l : List (List UInt8)) : List ByteArray := l.map txt
def raw (l : List ByteArray) : List (List UInt8) := l.map (·.data.toList)
theorem raw_txts (l : List (List UInt8)) : raw (txts l) = l := by
  simp [raw, txts, txt, Function.comp_def]
theorem txts_raw (l : List ByteArray) : txts (raw l) = l := by
  simp [raw, txts, txt, Function.comp_def]
theorem raw_length (l : List ByteArray) : (raw l).length = l.length := by simp [raw]
def sort (l : List ByteArray) : List ByteArray := txts (SortP.sort (raw l))
def strV (s : ByteArray) : Value := .string s
theorem strV_one (l : List ByteArray) : ∀ v ∈ l.map strV, v.oneCell' = true := by
  intro v hv
  obtain ⟨s, _, rfl⟩ := List.mem_map.1 hv
  rfl
theorem infoS : (Tryd.prog.info? 9).map (fun i => (i.zero, i.size, i.bytes)) = some (some (.string ByteArray.empty), 1, 16) := by kernel_rfl
end KeyS
end Go.Proofs.YtkkfabnehhamdaaDoor
end
section
namespace Go.Proofs.YtkkfabnehhamdaaDoor.KeyS
open Go.RowKit
set_option linter.unusedVariables false
theorem Strs.src {w : World} {B n c : Nat} {A : Option Addr} {l : List ByteArray} (h : Strs w B A n c l) (h0 : 0 < n) : ∃ ad, A = some ad ∧ ∀ j v, (l.map strV)[j]? = some v → w.cell? (ad.add j) = some v := by
  obtain ⟨b, o, e, hb, hc⟩ := h.2.2.2.2 h0
  refine ⟨_, e, fun j v hv => ?_⟩
  simp only [List.getElem?_map, Option.map_eq_some_iff] at hv
  obtain ⟨u, hu, rfl⟩ := hv
  rw [add_none]
  exact hc j u hu
/-- append of texts onto a row of the call's own -/
theorem run_append_strs (w : World) (base : Nat) (v : Value) (n : Nat) (xs : List Value) (hown : w.ownsRow base 9 1 v n xs)
    (B : Nat) (A : Option Addr) (m c : Nat) (l : List ByteArray) (hr : Strs w B A m c l) (hbytes : n + m ≤ 100000) (hbase : base ≤ w.heap.size) :
    ∃ v' w', (appSem #[85, 85] 85 #[v, .slice A m c]).run Tryd.prog w = .ok v' w' ∧ w'.ownsRow base 9 1 v' (n + m) (xs ++ l.map strV) ∧ w.grownBy w' v.ownBlock := by
  obtain ⟨i, hi, hzz⟩ := Option.map_eq_some_iff.1 infoS
  simp only [Prod.mk.injEq] at hzz
  obtain ⟨hz, hs, hb⟩ := hzz
  have ht := Tryd.underlying85
  have hm : l.length = m := hr.1
  rcases A with _ | ad
  · have h0 : m = 0 := by
      rcases Nat.eq_zero_or_pos m with h0 | h0
      · exact h0
      · obtain ⟨b, o, h, _⟩ := hr.2.2.2.2 h0
        cases h
    subst h0
    have hn : l = [] := List.eq_nil_of_length_eq_zero hm
    subst hn
    refine ⟨v, w, ?_, by simpa using hown, World.grownBy.refl w _⟩
    unfold appSem
    rcases hown.2 with ⟨rfl, rfl⟩ | ⟨g, cap, cur, rfl, _, _, hnc, _⟩
    · simp [Builtin.append_, run_underlying ht, sizeOf, typeInfo, hi, Builtin.lenOf, Builtin.firstCells]
    · simp [Builtin.append_, run_underlying ht, sizeOf, typeInfo, hi, Builtin.lenOf, Builtin.firstCells, hnc, storeCells]
  · have hcells : ∀ j u, (l.map strV)[j]? = some u → w.cell? (ad.add j) = some u := by
      intro j u hu
      have hpos : 0 < (l.map strV).length := Nat.lt_of_le_of_lt (Nat.zero_le _) (List.getElem?_eq_some_iff.1 hu).1
      obtain ⟨ad', e1, h2⟩ := Strs.src hr (by simpa [hm] using hpos)
      cases e1
      exact h2 j u hu
    obtain ⟨v', w', hrun, h2, h3, _, _⟩ := run_append_own_at (P := Tryd.prog) w base 85 85 9 i _ 1 16 ht hi hz hs hb (by rfl) (by decide) v n xs hown ad m c (l.map strV) (by simp [hm]) hcells (strV_one l) (by unfold maxLen; omega) (by omega) hbase
    exact ⟨v', w', hrun, h2, h3⟩
/-- texts of the call's own -/
def OwnS (w : World) (base : Nat) (A : Option Addr) (n c : Nat) (l : List ByteArray) : Prop := w.ownsRow base 9 1 (.slice A n c) n (l.map strV) ∧ ∀ s ∈ l, s.size ≤ maxLen
section
variable {w w' : World} {base n c : Nat} {A : Option Addr} {l : List ByteArray}
theorem OwnS.len (h : OwnS w base A n c l) : l.length = n := by simpa using h.1.1
theorem OwnS.strs (h : OwnS w base A n c l) : Strs w w.heap.size A n c l := by
  have hl := h.len
  rcases h.1.2 with ⟨e, h0⟩ | ⟨g, cap, cur, e, hg, hh, hnc, hm, hc, hx⟩
  · cases e
    exact ⟨hl, Nat.le_refl _, by unfold maxLen; omega, h.2, fun hp => absurd hp (by omega)⟩
  · cases e
    refine ⟨hl, hnc, hm, h.2, fun _ => ⟨g, 0, rfl, (Array.getElem?_eq_some_iff.1 hh).1, fun j u hu => ?_⟩⟩
    have hj : (l.map strV)[j]? = some (.string u) := by rw [List.getElem?_map, hu]; rfl
    rw [← hx, List.getElem?_take] at hj
    split at hj
    · simp only [World.cell?, hh, Nat.zero_add]
      simpa using hj
    · cases hj
theorem OwnS.none_ (w : World) (base : Nat) : OwnS w base none 0 0 [] := ⟨World.ownsRow_nil _ _ _ _, by simp⟩
theorem OwnS.next (h : OwnS w base A n c l) (hb : Below w.heap.size w w') : OwnS w' base A n c l := ⟨own_next h.1 hb, h.2⟩
theorem OwnS.alloc (h : OwnS w base A n c l) (o : Obj) : OwnS (w.alloc o) base A n c l := ⟨World.ownsRow.alloc h.1 o, h.2⟩
theorem OwnS.empty (w : World) (base : Nat) (hb : base ≤ w.heap.size) : OwnS (w.alloc (.cells #[] 9)) base (some ⟨w.heap.size, 0, none⟩) 0 0 [] :=
  ⟨⟨rfl, .inr ⟨_, _, _, rfl, hb, heap_alloc_new w _, Nat.le_refl _, by decide, rfl, rfl⟩⟩, by simp⟩
theorem OwnS.one (w : World) (base : Nat) (hb : base ≤ w.heap.size) (s : ByteArray) (hs : s.size ≤ maxLen) : OwnS (w.alloc (.cells #[.string s] 9)) base (some ⟨w.heap.size, 0, none⟩) 1 1 [s] :=
  ⟨⟨rfl, .inr ⟨_, _, _, rfl, hb, heap_alloc_new w _, Nat.le_refl _, by decide, rfl, rfl⟩⟩, by simpa using hs⟩
theorem OwnS.app (h : OwnS w base A n c l) {B m c2 : Nat} {A2 : Option Addr} {l2 : List ByteArray} (h2 : Strs w B A2 m c2 l2) (hn : n + m ≤ 100000) (hb : base ≤ w.heap.size) :
    ∃ A' c' w', (appSem #[85, 85] 85 #[.slice A n c, .slice A2 m c2]).run Tryd.prog w = .ok (.slice A' (n + m) c') w' ∧ OwnS w' base A' (n + m) c' (l ++ l2) ∧ Below base w w' := by
  obtain ⟨v', w', happ, hown, hgrow⟩ := run_append_strs w base (.slice A n c) n (l.map strV) h.1 B A2 m c2 l2 h2 hn hb
  obtain ⟨A', c', rfl⟩ := own_slice hown
  refine ⟨A', c', w', happ, ⟨by simpa using hown, fun s hs => ?_⟩, (Below.refl _ w).grown hgrow hb (own_block h.1)⟩
  rcases List.mem_append.1 hs with hs | hs
  · exact h.2 s hs
  · exact h2.2.2.2.1 s hs
end
theorem Strs.cut {w : World} {B n c : Nat} {A : Option Addr} {l : List ByteArray} (h : Strs w B A n c l) (lo hi m : Nat) (h1 : lo ≤ hi) (h2 : hi ≤ n) (h3 : hi ≤ m) (h4 : m ≤ c) :
    Strs w B (cutA A lo m 1) (hi - lo) (m - lo) ((l.drop lo).take (hi - lo)) := by
  obtain ⟨hl, hc, hm, hz, hx⟩ := h
  refine ⟨by simp; omega, by omega, by omega, fun s hs => hz s (List.mem_of_mem_drop (List.mem_of_mem_take hs)), fun hn => ?_⟩
  obtain ⟨b, o, rfl, hb, hcell⟩ := hx (by omega)
  unfold cutA
  rw [if_neg (by omega)]
  refine ⟨b, o + lo, by simp [add_none], hb, fun j u hu => ?_⟩
  rw [List.getElem?_take] at hu
  split at hu
  · rw [List.getElem?_drop] at hu
    rw [Nat.add_assoc]
    exact hcell _ u hu
  · cases hu
end Go.Proofs.YtkkfabnehhamdaaDoor.KeyS
end
