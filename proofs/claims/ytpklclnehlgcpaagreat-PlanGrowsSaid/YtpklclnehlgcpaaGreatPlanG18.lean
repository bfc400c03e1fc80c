/-
  Parts of the proof of PlanGrows.
-/
import Derived.Test.YtpklclnehlgcpaaGreatPlanG17
section
namespace Go.Proofs.YtpklclnehlgcpaaGreat
open Go.RowKit
set_option linter.unusedVariables false
namespace Reg
/-- the rules' value: where the two sums lie -/
def rulesM (V : Nat → Nat → Value) : MP Value := ⟨fun v w B => ∃ b c, v = V b c ∧ b < B ∧ c < B ∧ w.cell? ⟨b, 0, none⟩ = some (.func (.func 95) #[] #[]) ∧ w.cell? ⟨c, 0, none⟩ = some (.func (.func 96) #[] #[]),
  fun hs hb ⟨b, c, e, h1, h2, h3, h4⟩ => ⟨b, c, e, by omega, by omega, hs _ _ h1 h3, hs _ _ h2 h4⟩⟩
theorem run_fl {P : Program} {a : Act} {w : World} {o : Oper} {ty : TypeId} {x : Operand} {k : Nat} {vx v : Value} (ho : o.op = .field ty x k) (hx : a.eval x = vx) (h : (Instr.field ty vx k).run P w = .ok v w) : (execOp a.eval o).run P w = .ok (.value v) w := by
  unfold execOp
  rw [ho]
  simp [hx, h]
end Reg
theorem fieldR (v : Value) (w : World) : (Instr.field 126 (.agg #[v]) 0).run Tryz.prog w = .ok v w := by
  simp [Instr.field, run_underlying Tryz.underlying126, asAgg, part, isAgg, run_underlying Tryz.underlying124]
/-- the row's block, hidden -/
def blk (A : Option Addr) : List Nat := match A with
  | some a => [a.block]
  | none => []
theorem hid_blk (A : Option Addr) (w : World) : hid A w = hideL w (blk A) := by cases A <;> rfl
theorem OwnE.blk_lt {w : World} {base n c : Nat} {A : Option Addr} {l : List Pair} (h : OwnE PairE 85 w base A n c l) : ∀ b ∈ blk A, b < w.heap.size := by
  obtain ⟨vs, h1, h2⟩ := h
  rcases h1.2 with ⟨e, h0⟩ | ⟨g, cap, cur, e, hg, hh, _⟩
  · cases e; intro b hb; cases hb
  · cases e
    intro b hb
    simp only [blk, List.mem_cons, List.not_mem_nil, or_false] at hb
    subst hb
    exact (Array.getElem?_eq_some_iff.1 hh).1
/-- bytes that do not hang on a row, when the row turns -/
theorem BytesH.row {w w' : World} {A A1 : Option Addr} {n c : Nat} {l : List UInt8} (h : BytesH (blk A) w A1 n c l) (hg : w.grownBy w' ((Value.slice A 0 0).ownBlock)) : BytesH (blk A) w' A1 n c l := by
  refine Bytes.more (Bytes.sub h (hideL_sub_of fun k hk hn => ⟨hn, hg.block k hk ?_⟩)) hg.size
  cases A with
  | none => simp [Value.ownBlock]
  | some a =>
    intro e
    apply hn
    simp only [Value.ownBlock, Option.some.injEq] at e
    simp [blk, e]
/-- .. and where it lies now -/
theorem BytesH.rowNew {w w' : World} {A A' A1 : Option Addr} {n c : Nat} {l : List UInt8} (h : BytesH (blk A) w A1 n c l) (hg : w.grownBy w' ((Value.slice A 0 0).ownBlock)) (hA : A' = A ∨ ∀ a, A' = some a → w.heap.size ≤ a.block) : BytesH (blk A') w' A1 n c l := by
  refine Bytes.more (Bytes.sub h (hideL_sub_of fun k hk hn => ⟨?_, hg.block k hk ?_⟩)) hg.size
  · rcases hA with rfl | hA
    · exact hn
    · cases A' with
      | none => simp [blk]
      | some a =>
        have := hA a rfl
        simp only [blk, List.mem_cons, List.not_mem_nil, or_false]
        omega
  · cases A with
    | none => simp [Value.ownBlock]
    | some a =>
      intro e
      apply hn
      simp only [Value.ownBlock, Option.some.injEq] at e
      simp [blk, e]
/-- a pair that was typed out -/
theorem pair_lit {w : World} {b n c : Nat} {A A1 : Option Addr} {p : Pair} (hs : Str w b (pairV p A1 n c).toArray) (hne : ∀ a, A = some a → b ≠ a.block) (hy : BytesH (blk A) w A1 n c p.cell.data) (hk : p.key.size ≤ maxLen) (hin : In64 p.cell.kind ∧ In64 p.cell.lo ∧ In64 p.cell.hi ∧ In64 p.cell.val) :
    ElemsIn PairE (hid A w) w w.heap.size (some ⟨b, 0, none⟩) 1 1 [p] := by
  refine ⟨[pairV p A1 n c], ⟨⟨A1, n, c, rfl, by rw [hid_blk]; exact hy, hk, hin.1, hin.2.1, hin.2.2.1, hin.2.2.2⟩, trivial⟩, rfl, Nat.le_refl _, by unfold maxLen; omega, fun _ => ⟨b, 0, rfl, hs.lt, fun j v hv => ?_⟩⟩
  rw [List.flatten_singleton] at hv
  rw [hs.cell, Nat.zero_add]
  simpa using hv
end Go.Proofs.YtpklclnehlgcpaaGreat
namespace Go.Proofs.YtpklclnehlgcpaaGreat.ModelW
open Go.RowKit
set_option linter.unusedVariables false
/-- the call hands back a state of the caller's own and an answer -/
def GivesStep (base : Nat) (A0 : Option Addr) (w : World) (r : List Pair × Answer) (e : Ending) (w' : World) : Prop :=
  ∃ A n c A2 n2 c2, e = .returned (.tuple #[.slice A n c, .agg (ansV A2 n2 c2 r.2)]) ∧ OwnE PairE TPr w' base A n c r.1 ∧ BytesH (blk A) w' A2 n2 c2 r.2.cell.data ∧ w.grownBy w' ((Value.slice A0 0 0).ownBlock) ∧ (A = A0 ∨ ∀ a, A = some a → w.heap.size ≤ a.block)
theorem grownNew {w a b : World} {ob : Option Nat} {g : Nat} (h : w.grownBy a ob) (h2 : a.grownBy b (some g)) (hg : w.heap.size ≤ g) : w.grownBy b ob :=
  ⟨h2.os.trans h.os, h2.tape.trans h.tape, h2.output.trans h.output, Nat.le_trans h.size h2.size, fun k hk hn => (h2.block k (Nat.lt_of_lt_of_le hk h.size) (fun e => by injection e with e; omega)).trans (h.block k hk hn)⟩
/-- what one of the rules does -/
def Does (t : Option Cell) (x : OpX) (Ax : Option Addr) (nx cx : Nat) (f : FuncId) (cap : Nat → Nat → Array Value) : Prop :=
  ∀ (bs : List Nat) (A : Option Addr) (n c b d Bx : Nat) (W : World), (∀ k ∈ bs, k < W.heap.size) → BytesH bs W A n c (t.elim [] (·.data)) → n ≤ 100000 → b < W.heap.size → d < W.heap.size → W.cell? ⟨b, 0, none⟩ = some (.func (.func 95) #[] #[]) → W.cell? ⟨d, 0, none⟩ = some (.func (.func 96) #[] #[]) → Bytes W Bx Ax nx cx x.data → Bx ≤ W.heap.size →
    Calls Tryz.prog f (#[.agg (thingV A n c t), .agg #[.int .i64 x.act, .string x.key, .slice Ax nx cx, .int .i64 x.lo, .int .i64 x.hi, .int .i64 x.n]] ++ cap b d) W (GivesRule bs W (ModelP.rule t x))
theorem PairE_byt : El.Byt PairE := by
  intro w w' B vs p hs ⟨A, n, c, e, h, r⟩
  exact ⟨A, n, c, e, h.subU hs, r⟩
theorem stC_fold (a v : Value) : Instr.storeAt 25 a v = stSem 25 a v := rfl
attribute [local go_sem ↓] stC_fold
set_option maxRecDepth 100000 in
set_option maxHeartbeats 1000000 in
theorem step_bad (A : Option Addr) (n c base : Nat) (l : List Pair) (act : Int) (xk : ByteArray) (xdata : List UInt8) (Ax : Option Addr) (nx cx : Nat) (xlo xhi xn : Int) (w : World) (h : OwnE PairE TPr w base A n c l) (hb : base ≤ w.heap.size) (hl : xdata.length = nx) (hxk : xk.size ≤ maxLen) (hg : ModelP.good ⟨act, xk, xdata, xlo, xhi, xn⟩ = false) :
    Calls Tryz.prog 59 #[.slice A n c, .agg #[.int .i64 act, .string xk, .slice Ax nx cx, .int .i64 xlo, .int .i64 xhi, .int .i64 xn]] w (GivesStep base A w (l, ⟨1, CellP.none⟩)) := by
  have H := Lib.hid h
  have HC : Hid (ModelP.code (ModelP.good ⟨act, xk, xdata, xlo, xhi, xn⟩) = 1) := Lib.hid (by rw [hg]; rfl)
  clear h hg
  go_enter Tryz.func59, Tryz.ntmps59
  go_wp2_with fail
  generalize hW0 : ((w).alloc (.cells #[.int .i64 act, .string xk, .slice Ax nx cx, .int .i64 xlo, .int .i64 xhi, .int .i64 xn] 62)).alloc (.cells #[.int .i64 0, .int .i64 0, .slice none 0 0, .int .i64 0, .int .i64 0, .int .i64 0] 58) = W0
  obtain ⟨HS0_0, HS1_0, HB_0, hw_0, hz0⟩ := new2 hW0
  clear hW0 hz0
  have f0_0 := str6 HS0_0.out
  have hl0_0 := HS0_0.out.lt
  have hf0_0 := fun j => HS0_0.out.frozen j
  have f1_0 := str6 HS1_0.out
  have hl1_0 := HS1_0.out.lt
  have hf1_0 := fun j => HS1_0.out.frozen j
  refine (check_any ⟨act, xk, xdata, xlo, xhi, xn⟩ Ax nx cx _ hl hxk).mono ?_
  rintro e W1 ⟨rfl, hb1⟩
  rw [HC.out]
  have HS0_1 := Lib.hid (HS0_0.out.next hb1)
  have HS1_1 := Lib.hid (HS1_0.out.next hb1)
  have HB_1 := Lib.hid (bstep HB_0.out hb1)
  have hw_1 := HB_1.out.size
  have hws_1 := (hb1).size
  clear f0_0 HS0_0 hf0_0 f1_0 HS1_0 hf1_0
  clear hb1
  have f0_1 := str6 HS0_1.out
  have hl0_1 := HS0_1.out.lt
  have hf0_1 := fun j => HS0_1.out.frozen j
  have f1_1 := str6 HS1_1.out
  have hl1_1 := HS1_1.out.lt
  have hf1_1 := fun j => HS1_1.out.frozen j
  go_wp2_with fail
  generalize hW2 : ((((((W1).setCell ⟨w.heap.size + 1, 0, none⟩ (.int .i64 1)).setCell ⟨w.heap.size + 1, 1, none⟩ (.int .i64 0)).setCell ⟨w.heap.size + 1, 2, none⟩ (.slice none 0 0)).setCell ⟨w.heap.size + 1, 3, none⟩ (.int .i64 0)).setCell ⟨w.heap.size + 1, 4, none⟩ (.int .i64 0)).setCell ⟨w.heap.size + 1, 5, none⟩ (.int .i64 0) = W2
  have HS1_2 : Hid (Str W2 (w.heap.size + 1) #[.int .i64 1, .int .i64 0, .slice none 0 0, .int .i64 0, .int .i64 0, .int .i64 0]) := Lib.hid (by rw [← hW2]; have := ((((((HS1_1.out).set 0 (.int .i64 1)).set 1 (.int .i64 0)).set 2 (.slice none 0 0)).set 3 (.int .i64 0)).set 4 (.int .i64 0)).set 5 (.int .i64 0); simpa using this)
  have hgr2 : W1.grownBy W2 (some (w.heap.size + 1)) := by rw [← hW2]; exact grown_set (grown_set (grown_set (grown_set (grown_set (grown_set (grown_refl W1 (w.heap.size + 1)) 0 (_)) 1 (_)) 2 (_)) 3 (_)) 4 (_)) 5 (_)
  have HS0_2 := Lib.hid (HS0_1.out.grown hgr2 (by omega))
  have HB_2 := Lib.hid (below_grown HB_1.out hgr2 (by omega))
  have hw_2 := HB_2.out.size
  have hws_2 := hgr2.size
  clear hW2
  clear f0_1 HS0_1 hf0_1 f1_1 HS1_1 hf1_1
  clear hgr2
  have f0_2 := str6 HS0_2.out
  have hl0_2 := HS0_2.out.lt
  have hf0_2 := fun j => HS0_2.out.frozen j
  have f1_2 := str6 HS1_2.out
  have hl1_2 := HS1_2.out.lt
  have hf1_2 := fun j => HS1_2.out.frozen j
  exact bodyPost_ret (v := .tuple #[.slice A n c, .agg #[.int .i64 1, .int .i64 0, .slice none 0 0, .int .i64 0, .int .i64 0, .int .i64 0]]) (by simp [results, Tryz.results59, go_sem, *]) rfl ⟨A, n, c, none, 0, 0, rfl, H.out.next HB_2.out, BytesH.none_ _ _, grown_below HB_2.out _, .inl rfl⟩
set_option maxRecDepth 100000 in
set_option maxHeartbeats 2000000 in
theorem step_hasA (A : Option Addr) (n cA base k : Nat) (l : List Pair) (act : Int) (xk : ByteArray) (xdata : List UInt8) (Ax : Option Addr) (nx cx Bx : Nat) (xlo xhi xn : Int) (pkd : Int) (pda : List UInt8) (plo phi pva : Int) (err : Int) (f : FuncId) (cap : Nat → Nat → Array Value) (w : World) (h : OwnE PairE TPr w base A n cA l) (hb : base ≤ w.heap.size) (hr : ModelP.Rises l) (hn : n ≤ 1000) (hx : Bytes w Bx Ax nx cx xdata) (hBx : Bx ≤ w.heap.size) (hxk : xk.size ≤ maxLen) (hg : ModelP.good ⟨act, xk, xdata, xlo, xhi, xn⟩ = true) (hat : ModelP.at_ l xk = k) (hhas : hasB l xk = true) (hlk : l[k]? = some ⟨xk, ⟨pkd, pda, plo, phi, pva⟩⟩) (hpd : pda.length ≤ 100000) (hix : ∀ b c W, (Instr.index 127 (.agg (rulesV b c)) (.int .i64 act)).run Tryz.prog W = .ok (.agg #[.func (.func f) #[] (cap b c)]) W) (hcf : ∀ args W, (callFunc f args).run Tryz.prog W = .ok (.enter f args) W) (hdo : Does (some ⟨pkd, pda, plo, phi, pva⟩) ⟨act, xk, xdata, xlo, xhi, xn⟩ Ax nx cx f cap) (hR : ModelP.rule (some ⟨pkd, pda, plo, phi, pva⟩) ⟨act, xk, xdata, xlo, xhi, xn⟩ = (err, (none : Option Cell), CellP.none)) (he : (err != 0) = true) :
    Calls Tryz.prog 59 #[.slice A n cA, .agg #[.int .i64 act, .string xk, .slice Ax nx cx, .int .i64 xlo, .int .i64 xhi, .int .i64 xn]] w (GivesStep base A w (l, ⟨err, CellP.none⟩)) := by
  have hcap := h.elemsIn.cap
  have H := Lib.hid h
  have HR := Lib.hid hr
  have HX := Lib.hid hx
  have HL := Lib.hid h.len
  have HLX := Lib.hid hx.len
  have HC : Hid (ModelP.code (ModelP.good ⟨act, xk, xdata, xlo, xhi, xn⟩) = 0) := Lib.hid (by rw [hg]; rfl)
  have HAT := Lib.hid hat
  have HHAS := Lib.hid hhas
  have HIX := Lib.hid hix
  have HDO := Lib.hid hdo
  have HRU := Lib.hid hR
  have HBL := Lib.hid h.blk_lt
  have HGE := Lib.hid h.ge
  have hkn : k ≤ n := by rw [← hat, ← h.len]; exact ModelP.at_le _ _
  have hkl : k < n := by rw [← h.len]; exact (List.getElem?_eq_some_iff.1 hlk).1
  obtain ⟨gA, cur, vs, rfl, hbg, hheap, -⟩ := h.row (by omega)
  have hgl := (Array.getElem?_eq_some_iff.1 hheap).1
  obtain ⟨b', o', p, Ap, np, cp, e, -, hp, hyp, -, hi1, hi2, hi3, hi4, c0, c1, c2, c3, c4, c5⟩ := pair_at h.elemsIn hkl
  cases e
  rw [hlk] at hp
  cases hp
  dsimp only at *
  simp only [Nat.zero_add] at c0 c1 c2 c3 c4 c5
  have HYP : Hid (BytesH (blk (some ⟨gA, 0, none⟩)) w Ap np cp pda) := Lib.hid hyp
  have hnp : np ≤ 100000 := by have := hyp.len; omega
  have HCS := Lib.hid (And.intro c1 (And.intro c2 (And.intro c3 (And.intro c4 c5))))
  have HLK := Lib.hid hlk
  have HIN0 := Lib.hid (And.intro hi1 (And.intro hi2 (And.intro hi3 hi4)))
  clear hyp hheap hlk c0 c1 c2 c3 c4 c5
  clear h hr hx hg hat hhas hix hdo hR
  go_enter Tryz.func59, Tryz.ntmps59
  go_wp2_with fail
  generalize hW0 : ((w).alloc (.cells #[.int .i64 act, .string xk, .slice Ax nx cx, .int .i64 xlo, .int .i64 xhi, .int .i64 xn] 62)).alloc (.cells #[.int .i64 0, .int .i64 0, .slice none 0 0, .int .i64 0, .int .i64 0, .int .i64 0] 58) = W0
  obtain ⟨HS0_0, HS1_0, HB_0, hw_0, hz0⟩ := new2 hW0
  clear hW0 hz0
  have f0_0 := str6 HS0_0.out
  have hl0_0 := HS0_0.out.lt
  have hf0_0 := fun j => HS0_0.out.frozen j
  have f1_0 := str6 HS1_0.out
  have hl1_0 := HS1_0.out.lt
  have hf1_0 := fun j => HS1_0.out.frozen j
  refine (check_any ⟨act, xk, xdata, xlo, xhi, xn⟩ Ax nx cx _ HLX.out hxk).mono ?_
  rintro e W1 ⟨rfl, hb1⟩
  rw [HC.out]
  have HS0_1 := Lib.hid (HS0_0.out.next hb1)
  have HS1_1 := Lib.hid (HS1_0.out.next hb1)
  have HB_1 := Lib.hid (bstep HB_0.out hb1)
  have hw_1 := HB_1.out.size
  have hws_1 := (hb1).size
  clear f0_0 HS0_0 hf0_0 f1_0 HS1_0 hf1_0
  clear hb1
  have f0_1 := str6 HS0_1.out
  have hl0_1 := HS0_1.out.lt
  have hf0_1 := fun j => HS0_1.out.frozen j
  have f1_1 := str6 HS1_1.out
  have hl1_1 := HS1_1.out.lt
  have hf1_1 := fun j => HS1_1.out.frozen j
  go_wp2_with fail
  refine (place_any (some ⟨gA, 0, none⟩) n cA w.heap.size l xk _ (H.out.elems.below HB_1.out) HB_1.out.size HR.out (by omega)).mono ?_
  rintro e W2 ⟨rfl, hb2⟩
  rw [HAT.out, HHAS.out]
  have HS0_2 := Lib.hid (HS0_1.out.next hb2)
  have HS1_2 := Lib.hid (HS1_1.out.next hb2)
  have HB_2 := Lib.hid (bstep HB_1.out hb2)
  have hw_2 := HB_2.out.size
  have hws_2 := (hb2).size
  clear f0_1 HS0_1 hf0_1 f1_1 HS1_1 hf1_1
  clear hb2
  have f0_2 := str6 HS0_2.out
  have hl0_2 := HS0_2.out.lt
  have hf0_2 := fun j => HS0_2.out.frozen j
  have f1_2 := str6 HS1_2.out
  have hl1_2 := HS1_2.out.lt
  have hf1_2 := fun j => HS1_2.out.frozen j
  obtain ⟨d1, d2, d3, d4, d5⟩ := HCS.out
  have dd1 := (HB_2.out.cell (p := ⟨gA, k * 6 + 1, none⟩) hgl).trans d1
  have dd2 := (HB_2.out.cell (p := ⟨gA, k * 6 + 2, none⟩) hgl).trans d2
  have dd3 := (HB_2.out.cell (p := ⟨gA, k * 6 + 3, none⟩) hgl).trans d3
  have dd4 := (HB_2.out.cell (p := ⟨gA, k * 6 + 4, none⟩) hgl).trans d4
  have dd5 := (HB_2.out.cell (p := ⟨gA, k * 6 + 5, none⟩) hgl).trans d5
  have hgl2 : gA < W2.heap.size := by omega
  clear d1 d2 d3 d4 d5
  go_wp2_with fail
  generalize hW3 : W2.alloc (.cells #[.int .i64 pkd, .slice Ap np cp, .int .i64 plo, .int .i64 phi, .int .i64 pva, .bool true] 122) = W3
  have HS0_3 := sEq hW3 (HS0_2.out.alloc _)
  have HS1_3 := sEq hW3 (HS1_2.out.alloc _)
  have HS2_3 := sEq hW3 (Str.new _ _ _)
  have hba3 : Below W2.heap.size W2 W3 := by rw [← hW3]; exact balloc (bsame _) _
  have HB_3 := Lib.hid (bstep HB_2.out hba3)
  have hw_3 := HB_3.out.size
  have hws_3 := hba3.size
  clear hW3
  clear f0_2 HS0_2 hf0_2 f1_2 HS1_2 hf1_2
  have f0_3 := str6 HS0_3.out
  have hl0_3 := HS0_3.out.lt
  have hf0_3 := fun j => HS0_3.out.frozen j
  have f1_3 := str6 HS1_3.out
  have hl1_3 := HS1_3.out.lt
  have hf1_3 := fun j => HS1_3.out.frozen j
  have f2_3 := str6 HS2_3.out
  have hl2_3 := HS2_3.out.lt
  clear dd1 dd2 dd3 dd4 dd5
  have hOK : Reg.okS W3.heap.size (Reg.BxS.mk [(11, 10, 13), (12, 11, 14)] (fun t => if t = 10 then #[.int .i64 0, .slice none 0 0, .int .i64 0, .int .i64 0, .int .i64 0, .bool false] else if t = 11 then #[.int .i64 0, .int .i64 0, .slice none 0 0, .int .i64 0, .int .i64 0, .int .i64 0] else #[]) (fun t => if t = 10 then (Reg.rowM (Reg.byH (blk (some ⟨gA, 0, none⟩)) (fun A n c => .agg (thingV A n c (none : Option Cell))) [])) else if t = 11 then (Reg.rowM (Reg.byH (blk (some ⟨gA, 0, none⟩)) (fun A n c => .agg (ansV A n c ⟨err, CellP.none⟩)) CellP.none.data)) else (Reg.rowM (Reg.eqM undef))) [(0, 34), (3, 37), (4, 38), (7, 41), (8, 33), (9, 42), (10, 43)] (fun t => if t = 34 then (Reg.rulesM (fun b c => .agg (rulesV b c))) else if t = 37 then (Reg.rulesM (fun b c => .agg #[.func (.func f) #[] (cap b c)])) else if t = 38 then (Reg.rulesM (fun b c => .func (.func f) #[] (cap b c))) else if t = 41 then (Reg.twoM (Reg.byH (blk (some ⟨gA, 0, none⟩)) (fun A n c => .agg (thingV A n c (none : Option Cell))) []) (Reg.byH (blk (some ⟨gA, 0, none⟩)) (fun A n c => .agg (ansV A n c ⟨err, CellP.none⟩)) CellP.none.data)) else if t = 33 then (Reg.twoM (Reg.byH (blk (some ⟨gA, 0, none⟩)) (fun A n c => .agg (thingV A n c (none : Option Cell))) []) (Reg.byH (blk (some ⟨gA, 0, none⟩)) (fun A n c => .agg (ansV A n c ⟨err, CellP.none⟩)) CellP.none.data)) else if t = 42 then (Reg.byH (blk (some ⟨gA, 0, none⟩)) (fun A n c => .agg (thingV A n c (none : Option Cell))) []) else if t = 43 then (Reg.byH (blk (some ⟨gA, 0, none⟩)) (fun A n c => .agg (ansV A n c ⟨err, CellP.none⟩)) CellP.none.data) else (Reg.eqM undef)) []) := Reg.okS_of rfl List.Pairwise.nil (fun k hk => by cases hk)
  refine Reg.wp_region_box (R := (Reg.extB W3.heap.size (Reg.BxS.b0 (Reg.BxS.mk [(11, 10, 13), (12, 11, 14)] (fun t => if t = 10 then #[.int .i64 0, .slice none 0 0, .int .i64 0, .int .i64 0, .int .i64 0, .bool false] else if t = 11 then #[.int .i64 0, .int .i64 0, .slice none 0 0, .int .i64 0, .int .i64 0, .int .i64 0] else #[]) (fun t => if t = 10 then (Reg.rowM (Reg.byH (blk (some ⟨gA, 0, none⟩)) (fun A n c => .agg (thingV A n c (none : Option Cell))) [])) else if t = 11 then (Reg.rowM (Reg.byH (blk (some ⟨gA, 0, none⟩)) (fun A n c => .agg (ansV A n c ⟨err, CellP.none⟩)) CellP.none.data)) else (Reg.rowM (Reg.eqM undef))) [(0, 34), (3, 37), (4, 38), (7, 41), (8, 33), (9, 42), (10, 43)] (fun t => if t = 34 then (Reg.rulesM (fun b c => .agg (rulesV b c))) else if t = 37 then (Reg.rulesM (fun b c => .agg #[.func (.func f) #[] (cap b c)])) else if t = 38 then (Reg.rulesM (fun b c => .func (.func f) #[] (cap b c))) else if t = 41 then (Reg.twoM (Reg.byH (blk (some ⟨gA, 0, none⟩)) (fun A n c => .agg (thingV A n c (none : Option Cell))) []) (Reg.byH (blk (some ⟨gA, 0, none⟩)) (fun A n c => .agg (ansV A n c ⟨err, CellP.none⟩)) CellP.none.data)) else if t = 33 then (Reg.twoM (Reg.byH (blk (some ⟨gA, 0, none⟩)) (fun A n c => .agg (thingV A n c (none : Option Cell))) []) (Reg.byH (blk (some ⟨gA, 0, none⟩)) (fun A n c => .agg (ansV A n c ⟨err, CellP.none⟩)) CellP.none.data)) else if t = 42 then (Reg.byH (blk (some ⟨gA, 0, none⟩)) (fun A n c => .agg (thingV A n c (none : Option Cell))) []) else if t = 43 then (Reg.byH (blk (some ⟨gA, 0, none⟩)) (fun A n c => .agg (ansV A n c ⟨err, CellP.none⟩)) CellP.none.data) else (Reg.eqM undef)) [])))) (W := W3) (Reg.BJ W3.heap.size (Reg.BxS.mk [(11, 10, 13), (12, 11, 14)] (fun t => if t = 10 then #[.int .i64 0, .slice none 0 0, .int .i64 0, .int .i64 0, .int .i64 0, .bool false] else if t = 11 then #[.int .i64 0, .int .i64 0, .slice none 0 0, .int .i64 0, .int .i64 0, .int .i64 0] else #[]) (fun t => if t = 10 then (Reg.rowM (Reg.byH (blk (some ⟨gA, 0, none⟩)) (fun A n c => .agg (thingV A n c (none : Option Cell))) [])) else if t = 11 then (Reg.rowM (Reg.byH (blk (some ⟨gA, 0, none⟩)) (fun A n c => .agg (ansV A n c ⟨err, CellP.none⟩)) CellP.none.data)) else (Reg.rowM (Reg.eqM undef))) [(0, 34), (3, 37), (4, 38), (7, 41), (8, 33), (9, 42), (10, 43)] (fun t => if t = 34 then (Reg.rulesM (fun b c => .agg (rulesV b c))) else if t = 37 then (Reg.rulesM (fun b c => .agg #[.func (.func f) #[] (cap b c)])) else if t = 38 then (Reg.rulesM (fun b c => .func (.func f) #[] (cap b c))) else if t = 41 then (Reg.twoM (Reg.byH (blk (some ⟨gA, 0, none⟩)) (fun A n c => .agg (thingV A n c (none : Option Cell))) []) (Reg.byH (blk (some ⟨gA, 0, none⟩)) (fun A n c => .agg (ansV A n c ⟨err, CellP.none⟩)) CellP.none.data)) else if t = 33 then (Reg.twoM (Reg.byH (blk (some ⟨gA, 0, none⟩)) (fun A n c => .agg (thingV A n c (none : Option Cell))) []) (Reg.byH (blk (some ⟨gA, 0, none⟩)) (fun A n c => .agg (ansV A n c ⟨err, CellP.none⟩)) CellP.none.data)) else if t = 42 then (Reg.byH (blk (some ⟨gA, 0, none⟩)) (fun A n c => .agg (thingV A n c (none : Option Cell))) []) else if t = 43 then (Reg.byH (blk (some ⟨gA, 0, none⟩)) (fun A n c => .agg (ansV A n c ⟨err, CellP.none⟩)) CellP.none.data) else (Reg.eqM undef)) [])) [Reg.any, Reg.eqv (.pointer (some ⟨w.heap.size, 0, none⟩)), Reg.eqv (.int .i64 act), Reg.any, Reg.any, Reg.eqv (.agg #[.int .i64 pkd, .slice Ap np cp, .int .i64 plo, .int .i64 phi, .int .i64 pva, .bool true]), Reg.eqv (.agg #[.int .i64 act, .string xk, .slice Ax nx cx, .int .i64 xlo, .int .i64 xhi, .int .i64 xn]), Reg.any, Reg.any, Reg.any, Reg.any, Reg.any, Reg.any, Reg.any, Reg.any] 82 [[], [(3, none)], [(35, some 1)], [(34, some 0), (36, some 2)], [(37, some 3)], [(9, none)], [(3, none)], [(38, some 4), (39, some 5), (40, some 6)], [(41, some 7)], [(33, some 8)], [(33, some 8)], [], [], [(10, some 11), (42, some 9)], [(11, some 12), (43, some 10)]] rfl (by kernel_rfl) (by kernel_rfl) (fun _ h => Reg.bj_zero (fun k hk => by cases hk) h) (by kernel_rfl) ?_ [some 34, some 35, some 36, some 37, some 38, some 39, some 40, some 41, some 33, some 42, some 43, some 10, some 11, none, none] (by kernel_rfl) ?_
  · refine ⟨?_, ?_, ?_, ?_, ?_, ?_, ?_, ?_, ?_, ?_, ?_, ?_, ?_, ?_, ?_, trivial⟩
    · refine Reg.oblB_mem rfl rfl hOK (t := 34) rfl (List.mem_of_getElem? (i := 0) rfl) (by show 34 < 82; decide) (by show 0 < 15; decide) (fun _ _ => trivial) ?_
      intro ax wx rb hx hrb hs hmm
      replace hx : Below W3.heap.size W3 wx := hx.below (Nat.le_refl _) (fun b hb => by cases hb)
      go_simp
      refine (rules_any _).mono ?_
      rintro e wy ⟨b, c, rfl, hb1, hc1, hS1, hS2, hby⟩
      refine ⟨_, rfl, hby, b, c, rfl, hS1.lt, hS2.lt, ?_, ?_⟩
      · exact (hideL_out wy ⟨b, 0, none⟩ rb (fun hm => by have := (hrb b hm).2.1; omega)).trans (str1 hS1)
      · exact (hideL_out wy ⟨c, 0, none⟩ rb (fun hm => by have := (hrb c hm).2.1; omega)).trans (str1 hS2)
    · refine Reg.oblB_pure rfl rfl rfl ?_
      intro ax wx hx hs hmm
      replace hx : Below W3.heap.size W3 wx := hx.below (Nat.le_refl _) (fun b hb => by cases hb)
      obtain ⟨e3, -⟩ := hs
      have g3 := Reg.ev (v := .pointer (some ⟨w.heap.size, 0, none⟩)) e3
      exact (Reg.wp_eqvB (Option.some_ne_none _) (by go_simp) rfl)
    · refine Reg.oblB_pure rfl rfl rfl ?_
      intro ax wx hx hs hmm
      replace hx : Below W3.heap.size W3 wx := hx.below (Nat.le_refl _) (fun b hb => by cases hb)
      obtain ⟨e35, -⟩ := hs
      have g35 := Reg.ev (v := .pointer (some ⟨w.heap.size, 0, none⟩)) e35
      obtain ⟨l0_0, l0_1, l0_2, l0_3, l0_4, l0_5⟩ := str6 ((HS0_3.out.next hx))
      obtain ⟨l1_0, l1_1, l1_2, l1_3, l1_4, l1_5⟩ := str6 ((HS1_3.out.next hx))
      obtain ⟨l2_0, l2_1, l2_2, l2_3, l2_4, l2_5⟩ := str6 ((HS2_3.out.next hx))
      exact (Reg.wp_eqvB (Option.some_ne_none _) (by go_simp) rfl)
    · refine Reg.oblB_mem rfl rfl hOK (t := 37) rfl (List.mem_of_getElem? (i := 1) rfl) (by show 37 < 82; decide) (by show 3 < 15; decide) (fun _ _ => trivial) ?_
      intro ax wx rb hx hrb hs hmm
      replace hx : Below W3.heap.size W3 wx := hx.below (Nat.le_refl _) (fun b hb => by cases hb)
      obtain ⟨e34, e36, -⟩ := hs
      have g36 := Reg.ev (v := .int .i64 act) e36
      have m34 : (Reg.rulesM (fun b c => .agg (rulesV b c))).pred (ax.eval (.tmp 34)) (hideL wx rb) wx.heap.size := hmm (0, 34) (List.mem_of_getElem? (i := 0) rfl) (by kernel_rfl)
      obtain ⟨b, c, e34, h1, h2, h3, h4⟩ := m34
      exact Reg.mv_mem rfl (Reg.run_ix rfl e34 e36 (HIX.out b c wx)) ⟨b, c, rfl, h1, h2, h3, h4⟩
    · refine Reg.oblB_mem rfl rfl hOK (t := 38) rfl (List.mem_of_getElem? (i := 2) rfl) (by show 38 < 82; decide) (by show 4 < 15; decide) (fun _ _ => trivial) ?_
      intro ax wx rb hx hrb hs hmm
      replace hx : Below W3.heap.size W3 wx := hx.below (Nat.le_refl _) (fun b hb => by cases hb)
      obtain ⟨e37, -⟩ := hs
      have m37 : (Reg.rulesM (fun b c => .agg #[.func (.func f) #[] (cap b c)])).pred (ax.eval (.tmp 37)) (hideL wx rb) wx.heap.size := hmm (3, 37) (List.mem_of_getElem? (i := 1) rfl) (by kernel_rfl)
      obtain ⟨b, c, e37, h1, h2, h3, h4⟩ := m37
      have g37 := Reg.ev e37
      exact Reg.mv_mem rfl (Reg.run_fl rfl e37 (fieldR _ _)) ⟨b, c, rfl, h1, h2, h3, h4⟩
    · refine Reg.oblB_pure rfl rfl rfl ?_
      intro ax wx hx hs hmm
      replace hx : Below W3.heap.size W3 wx := hx.below (Nat.le_refl _) (fun b hb => by cases hb)
      obtain ⟨e9, -⟩ := hs
      have g9 := Reg.ev (v := .pointer (some ⟨W2.heap.size, 0, none⟩)) e9
      obtain ⟨l0_0, l0_1, l0_2, l0_3, l0_4, l0_5⟩ := str6 ((HS0_3.out.next hx))
      obtain ⟨l1_0, l1_1, l1_2, l1_3, l1_4, l1_5⟩ := str6 ((HS1_3.out.next hx))
      obtain ⟨l2_0, l2_1, l2_2, l2_3, l2_4, l2_5⟩ := str6 ((HS2_3.out.next hx))
      exact (Reg.wp_eqvB (Option.some_ne_none _) (by go_simp) rfl)
    · refine Reg.oblB_pure rfl rfl rfl ?_
      intro ax wx hx hs hmm
      replace hx : Below W3.heap.size W3 wx := hx.below (Nat.le_refl _) (fun b hb => by cases hb)
      obtain ⟨e3, -⟩ := hs
      have g3 := Reg.ev (v := .pointer (some ⟨w.heap.size, 0, none⟩)) e3
      obtain ⟨l0_0, l0_1, l0_2, l0_3, l0_4, l0_5⟩ := str6 ((HS0_3.out.next hx))
      obtain ⟨l1_0, l1_1, l1_2, l1_3, l1_4, l1_5⟩ := str6 ((HS1_3.out.next hx))
      obtain ⟨l2_0, l2_1, l2_2, l2_3, l2_4, l2_5⟩ := str6 ((HS2_3.out.next hx))
      exact (Reg.wp_eqvB (Option.some_ne_none _) (by go_simp) rfl)
    · refine Reg.oblB_mem rfl rfl hOK (t := 41) rfl (List.mem_of_getElem? (i := 3) rfl) (by show 41 < 82; decide) (by show 7 < 15; decide) (fun _ _ => trivial) ?_
      intro ax wx rb hx hrb hs hmm
      replace hx : Below W3.heap.size W3 wx := hx.below (Nat.le_refl _) (fun b hb => by cases hb)
      obtain ⟨e38, e39, e40, -⟩ := hs
      have g39 := Reg.ev (v := .agg #[.int .i64 pkd, .slice Ap np cp, .int .i64 plo, .int .i64 phi, .int .i64 pva, .bool true]) e39
      have g40 := Reg.ev (v := .agg #[.int .i64 act, .string xk, .slice Ax nx cx, .int .i64 xlo, .int .i64 xhi, .int .i64 xn]) e40
      have m38 : (Reg.rulesM (fun b c => .func (.func f) #[] (cap b c))).pred (ax.eval (.tmp 38)) (hideL wx rb) wx.heap.size := hmm (4, 38) (List.mem_of_getElem? (i := 2) rfl) (by kernel_rfl)
      obtain ⟨b, c, e38, h1, h2, h3, h4⟩ := m38
      have g38 := Reg.ev e38
      have hsx := Below.size hx
      have hD := HDO.out ((blk (some ⟨gA, 0, none⟩)) ++ rb) Ap np cp b c Bx wx (by
        intro q hq
        rcases List.mem_append.1 hq with hq | hq
        · have := HBL.out q hq; omega
        · exact (hrb q hq).2.1) (BytesH.app (HYP.out.next ((HB_3.out).trans (hx.mono (by omega)))) rb (fun b hb => (hrb b hb).2.2) ) (by omega) h1 h2 (sub_hideL wx.heap.size wx rb _ _ h1 h3) (sub_hideL wx.heap.size wx rb _ _ h2 h4) (HX.out.below ((HB_3.out.mono hBx).trans (hx.mono (by omega)))) (by omega)
      rw [HRU.out] at hD
      dsimp only at hD
      go_simp
      refine hD.mono ?_
      rintro e wy ⟨A1, n1, c1, A2, n2, c2, rfl, hy1, hy2, hby⟩
      unfold BytesH at hy1 hy2
      rw [hideL_append] at hy1 hy2
      exact ⟨_, rfl, hby, _, _, rfl, ⟨A1, n1, c1, rfl, hy1⟩, ⟨A2, n2, c2, rfl, hy2⟩⟩
    · refine Reg.oblB_mem rfl rfl hOK (t := 33) rfl (List.mem_of_getElem? (i := 4) rfl) (by show 33 < 82; decide) (by show 8 < 15; decide) (fun _ _ => trivial) ?_
      intro ax wx rb hx hrb hs hmm
      replace hx : Below W3.heap.size W3 wx := hx.below (Nat.le_refl _) (fun b hb => by cases hb)
      obtain ⟨e41, -⟩ := hs
      have m41 : (Reg.twoM (Reg.byH (blk (some ⟨gA, 0, none⟩)) (fun A n c => .agg (thingV A n c (none : Option Cell))) []) (Reg.byH (blk (some ⟨gA, 0, none⟩)) (fun A n c => .agg (ansV A n c ⟨err, CellP.none⟩)) CellP.none.data)).pred (ax.eval (.tmp 41)) (hideL wx rb) wx.heap.size := hmm (7, 41) (List.mem_of_getElem? (i := 3) rfl) (by kernel_rfl)
      exact Reg.mv_mem rfl (Reg.run_mv (.inl rfl) rfl) m41
    · refine Reg.oblB_mem rfl rfl hOK (t := 42) rfl (List.mem_of_getElem? (i := 5) rfl) (by show 42 < 82; decide) (by show 9 < 15; decide) (fun _ _ => trivial) ?_
      intro ax wx rb hx hrb hs hmm
      replace hx : Below W3.heap.size W3 wx := hx.below (Nat.le_refl _) (fun b hb => by cases hb)
      obtain ⟨e33, -⟩ := hs
      have m33 : (Reg.twoM (Reg.byH (blk (some ⟨gA, 0, none⟩)) (fun A n c => .agg (thingV A n c (none : Option Cell))) []) (Reg.byH (blk (some ⟨gA, 0, none⟩)) (fun A n c => .agg (ansV A n c ⟨err, CellP.none⟩)) CellP.none.data)).pred (ax.eval (.tmp 33)) (hideL wx rb) wx.heap.size := hmm (8, 33) (List.mem_of_getElem? (i := 4) rfl) (by kernel_rfl)
      obtain ⟨x0, x1, ex, hp0, hp1⟩ := m33
      exact Reg.mv_mem rfl (Reg.run_ex rfl ex rfl) hp0
    · refine Reg.oblB_mem rfl rfl hOK (t := 43) rfl (List.mem_of_getElem? (i := 6) rfl) (by show 43 < 82; decide) (by show 10 < 15; decide) (fun _ _ => trivial) ?_
      intro ax wx rb hx hrb hs hmm
      replace hx : Below W3.heap.size W3 wx := hx.below (Nat.le_refl _) (fun b hb => by cases hb)
      obtain ⟨e33, -⟩ := hs
      have m33 : (Reg.twoM (Reg.byH (blk (some ⟨gA, 0, none⟩)) (fun A n c => .agg (thingV A n c (none : Option Cell))) []) (Reg.byH (blk (some ⟨gA, 0, none⟩)) (fun A n c => .agg (ansV A n c ⟨err, CellP.none⟩)) CellP.none.data)).pred (ax.eval (.tmp 33)) (hideL wx rb) wx.heap.size := hmm (8, 33) (List.mem_of_getElem? (i := 4) rfl) (by kernel_rfl)
      obtain ⟨x0, x1, ex, hp0, hp1⟩ := m33
      exact Reg.mv_mem rfl (Reg.run_ex rfl ex rfl) hp1
    · refine Reg.oblB_alloc rfl rfl hOK (t := 10) (js := 13) (List.mem_of_getElem? (i := 0) rfl) rfl (by show 10 < 82; decide) (by show 11 < 15; decide) (fun _ _ => trivial) (by rfl) ?_
      intro ax wx hx
      replace hx : Below W3.heap.size W3 wx := hx.below (Nat.le_refl _) (fun b hb => by cases hb)
      exact Reg.al_box rfl (by kernel_rfl)
    · refine Reg.oblB_alloc rfl rfl hOK (t := 11) (js := 14) (List.mem_of_getElem? (i := 1) rfl) rfl (by show 11 < 82; decide) (by show 12 < 15; decide) (fun _ _ => trivial) (by rfl) ?_
      intro ax wx hx
      replace hx : Below W3.heap.size W3 wx := hx.below (Nat.le_refl _) (fun b hb => by cases hb)
      exact Reg.al_box rfl (by kernel_rfl)
    · refine Reg.oblB_store rfl rfl hOK (t := 10) (ja := 11) (List.mem_of_getElem? (i := 0) rfl) rfl (by show 13 < 15; decide) (by kernel_rfl) (fun _ _ => trivial) ?_
      intro ax wx rb g hx hrb hs hmm he hS
      replace hx : Below W3.heap.size W3 wx := hx.below (Nat.le_refl _) (fun b hb => by cases hb)
      obtain ⟨e10, e42, -⟩ := hs
      have m42 : (Reg.byH (blk (some ⟨gA, 0, none⟩)) (fun A n c => .agg (thingV A n c (none : Option Cell))) []).pred (ax.eval (.tmp 42)) (hideL wx rb) wx.heap.size := hmm (9, 42) (List.mem_of_getElem? (i := 5) rfl) (by kernel_rfl)
      obtain ⟨A1, n1, c1, e42, hy1⟩ := m42
      exact Reg.st_box rfl (Reg.run_st_box rfl he e42 hS rfl (by kernel_rfl) rfl) rfl ⟨A1, n1, c1, rfl, hy1⟩
    · refine Reg.oblB_store rfl rfl hOK (t := 11) (ja := 12) (List.mem_of_getElem? (i := 1) rfl) rfl (by show 14 < 15; decide) (by kernel_rfl) (fun _ _ => trivial) ?_
      intro ax wx rb g hx hrb hs hmm he hS
      replace hx : Below W3.heap.size W3 wx := hx.below (Nat.le_refl _) (fun b hb => by cases hb)
      obtain ⟨e11, e43, -⟩ := hs
      have m43 : (Reg.byH (blk (some ⟨gA, 0, none⟩)) (fun A n c => .agg (ansV A n c ⟨err, CellP.none⟩)) CellP.none.data).pred (ax.eval (.tmp 43)) (hideL wx rb) wx.heap.size := hmm (10, 43) (List.mem_of_getElem? (i := 6) rfl) (by kernel_rfl)
      obtain ⟨A1, n1, c1, e43, hy1⟩ := m43
      exact Reg.st_box rfl (Reg.run_st_box rfl he e43 hS rfl (by kernel_rfl) rfl) rfl ⟨A1, n1, c1, rfl, hy1⟩
  · intro W4 listed hwf hall
    simp only [Reg.Fin]
    rintro v34 h34 _ rfl _ rfl v37 h37 v38 h38 _ rfl _ rfl v41 h41 v33 h33 v42 h42 v43 h43 v10 h10 v11 h11 vn13 hn13 vn14 hn14
    intro hJ
    obtain ⟨hJM, hJB, hJN, hJ0⟩ := Reg.bj_end (n := 15) hall (by show ∀ b ∈ ([(11, 10, 13), (12, 11, 14)] : List (Nat × Tmp × Nat)), b.1 < 15 ∧ b.2.2 < 15; decide) (by show ∀ m ∈ ([(0, 34), (3, 37), (4, 38), (7, 41), (8, 33), (9, 42), (10, 43)] : List (Nat × Tmp)), m.1 < 15; decide) (by show ∀ k ∈ ([] : List Nat), k < 15; decide) hJ
    have hm34 : (Reg.rulesM (fun b c => .agg (rulesV b c))).pred v34 W4 W4.heap.size := by have h := hJM (0, 34) (List.mem_of_getElem? (i := 0) rfl); simpa [Act.eval, Act.put] using h
    have hm37 : (Reg.rulesM (fun b c => .agg #[.func (.func f) #[] (cap b c)])).pred v37 W4 W4.heap.size := by have h := hJM (3, 37) (List.mem_of_getElem? (i := 1) rfl); simpa [Act.eval, Act.put] using h
    have hm38 : (Reg.rulesM (fun b c => .func (.func f) #[] (cap b c))).pred v38 W4 W4.heap.size := by have h := hJM (4, 38) (List.mem_of_getElem? (i := 2) rfl); simpa [Act.eval, Act.put] using h
    have hm41 : (Reg.twoM (Reg.byH (blk (some ⟨gA, 0, none⟩)) (fun A n c => .agg (thingV A n c (none : Option Cell))) []) (Reg.byH (blk (some ⟨gA, 0, none⟩)) (fun A n c => .agg (ansV A n c ⟨err, CellP.none⟩)) CellP.none.data)).pred v41 W4 W4.heap.size := by have h := hJM (7, 41) (List.mem_of_getElem? (i := 3) rfl); simpa [Act.eval, Act.put] using h
    have hm33 : (Reg.twoM (Reg.byH (blk (some ⟨gA, 0, none⟩)) (fun A n c => .agg (thingV A n c (none : Option Cell))) []) (Reg.byH (blk (some ⟨gA, 0, none⟩)) (fun A n c => .agg (ansV A n c ⟨err, CellP.none⟩)) CellP.none.data)).pred v33 W4 W4.heap.size := by have h := hJM (8, 33) (List.mem_of_getElem? (i := 4) rfl); simpa [Act.eval, Act.put] using h
    have hm42 : (Reg.byH (blk (some ⟨gA, 0, none⟩)) (fun A n c => .agg (thingV A n c (none : Option Cell))) []).pred v42 W4 W4.heap.size := by have h := hJM (9, 42) (List.mem_of_getElem? (i := 5) rfl); simpa [Act.eval, Act.put] using h
    have hm43 : (Reg.byH (blk (some ⟨gA, 0, none⟩)) (fun A n c => .agg (ansV A n c ⟨err, CellP.none⟩)) CellP.none.data).pred v43 W4 W4.heap.size := by have h := hJM (10, 43) (List.mem_of_getElem? (i := 6) rfl); simpa [Act.eval, Act.put] using h
    obtain ⟨b10, cs10, eb10, hb10, hS10, hX10⟩ := hJB (11, 10, 13) (List.mem_of_getElem? (i := 0) rfl)
    have ec10 : v10 = .pointer (some ⟨b10, 0, none⟩) := by simpa [Act.eval, Act.put] using eb10
    have hX10 : (Reg.rowM (Reg.byH (blk (some ⟨gA, 0, none⟩)) (fun A n c => .agg (thingV A n c (none : Option Cell))) [])).pred cs10 W4 W4.heap.size := hX10
    obtain ⟨b11, cs11, eb11, hb11, hS11, hX11⟩ := hJB (12, 11, 14) (List.mem_of_getElem? (i := 1) rfl)
    have ec11 : v11 = .pointer (some ⟨b11, 0, none⟩) := by simpa [Act.eval, Act.put] using eb11
    have hX11 : (Reg.rowM (Reg.byH (blk (some ⟨gA, 0, none⟩)) (fun A n c => .agg (ansV A n c ⟨err, CellP.none⟩)) CellP.none.data)).pred cs11 W4 W4.heap.size := hX11
    have hne10_11 : b10 ≠ b11 := by have h := hJN (11, 10, 13) (List.mem_of_getElem? (i := 0) rfl) (12, 11, 14) (List.mem_of_getElem? (i := 1) rfl) (by decide); intro e; apply h; rw [eb10, eb11, e]
    clear hJM hJB hJN hJ0 hJ hall eb10 eb11
    subst ec10
    subst ec11
    go_simp
    replace hwf : Below W3.heap.size W3 W4 := Reg.KeepB.below hwf (Nat.le_refl _) (fun b hb => by cases hb)
    have hbw : Below w.heap.size W3 W4 := hwf.mono (by omega)
    have HS0_4 := Lib.hid (HS0_3.out.next hwf)
    have HS1_4 := Lib.hid (HS1_3.out.next hwf)
    have HS2_4 := Lib.hid (HS2_3.out.next hwf)
    have HB_4 := Lib.hid (HB_3.out.trans hbw)
    have hw_4 := HB_4.out.size
    have hws_4 := hbw.size
    have HSn10 := Lib.hid hS10
    clear hS10
    have HSn11 := Lib.hid hS11
    clear hS11
    clear f0_3 HS0_3 hf0_3 f1_3 HS1_3 hf1_3 f2_3 HS2_3
    clear hwf hbw hOK
    obtain ⟨A1, n1, c1, e10, hy1⟩ := hX10
    obtain ⟨A2, n2, c2, e11, hy2⟩ := hX11
    obtain rfl : cs10 = thingV A1 n1 c1 (none : Option Cell) := Value.agg.inj e10
    obtain rfl : cs11 = ansV A2 n2 c2 ⟨err, CellP.none⟩ := Value.agg.inj e11
    clear e10 e11
    have hn2 := hy2.len
    have HA2 : Hid (ansV A2 n2 c2 ⟨err, CellP.none⟩ = ansV A2 n2 c2 ⟨err, CellP.none⟩) := Lib.hid rfl
    have HS3_4 : Hid (Str W4 b10 #[.int .i64 0, .slice none 0 0, .int .i64 0, .int .i64 0, .int .i64 0, .bool false]) := HSn10
    have HS4_4 : Hid (Str W4 b11 #[.int .i64 err, .int .i64 0, .slice A2 n2 c2, .int .i64 0, .int .i64 0, .int .i64 0]) := HSn11
    clear HSn10 HSn11
    have HYt_4 := Lib.hid ((show BytesH (blk (some ⟨gA, 0, none⟩)) W4 A1 n1 c1 [] from hy1))
    have HYa_4 := Lib.hid ((show BytesH (blk (some ⟨gA, 0, none⟩)) W4 A2 n2 c2 [] from hy2))
    clear hy1 hy2
    have f0_4 := str6 HS0_4.out
    have hl0_4 := HS0_4.out.lt
    have hf0_4 := fun j => HS0_4.out.frozen j
    have f1_4 := str6 HS1_4.out
    have hl1_4 := HS1_4.out.lt
    have hf1_4 := fun j => HS1_4.out.frozen j
    have f2_4 := str6 HS2_4.out
    have hl2_4 := HS2_4.out.lt
    have f3_4 := str6 HS3_4.out
    have hl3_4 := HS3_4.out.lt
    have f4_4 := str6 HS4_4.out
    have hl4_4 := HS4_4.out.lt
    go_wp2_with fail
    refine Reg.wp_region_tail (R := ext) (W := W4) [Reg.eqv (.slice (some ⟨gA, 0, none⟩) n cA), Reg.eqv (.agg #[.int .i64 err, .int .i64 0, .slice A2 n2 c2, .int .i64 0, .int .i64 0, .int .i64 0]), Reg.eqv (.slice (some ⟨gA, 0, none⟩) n cA)] 82 3 _ [[(0, none)], [(11, none)], [(47, some 0)]] rfl (by kernel_rfl) (by kernel_rfl) (by rfl) (by rfl) rfl (by kernel_rfl) ?_ [some 47, some 48, some 4] (by kernel_rfl) ?_
    · refine ⟨?_, ?_, ?_, trivial⟩
      · intro ax wx hx hs
        obtain ⟨e0, -⟩ := hs
        have g0 := Reg.ev (v := .slice (some ⟨gA, 0, none⟩) n cA) e0
        exact Reg.obl_free rfl (Reg.wp_eqv (Option.some_ne_none _) (by go_simp) rfl)
      · intro ax wx hx hs
        obtain ⟨e11, -⟩ := hs
        have g11 := Reg.ev (v := .pointer (some ⟨b11, 0, none⟩)) e11
        obtain ⟨l4_0, l4_1, l4_2, l4_3, l4_4, l4_5⟩ := str6 (HS4_4.out.next hx)
        exact Reg.obl_free rfl (Reg.wp_eqv (Option.some_ne_none _) (by go_simp) rfl)
      · intro ax wx hx hs
        obtain ⟨e47, -⟩ := hs
        have g47 := Reg.ev (v := .slice (some ⟨gA, 0, none⟩) n cA) e47
        exact Reg.obl_free rfl (Reg.wp_eqv (Option.some_ne_none _) (by go_simp) rfl)
    · intro W5 hwf
      simp only [Reg.Fin]
      rintro _ rfl _ rfl _ rfl
      have hwf' : Below W4.heap.size W4 W5 := hwf
      have HS0_5 := Lib.hid (HS0_4.out.next hwf')
      have HS1_5 := Lib.hid (HS1_4.out.next hwf')
      have HS2_5 := Lib.hid (HS2_4.out.next hwf')
      have HS3_5 := Lib.hid (HS3_4.out.next hwf')
      have HS4_5 := Lib.hid (HS4_4.out.next hwf')
      have HB_5 := Lib.hid (bstep HB_4.out hwf')
      have hw_5 := HB_5.out.size
      have hws_5 := (hwf').size
      have HYt_5 := Lib.hid (HYt_4.out.next hwf')
      have HYa_5 := Lib.hid (HYa_4.out.next hwf')
      clear HYt_4 HYa_4
      clear f0_4 HS0_4 hf0_4 f1_4 HS1_4 hf1_4 f2_4 HS2_4 f3_4 HS3_4 f4_4 HS4_4
      have f0_5 := str6 HS0_5.out
      have hl0_5 := HS0_5.out.lt
      have hf0_5 := fun j => HS0_5.out.frozen j
      have f1_5 := str6 HS1_5.out
      have hl1_5 := HS1_5.out.lt
      have hf1_5 := fun j => HS1_5.out.frozen j
      have f2_5 := str6 HS2_5.out
      have hl2_5 := HS2_5.out.lt
      have f3_5 := str6 HS3_5.out
      have hl3_5 := HS3_5.out.lt
      have f4_5 := str6 HS4_5.out
      have hl4_5 := HS4_5.out.lt
      clear hwf hwf'
      refine Reg.Goal.mk ?_
      go_simp
      go_wp2_with fail
      generalize hW6 : ((((((W5).setCell ⟨w.heap.size + 1, 0, none⟩ (.int .i64 err)).setCell ⟨w.heap.size + 1, 1, none⟩ (.int .i64 0)).setCell ⟨w.heap.size + 1, 2, none⟩ (.slice A2 n2 c2)).setCell ⟨w.heap.size + 1, 3, none⟩ (.int .i64 0)).setCell ⟨w.heap.size + 1, 4, none⟩ (.int .i64 0)).setCell ⟨w.heap.size + 1, 5, none⟩ (.int .i64 0) = W6
      have HS1_6 : Hid (Str W6 (w.heap.size + 1) #[.int .i64 err, .int .i64 0, .slice A2 n2 c2, .int .i64 0, .int .i64 0, .int .i64 0]) := Lib.hid (by rw [← hW6]; have := ((((((HS1_5.out).set 0 (.int .i64 err)).set 1 (.int .i64 0)).set 2 (.slice A2 n2 c2)).set 3 (.int .i64 0)).set 4 (.int .i64 0)).set 5 (.int .i64 0); simpa using this)
      have hgr6 : W5.grownBy W6 (some (w.heap.size + 1)) := by rw [← hW6]; exact grown_set (grown_set (grown_set (grown_set (grown_set (grown_set (grown_refl W5 (w.heap.size + 1)) 0 (_)) 1 (_)) 2 (_)) 3 (_)) 4 (_)) 5 (_)
      have HS0_6 := Lib.hid (HS0_5.out.grown hgr6 (by omega))
      have HS2_6 := Lib.hid (HS2_5.out.grown hgr6 (by omega))
      have HS3_6 := Lib.hid (HS3_5.out.grown hgr6 (by omega))
      have HS4_6 := Lib.hid (HS4_5.out.grown hgr6 (by omega))
      have HB_6 := Lib.hid (below_grown HB_5.out hgr6 (by omega))
      have hw_6 := HB_6.out.size
      have hws_6 := hgr6.size
      have HYt_6 := Lib.hid (BytesH.grown HYt_5.out HS1_5.out rfl hgr6)
      have HYa_6 := Lib.hid (BytesH.grown HYa_5.out HS1_5.out rfl hgr6)
      clear HYt_5 HYa_5
      clear hW6
      clear f0_5 HS0_5 hf0_5 f1_5 HS1_5 hf1_5 f2_5 HS2_5 f3_5 HS3_5 f4_5 HS4_5
      clear hgr6
      have f0_6 := str6 HS0_6.out
      have hl0_6 := HS0_6.out.lt
      have hf0_6 := fun j => HS0_6.out.frozen j
      have f1_6 := str6 HS1_6.out
      have hl1_6 := HS1_6.out.lt
      have hf1_6 := fun j => HS1_6.out.frozen j
      have f2_6 := str6 HS2_6.out
      have hl2_6 := HS2_6.out.lt
      have f3_6 := str6 HS3_6.out
      have hl3_6 := HS3_6.out.lt
      have f4_6 := str6 HS4_6.out
      have hl4_6 := HS4_6.out.lt
      exact bodyPost_ret (v := .tuple #[.slice (some ⟨gA, 0, none⟩) n cA, .agg #[.int .i64 err, .int .i64 0, .slice A2 n2 c2, .int .i64 0, .int .i64 0, .int .i64 0]]) (by simp [results, Tryz.results59, go_sem, *]) rfl ⟨_, n, cA, A2, n2, c2, rfl, H.out.next HB_6.out, HYa_6.out, grown_below HB_6.out _, .inl rfl⟩
set_option maxRecDepth 100000 in
set_option maxHeartbeats 2000000 in
theorem step_hasB (A : Option Addr) (n cA base k : Nat) (l : List Pair) (act : Int) (xk : ByteArray) (xdata : List UInt8) (Ax : Option Addr) (nx cx Bx : Nat) (xlo xhi xn : Int) (pkd : Int) (pda : List UInt8) (plo phi pva : Int) (told : Cell) (ckd : Int) (cda : List UInt8) (clo chi cva : Int) (f : FuncId) (cap : Nat → Nat → Array Value) (w : World) (h : OwnE PairE TPr w base A n cA l) (hb : base ≤ w.heap.size) (hr : ModelP.Rises l) (hn : n ≤ 1000) (hx : Bytes w Bx Ax nx cx xdata) (hBx : Bx ≤ w.heap.size) (hxk : xk.size ≤ maxLen) (hg : ModelP.good ⟨act, xk, xdata, xlo, xhi, xn⟩ = true) (hat : ModelP.at_ l xk = k) (hhas : hasB l xk = true) (hlk : l[k]? = some ⟨xk, ⟨pkd, pda, plo, phi, pva⟩⟩) (hpd : pda.length ≤ 100000) (hix : ∀ b c W, (Instr.index 127 (.agg (rulesV b c)) (.int .i64 act)).run Tryz.prog W = .ok (.agg #[.func (.func f) #[] (cap b c)]) W) (hcf : ∀ args W, (callFunc f args).run Tryz.prog W = .ok (.enter f args) W) (hdo : Does (some ⟨pkd, pda, plo, phi, pva⟩) ⟨act, xk, xdata, xlo, xhi, xn⟩ Ax nx cx f cap) (hR : ModelP.rule (some ⟨pkd, pda, plo, phi, pva⟩) ⟨act, xk, xdata, xlo, xhi, xn⟩ = (0, (some ⟨ckd, cda, clo, chi, cva⟩), told)) (hin : In64 ckd ∧ In64 clo ∧ In64 chi ∧ In64 cva) :
    Calls Tryz.prog 59 #[.slice A n cA, .agg #[.int .i64 act, .string xk, .slice Ax nx cx, .int .i64 xlo, .int .i64 xhi, .int .i64 xn]] w (GivesStep base A w (l.set k ⟨xk, ⟨ckd, cda, clo, chi, cva⟩⟩, ⟨0, told⟩)) := by
  have hcap := h.elemsIn.cap
  have H := Lib.hid h
  have HR := Lib.hid hr
  have HX := Lib.hid hx
  have HL := Lib.hid h.len
  have HLX := Lib.hid hx.len
  have HC : Hid (ModelP.code (ModelP.good ⟨act, xk, xdata, xlo, xhi, xn⟩) = 0) := Lib.hid (by rw [hg]; rfl)
  have HAT := Lib.hid hat
  have HHAS := Lib.hid hhas
  have HIX := Lib.hid hix
  have HDO := Lib.hid hdo
  have HRU := Lib.hid hR
  have HBL := Lib.hid h.blk_lt
  have HGE := Lib.hid h.ge
  have hkn : k ≤ n := by rw [← hat, ← h.len]; exact ModelP.at_le _ _
  have hkl : k < n := by rw [← h.len]; exact (List.getElem?_eq_some_iff.1 hlk).1
  obtain ⟨gA, cur, vs, rfl, hbg, hheap, -⟩ := h.row (by omega)
  have hgl := (Array.getElem?_eq_some_iff.1 hheap).1
  obtain ⟨b', o', p, Ap, np, cp, e, -, hp, hyp, -, hi1, hi2, hi3, hi4, c0, c1, c2, c3, c4, c5⟩ := pair_at h.elemsIn hkl
  cases e
  rw [hlk] at hp
  cases hp
  dsimp only at *
  simp only [Nat.zero_add] at c0 c1 c2 c3 c4 c5
  have HYP : Hid (BytesH (blk (some ⟨gA, 0, none⟩)) w Ap np cp pda) := Lib.hid hyp
  have hnp : np ≤ 100000 := by have := hyp.len; omega
  have HCS := Lib.hid (And.intro c1 (And.intro c2 (And.intro c3 (And.intro c4 c5))))
  have HLK := Lib.hid hlk
  have HIN0 := Lib.hid (And.intro hi1 (And.intro hi2 (And.intro hi3 hi4)))
  clear hyp hheap hlk c0 c1 c2 c3 c4 c5
  clear h hr hx hg hat hhas hix hdo hR
  go_enter Tryz.func59, Tryz.ntmps59
  go_wp2_with fail
  generalize hW0 : ((w).alloc (.cells #[.int .i64 act, .string xk, .slice Ax nx cx, .int .i64 xlo, .int .i64 xhi, .int .i64 xn] 62)).alloc (.cells #[.int .i64 0, .int .i64 0, .slice none 0 0, .int .i64 0, .int .i64 0, .int .i64 0] 58) = W0
  obtain ⟨HS0_0, HS1_0, HB_0, hw_0, hz0⟩ := new2 hW0
  clear hW0 hz0
  have f0_0 := str6 HS0_0.out
  have hl0_0 := HS0_0.out.lt
  have hf0_0 := fun j => HS0_0.out.frozen j
  have f1_0 := str6 HS1_0.out
  have hl1_0 := HS1_0.out.lt
  have hf1_0 := fun j => HS1_0.out.frozen j
  refine (check_any ⟨act, xk, xdata, xlo, xhi, xn⟩ Ax nx cx _ HLX.out hxk).mono ?_
  rintro e W1 ⟨rfl, hb1⟩
  rw [HC.out]
  have HS0_1 := Lib.hid (HS0_0.out.next hb1)
  have HS1_1 := Lib.hid (HS1_0.out.next hb1)
  have HB_1 := Lib.hid (bstep HB_0.out hb1)
  have hw_1 := HB_1.out.size
  have hws_1 := (hb1).size
  clear f0_0 HS0_0 hf0_0 f1_0 HS1_0 hf1_0
  clear hb1
  have f0_1 := str6 HS0_1.out
  have hl0_1 := HS0_1.out.lt
  have hf0_1 := fun j => HS0_1.out.frozen j
  have f1_1 := str6 HS1_1.out
  have hl1_1 := HS1_1.out.lt
  have hf1_1 := fun j => HS1_1.out.frozen j
  go_wp2_with fail
  refine (place_any (some ⟨gA, 0, none⟩) n cA w.heap.size l xk _ (H.out.elems.below HB_1.out) HB_1.out.size HR.out (by omega)).mono ?_
  rintro e W2 ⟨rfl, hb2⟩
  rw [HAT.out, HHAS.out]
  have HS0_2 := Lib.hid (HS0_1.out.next hb2)
  have HS1_2 := Lib.hid (HS1_1.out.next hb2)
  have HB_2 := Lib.hid (bstep HB_1.out hb2)
  have hw_2 := HB_2.out.size
  have hws_2 := (hb2).size
  clear f0_1 HS0_1 hf0_1 f1_1 HS1_1 hf1_1
  clear hb2
  have f0_2 := str6 HS0_2.out
  have hl0_2 := HS0_2.out.lt
  have hf0_2 := fun j => HS0_2.out.frozen j
  have f1_2 := str6 HS1_2.out
  have hl1_2 := HS1_2.out.lt
  have hf1_2 := fun j => HS1_2.out.frozen j
  obtain ⟨d1, d2, d3, d4, d5⟩ := HCS.out
  have dd1 := (HB_2.out.cell (p := ⟨gA, k * 6 + 1, none⟩) hgl).trans d1
  have dd2 := (HB_2.out.cell (p := ⟨gA, k * 6 + 2, none⟩) hgl).trans d2
  have dd3 := (HB_2.out.cell (p := ⟨gA, k * 6 + 3, none⟩) hgl).trans d3
  have dd4 := (HB_2.out.cell (p := ⟨gA, k * 6 + 4, none⟩) hgl).trans d4
  have dd5 := (HB_2.out.cell (p := ⟨gA, k * 6 + 5, none⟩) hgl).trans d5
  have hgl2 : gA < W2.heap.size := by omega
  clear d1 d2 d3 d4 d5
  go_wp2_with fail
  generalize hW3 : W2.alloc (.cells #[.int .i64 pkd, .slice Ap np cp, .int .i64 plo, .int .i64 phi, .int .i64 pva, .bool true] 122) = W3
  have HS0_3 := sEq hW3 (HS0_2.out.alloc _)
  have HS1_3 := sEq hW3 (HS1_2.out.alloc _)
  have HS2_3 := sEq hW3 (Str.new _ _ _)
  have hba3 : Below W2.heap.size W2 W3 := by rw [← hW3]; exact balloc (bsame _) _
  have HB_3 := Lib.hid (bstep HB_2.out hba3)
  have hw_3 := HB_3.out.size
  have hws_3 := hba3.size
  clear hW3
  clear f0_2 HS0_2 hf0_2 f1_2 HS1_2 hf1_2
  have f0_3 := str6 HS0_3.out
  have hl0_3 := HS0_3.out.lt
  have hf0_3 := fun j => HS0_3.out.frozen j
  have f1_3 := str6 HS1_3.out
  have hl1_3 := HS1_3.out.lt
  have hf1_3 := fun j => HS1_3.out.frozen j
  have f2_3 := str6 HS2_3.out
  have hl2_3 := HS2_3.out.lt
  clear dd1 dd2 dd3 dd4 dd5
  have hOK : Reg.okS W3.heap.size (Reg.BxS.mk [(11, 10, 13), (12, 11, 14)] (fun t => if t = 10 then #[.int .i64 0, .slice none 0 0, .int .i64 0, .int .i64 0, .int .i64 0, .bool false] else if t = 11 then #[.int .i64 0, .int .i64 0, .slice none 0 0, .int .i64 0, .int .i64 0, .int .i64 0] else #[]) (fun t => if t = 10 then (Reg.rowM (Reg.byH (blk (some ⟨gA, 0, none⟩)) (fun A n c => .agg (thingV A n c (some ⟨ckd, cda, clo, chi, cva⟩))) cda)) else if t = 11 then (Reg.rowM (Reg.byH (blk (some ⟨gA, 0, none⟩)) (fun A n c => .agg (ansV A n c ⟨0, told⟩)) told.data)) else (Reg.rowM (Reg.eqM undef))) [(0, 34), (3, 37), (4, 38), (7, 41), (8, 33), (9, 42), (10, 43)] (fun t => if t = 34 then (Reg.rulesM (fun b c => .agg (rulesV b c))) else if t = 37 then (Reg.rulesM (fun b c => .agg #[.func (.func f) #[] (cap b c)])) else if t = 38 then (Reg.rulesM (fun b c => .func (.func f) #[] (cap b c))) else if t = 41 then (Reg.twoM (Reg.byH (blk (some ⟨gA, 0, none⟩)) (fun A n c => .agg (thingV A n c (some ⟨ckd, cda, clo, chi, cva⟩))) cda) (Reg.byH (blk (some ⟨gA, 0, none⟩)) (fun A n c => .agg (ansV A n c ⟨0, told⟩)) told.data)) else if t = 33 then (Reg.twoM (Reg.byH (blk (some ⟨gA, 0, none⟩)) (fun A n c => .agg (thingV A n c (some ⟨ckd, cda, clo, chi, cva⟩))) cda) (Reg.byH (blk (some ⟨gA, 0, none⟩)) (fun A n c => .agg (ansV A n c ⟨0, told⟩)) told.data)) else if t = 42 then (Reg.byH (blk (some ⟨gA, 0, none⟩)) (fun A n c => .agg (thingV A n c (some ⟨ckd, cda, clo, chi, cva⟩))) cda) else if t = 43 then (Reg.byH (blk (some ⟨gA, 0, none⟩)) (fun A n c => .agg (ansV A n c ⟨0, told⟩)) told.data) else (Reg.eqM undef)) []) := Reg.okS_of rfl List.Pairwise.nil (fun k hk => by cases hk)
  refine Reg.wp_region_box (R := (Reg.extB W3.heap.size (Reg.BxS.b0 (Reg.BxS.mk [(11, 10, 13), (12, 11, 14)] (fun t => if t = 10 then #[.int .i64 0, .slice none 0 0, .int .i64 0, .int .i64 0, .int .i64 0, .bool false] else if t = 11 then #[.int .i64 0, .int .i64 0, .slice none 0 0, .int .i64 0, .int .i64 0, .int .i64 0] else #[]) (fun t => if t = 10 then (Reg.rowM (Reg.byH (blk (some ⟨gA, 0, none⟩)) (fun A n c => .agg (thingV A n c (some ⟨ckd, cda, clo, chi, cva⟩))) cda)) else if t = 11 then (Reg.rowM (Reg.byH (blk (some ⟨gA, 0, none⟩)) (fun A n c => .agg (ansV A n c ⟨0, told⟩)) told.data)) else (Reg.rowM (Reg.eqM undef))) [(0, 34), (3, 37), (4, 38), (7, 41), (8, 33), (9, 42), (10, 43)] (fun t => if t = 34 then (Reg.rulesM (fun b c => .agg (rulesV b c))) else if t = 37 then (Reg.rulesM (fun b c => .agg #[.func (.func f) #[] (cap b c)])) else if t = 38 then (Reg.rulesM (fun b c => .func (.func f) #[] (cap b c))) else if t = 41 then (Reg.twoM (Reg.byH (blk (some ⟨gA, 0, none⟩)) (fun A n c => .agg (thingV A n c (some ⟨ckd, cda, clo, chi, cva⟩))) cda) (Reg.byH (blk (some ⟨gA, 0, none⟩)) (fun A n c => .agg (ansV A n c ⟨0, told⟩)) told.data)) else if t = 33 then (Reg.twoM (Reg.byH (blk (some ⟨gA, 0, none⟩)) (fun A n c => .agg (thingV A n c (some ⟨ckd, cda, clo, chi, cva⟩))) cda) (Reg.byH (blk (some ⟨gA, 0, none⟩)) (fun A n c => .agg (ansV A n c ⟨0, told⟩)) told.data)) else if t = 42 then (Reg.byH (blk (some ⟨gA, 0, none⟩)) (fun A n c => .agg (thingV A n c (some ⟨ckd, cda, clo, chi, cva⟩))) cda) else if t = 43 then (Reg.byH (blk (some ⟨gA, 0, none⟩)) (fun A n c => .agg (ansV A n c ⟨0, told⟩)) told.data) else (Reg.eqM undef)) [])))) (W := W3) (Reg.BJ W3.heap.size (Reg.BxS.mk [(11, 10, 13), (12, 11, 14)] (fun t => if t = 10 then #[.int .i64 0, .slice none 0 0, .int .i64 0, .int .i64 0, .int .i64 0, .bool false] else if t = 11 then #[.int .i64 0, .int .i64 0, .slice none 0 0, .int .i64 0, .int .i64 0, .int .i64 0] else #[]) (fun t => if t = 10 then (Reg.rowM (Reg.byH (blk (some ⟨gA, 0, none⟩)) (fun A n c => .agg (thingV A n c (some ⟨ckd, cda, clo, chi, cva⟩))) cda)) else if t = 11 then (Reg.rowM (Reg.byH (blk (some ⟨gA, 0, none⟩)) (fun A n c => .agg (ansV A n c ⟨0, told⟩)) told.data)) else (Reg.rowM (Reg.eqM undef))) [(0, 34), (3, 37), (4, 38), (7, 41), (8, 33), (9, 42), (10, 43)] (fun t => if t = 34 then (Reg.rulesM (fun b c => .agg (rulesV b c))) else if t = 37 then (Reg.rulesM (fun b c => .agg #[.func (.func f) #[] (cap b c)])) else if t = 38 then (Reg.rulesM (fun b c => .func (.func f) #[] (cap b c))) else if t = 41 then (Reg.twoM (Reg.byH (blk (some ⟨gA, 0, none⟩)) (fun A n c => .agg (thingV A n c (some ⟨ckd, cda, clo, chi, cva⟩))) cda) (Reg.byH (blk (some ⟨gA, 0, none⟩)) (fun A n c => .agg (ansV A n c ⟨0, told⟩)) told.data)) else if t = 33 then (Reg.twoM (Reg.byH (blk (some ⟨gA, 0, none⟩)) (fun A n c => .agg (thingV A n c (some ⟨ckd, cda, clo, chi, cva⟩))) cda) (Reg.byH (blk (some ⟨gA, 0, none⟩)) (fun A n c => .agg (ansV A n c ⟨0, told⟩)) told.data)) else if t = 42 then (Reg.byH (blk (some ⟨gA, 0, none⟩)) (fun A n c => .agg (thingV A n c (some ⟨ckd, cda, clo, chi, cva⟩))) cda) else if t = 43 then (Reg.byH (blk (some ⟨gA, 0, none⟩)) (fun A n c => .agg (ansV A n c ⟨0, told⟩)) told.data) else (Reg.eqM undef)) [])) [Reg.any, Reg.eqv (.pointer (some ⟨w.heap.size, 0, none⟩)), Reg.eqv (.int .i64 act), Reg.any, Reg.any, Reg.eqv (.agg #[.int .i64 pkd, .slice Ap np cp, .int .i64 plo, .int .i64 phi, .int .i64 pva, .bool true]), Reg.eqv (.agg #[.int .i64 act, .string xk, .slice Ax nx cx, .int .i64 xlo, .int .i64 xhi, .int .i64 xn]), Reg.any, Reg.any, Reg.any, Reg.any, Reg.any, Reg.any, Reg.any, Reg.any] 82 [[], [(3, none)], [(35, some 1)], [(34, some 0), (36, some 2)], [(37, some 3)], [(9, none)], [(3, none)], [(38, some 4), (39, some 5), (40, some 6)], [(41, some 7)], [(33, some 8)], [(33, some 8)], [], [], [(10, some 11), (42, some 9)], [(11, some 12), (43, some 10)]] rfl (by kernel_rfl) (by kernel_rfl) (fun _ h => Reg.bj_zero (fun k hk => by cases hk) h) (by kernel_rfl) ?_ [some 34, some 35, some 36, some 37, some 38, some 39, some 40, some 41, some 33, some 42, some 43, some 10, some 11, none, none] (by kernel_rfl) ?_
  · refine ⟨?_, ?_, ?_, ?_, ?_, ?_, ?_, ?_, ?_, ?_, ?_, ?_, ?_, ?_, ?_, trivial⟩
    · refine Reg.oblB_mem rfl rfl hOK (t := 34) rfl (List.mem_of_getElem? (i := 0) rfl) (by show 34 < 82; decide) (by show 0 < 15; decide) (fun _ _ => trivial) ?_
      intro ax wx rb hx hrb hs hmm
      replace hx : Below W3.heap.size W3 wx := hx.below (Nat.le_refl _) (fun b hb => by cases hb)
      go_simp
      refine (rules_any _).mono ?_
      rintro e wy ⟨b, c, rfl, hb1, hc1, hS1, hS2, hby⟩
      refine ⟨_, rfl, hby, b, c, rfl, hS1.lt, hS2.lt, ?_, ?_⟩
      · exact (hideL_out wy ⟨b, 0, none⟩ rb (fun hm => by have := (hrb b hm).2.1; omega)).trans (str1 hS1)
      · exact (hideL_out wy ⟨c, 0, none⟩ rb (fun hm => by have := (hrb c hm).2.1; omega)).trans (str1 hS2)
    · refine Reg.oblB_pure rfl rfl rfl ?_
      intro ax wx hx hs hmm
      replace hx : Below W3.heap.size W3 wx := hx.below (Nat.le_refl _) (fun b hb => by cases hb)
      obtain ⟨e3, -⟩ := hs
      have g3 := Reg.ev (v := .pointer (some ⟨w.heap.size, 0, none⟩)) e3
      exact (Reg.wp_eqvB (Option.some_ne_none _) (by go_simp) rfl)
    · refine Reg.oblB_pure rfl rfl rfl ?_
      intro ax wx hx hs hmm
      replace hx : Below W3.heap.size W3 wx := hx.below (Nat.le_refl _) (fun b hb => by cases hb)
      obtain ⟨e35, -⟩ := hs
      have g35 := Reg.ev (v := .pointer (some ⟨w.heap.size, 0, none⟩)) e35
      obtain ⟨l0_0, l0_1, l0_2, l0_3, l0_4, l0_5⟩ := str6 ((HS0_3.out.next hx))
      obtain ⟨l1_0, l1_1, l1_2, l1_3, l1_4, l1_5⟩ := str6 ((HS1_3.out.next hx))
      obtain ⟨l2_0, l2_1, l2_2, l2_3, l2_4, l2_5⟩ := str6 ((HS2_3.out.next hx))
      exact (Reg.wp_eqvB (Option.some_ne_none _) (by go_simp) rfl)
    · refine Reg.oblB_mem rfl rfl hOK (t := 37) rfl (List.mem_of_getElem? (i := 1) rfl) (by show 37 < 82; decide) (by show 3 < 15; decide) (fun _ _ => trivial) ?_
      intro ax wx rb hx hrb hs hmm
      replace hx : Below W3.heap.size W3 wx := hx.below (Nat.le_refl _) (fun b hb => by cases hb)
      obtain ⟨e34, e36, -⟩ := hs
      have g36 := Reg.ev (v := .int .i64 act) e36
      have m34 : (Reg.rulesM (fun b c => .agg (rulesV b c))).pred (ax.eval (.tmp 34)) (hideL wx rb) wx.heap.size := hmm (0, 34) (List.mem_of_getElem? (i := 0) rfl) (by kernel_rfl)
      obtain ⟨b, c, e34, h1, h2, h3, h4⟩ := m34
      exact Reg.mv_mem rfl (Reg.run_ix rfl e34 e36 (HIX.out b c wx)) ⟨b, c, rfl, h1, h2, h3, h4⟩
    · refine Reg.oblB_mem rfl rfl hOK (t := 38) rfl (List.mem_of_getElem? (i := 2) rfl) (by show 38 < 82; decide) (by show 4 < 15; decide) (fun _ _ => trivial) ?_
      intro ax wx rb hx hrb hs hmm
      replace hx : Below W3.heap.size W3 wx := hx.below (Nat.le_refl _) (fun b hb => by cases hb)
      obtain ⟨e37, -⟩ := hs
      have m37 : (Reg.rulesM (fun b c => .agg #[.func (.func f) #[] (cap b c)])).pred (ax.eval (.tmp 37)) (hideL wx rb) wx.heap.size := hmm (3, 37) (List.mem_of_getElem? (i := 1) rfl) (by kernel_rfl)
      obtain ⟨b, c, e37, h1, h2, h3, h4⟩ := m37
      have g37 := Reg.ev e37
      exact Reg.mv_mem rfl (Reg.run_fl rfl e37 (fieldR _ _)) ⟨b, c, rfl, h1, h2, h3, h4⟩
    · refine Reg.oblB_pure rfl rfl rfl ?_
      intro ax wx hx hs hmm
      replace hx : Below W3.heap.size W3 wx := hx.below (Nat.le_refl _) (fun b hb => by cases hb)
      obtain ⟨e9, -⟩ := hs
      have g9 := Reg.ev (v := .pointer (some ⟨W2.heap.size, 0, none⟩)) e9
      obtain ⟨l0_0, l0_1, l0_2, l0_3, l0_4, l0_5⟩ := str6 ((HS0_3.out.next hx))
      obtain ⟨l1_0, l1_1, l1_2, l1_3, l1_4, l1_5⟩ := str6 ((HS1_3.out.next hx))
      obtain ⟨l2_0, l2_1, l2_2, l2_3, l2_4, l2_5⟩ := str6 ((HS2_3.out.next hx))
      exact (Reg.wp_eqvB (Option.some_ne_none _) (by go_simp) rfl)
    · refine Reg.oblB_pure rfl rfl rfl ?_
      intro ax wx hx hs hmm
      replace hx : Below W3.heap.size W3 wx := hx.below (Nat.le_refl _) (fun b hb => by cases hb)
      obtain ⟨e3, -⟩ := hs
      have g3 := Reg.ev (v := .pointer (some ⟨w.heap.size, 0, none⟩)) e3
      obtain ⟨l0_0, l0_1, l0_2, l0_3, l0_4, l0_5⟩ := str6 ((HS0_3.out.next hx))
      obtain ⟨l1_0, l1_1, l1_2, l1_3, l1_4, l1_5⟩ := str6 ((HS1_3.out.next hx))
      obtain ⟨l2_0, l2_1, l2_2, l2_3, l2_4, l2_5⟩ := str6 ((HS2_3.out.next hx))
      exact (Reg.wp_eqvB (Option.some_ne_none _) (by go_simp) rfl)
    · refine Reg.oblB_mem rfl rfl hOK (t := 41) rfl (List.mem_of_getElem? (i := 3) rfl) (by show 41 < 82; decide) (by show 7 < 15; decide) (fun _ _ => trivial) ?_
      intro ax wx rb hx hrb hs hmm
      replace hx : Below W3.heap.size W3 wx := hx.below (Nat.le_refl _) (fun b hb => by cases hb)
      obtain ⟨e38, e39, e40, -⟩ := hs
      have g39 := Reg.ev (v := .agg #[.int .i64 pkd, .slice Ap np cp, .int .i64 plo, .int .i64 phi, .int .i64 pva, .bool true]) e39
      have g40 := Reg.ev (v := .agg #[.int .i64 act, .string xk, .slice Ax nx cx, .int .i64 xlo, .int .i64 xhi, .int .i64 xn]) e40
      have m38 : (Reg.rulesM (fun b c => .func (.func f) #[] (cap b c))).pred (ax.eval (.tmp 38)) (hideL wx rb) wx.heap.size := hmm (4, 38) (List.mem_of_getElem? (i := 2) rfl) (by kernel_rfl)
      obtain ⟨b, c, e38, h1, h2, h3, h4⟩ := m38
      have g38 := Reg.ev e38
      have hsx := Below.size hx
      have hD := HDO.out ((blk (some ⟨gA, 0, none⟩)) ++ rb) Ap np cp b c Bx wx (by
        intro q hq
        rcases List.mem_append.1 hq with hq | hq
        · have := HBL.out q hq; omega
        · exact (hrb q hq).2.1) (BytesH.app (HYP.out.next ((HB_3.out).trans (hx.mono (by omega)))) rb (fun b hb => (hrb b hb).2.2) ) (by omega) h1 h2 (sub_hideL wx.heap.size wx rb _ _ h1 h3) (sub_hideL wx.heap.size wx rb _ _ h2 h4) (HX.out.below ((HB_3.out.mono hBx).trans (hx.mono (by omega)))) (by omega)
      rw [HRU.out] at hD
      dsimp only at hD
      go_simp
      refine hD.mono ?_
      rintro e wy ⟨A1, n1, c1, A2, n2, c2, rfl, hy1, hy2, hby⟩
      unfold BytesH at hy1 hy2
      rw [hideL_append] at hy1 hy2
      exact ⟨_, rfl, hby, _, _, rfl, ⟨A1, n1, c1, rfl, hy1⟩, ⟨A2, n2, c2, rfl, hy2⟩⟩
    · refine Reg.oblB_mem rfl rfl hOK (t := 33) rfl (List.mem_of_getElem? (i := 4) rfl) (by show 33 < 82; decide) (by show 8 < 15; decide) (fun _ _ => trivial) ?_
      intro ax wx rb hx hrb hs hmm
      replace hx : Below W3.heap.size W3 wx := hx.below (Nat.le_refl _) (fun b hb => by cases hb)
      obtain ⟨e41, -⟩ := hs
      have m41 : (Reg.twoM (Reg.byH (blk (some ⟨gA, 0, none⟩)) (fun A n c => .agg (thingV A n c (some ⟨ckd, cda, clo, chi, cva⟩))) cda) (Reg.byH (blk (some ⟨gA, 0, none⟩)) (fun A n c => .agg (ansV A n c ⟨0, told⟩)) told.data)).pred (ax.eval (.tmp 41)) (hideL wx rb) wx.heap.size := hmm (7, 41) (List.mem_of_getElem? (i := 3) rfl) (by kernel_rfl)
      exact Reg.mv_mem rfl (Reg.run_mv (.inl rfl) rfl) m41
    · refine Reg.oblB_mem rfl rfl hOK (t := 42) rfl (List.mem_of_getElem? (i := 5) rfl) (by show 42 < 82; decide) (by show 9 < 15; decide) (fun _ _ => trivial) ?_
      intro ax wx rb hx hrb hs hmm
      replace hx : Below W3.heap.size W3 wx := hx.below (Nat.le_refl _) (fun b hb => by cases hb)
      obtain ⟨e33, -⟩ := hs
      have m33 : (Reg.twoM (Reg.byH (blk (some ⟨gA, 0, none⟩)) (fun A n c => .agg (thingV A n c (some ⟨ckd, cda, clo, chi, cva⟩))) cda) (Reg.byH (blk (some ⟨gA, 0, none⟩)) (fun A n c => .agg (ansV A n c ⟨0, told⟩)) told.data)).pred (ax.eval (.tmp 33)) (hideL wx rb) wx.heap.size := hmm (8, 33) (List.mem_of_getElem? (i := 4) rfl) (by kernel_rfl)
      obtain ⟨x0, x1, ex, hp0, hp1⟩ := m33
      exact Reg.mv_mem rfl (Reg.run_ex rfl ex rfl) hp0
    · refine Reg.oblB_mem rfl rfl hOK (t := 43) rfl (List.mem_of_getElem? (i := 6) rfl) (by show 43 < 82; decide) (by show 10 < 15; decide) (fun _ _ => trivial) ?_
      intro ax wx rb hx hrb hs hmm
      replace hx : Below W3.heap.size W3 wx := hx.below (Nat.le_refl _) (fun b hb => by cases hb)
      obtain ⟨e33, -⟩ := hs
      have m33 : (Reg.twoM (Reg.byH (blk (some ⟨gA, 0, none⟩)) (fun A n c => .agg (thingV A n c (some ⟨ckd, cda, clo, chi, cva⟩))) cda) (Reg.byH (blk (some ⟨gA, 0, none⟩)) (fun A n c => .agg (ansV A n c ⟨0, told⟩)) told.data)).pred (ax.eval (.tmp 33)) (hideL wx rb) wx.heap.size := hmm (8, 33) (List.mem_of_getElem? (i := 4) rfl) (by kernel_rfl)
      obtain ⟨x0, x1, ex, hp0, hp1⟩ := m33
      exact Reg.mv_mem rfl (Reg.run_ex rfl ex rfl) hp1
    · refine Reg.oblB_alloc rfl rfl hOK (t := 10) (js := 13) (List.mem_of_getElem? (i := 0) rfl) rfl (by show 10 < 82; decide) (by show 11 < 15; decide) (fun _ _ => trivial) (by rfl) ?_
      intro ax wx hx
      replace hx : Below W3.heap.size W3 wx := hx.below (Nat.le_refl _) (fun b hb => by cases hb)
      exact Reg.al_box rfl (by kernel_rfl)
    · refine Reg.oblB_alloc rfl rfl hOK (t := 11) (js := 14) (List.mem_of_getElem? (i := 1) rfl) rfl (by show 11 < 82; decide) (by show 12 < 15; decide) (fun _ _ => trivial) (by rfl) ?_
      intro ax wx hx
      replace hx : Below W3.heap.size W3 wx := hx.below (Nat.le_refl _) (fun b hb => by cases hb)
      exact Reg.al_box rfl (by kernel_rfl)
    · refine Reg.oblB_store rfl rfl hOK (t := 10) (ja := 11) (List.mem_of_getElem? (i := 0) rfl) rfl (by show 13 < 15; decide) (by kernel_rfl) (fun _ _ => trivial) ?_
      intro ax wx rb g hx hrb hs hmm he hS
      replace hx : Below W3.heap.size W3 wx := hx.below (Nat.le_refl _) (fun b hb => by cases hb)
      obtain ⟨e10, e42, -⟩ := hs
      have m42 : (Reg.byH (blk (some ⟨gA, 0, none⟩)) (fun A n c => .agg (thingV A n c (some ⟨ckd, cda, clo, chi, cva⟩))) cda).pred (ax.eval (.tmp 42)) (hideL wx rb) wx.heap.size := hmm (9, 42) (List.mem_of_getElem? (i := 5) rfl) (by kernel_rfl)
      obtain ⟨A1, n1, c1, e42, hy1⟩ := m42
      exact Reg.st_box rfl (Reg.run_st_box rfl he e42 hS rfl (by kernel_rfl) rfl) rfl ⟨A1, n1, c1, rfl, hy1⟩
    · refine Reg.oblB_store rfl rfl hOK (t := 11) (ja := 12) (List.mem_of_getElem? (i := 1) rfl) rfl (by show 14 < 15; decide) (by kernel_rfl) (fun _ _ => trivial) ?_
      intro ax wx rb g hx hrb hs hmm he hS
      replace hx : Below W3.heap.size W3 wx := hx.below (Nat.le_refl _) (fun b hb => by cases hb)
      obtain ⟨e11, e43, -⟩ := hs
      have m43 : (Reg.byH (blk (some ⟨gA, 0, none⟩)) (fun A n c => .agg (ansV A n c ⟨0, told⟩)) told.data).pred (ax.eval (.tmp 43)) (hideL wx rb) wx.heap.size := hmm (10, 43) (List.mem_of_getElem? (i := 6) rfl) (by kernel_rfl)
      obtain ⟨A1, n1, c1, e43, hy1⟩ := m43
      exact Reg.st_box rfl (Reg.run_st_box rfl he e43 hS rfl (by kernel_rfl) rfl) rfl ⟨A1, n1, c1, rfl, hy1⟩
  · intro W4 listed hwf hall
    simp only [Reg.Fin]
    rintro v34 h34 _ rfl _ rfl v37 h37 v38 h38 _ rfl _ rfl v41 h41 v33 h33 v42 h42 v43 h43 v10 h10 v11 h11 vn13 hn13 vn14 hn14
    intro hJ
    obtain ⟨hJM, hJB, hJN, hJ0⟩ := Reg.bj_end (n := 15) hall (by show ∀ b ∈ ([(11, 10, 13), (12, 11, 14)] : List (Nat × Tmp × Nat)), b.1 < 15 ∧ b.2.2 < 15; decide) (by show ∀ m ∈ ([(0, 34), (3, 37), (4, 38), (7, 41), (8, 33), (9, 42), (10, 43)] : List (Nat × Tmp)), m.1 < 15; decide) (by show ∀ k ∈ ([] : List Nat), k < 15; decide) hJ
    have hm34 : (Reg.rulesM (fun b c => .agg (rulesV b c))).pred v34 W4 W4.heap.size := by have h := hJM (0, 34) (List.mem_of_getElem? (i := 0) rfl); simpa [Act.eval, Act.put] using h
    have hm37 : (Reg.rulesM (fun b c => .agg #[.func (.func f) #[] (cap b c)])).pred v37 W4 W4.heap.size := by have h := hJM (3, 37) (List.mem_of_getElem? (i := 1) rfl); simpa [Act.eval, Act.put] using h
    have hm38 : (Reg.rulesM (fun b c => .func (.func f) #[] (cap b c))).pred v38 W4 W4.heap.size := by have h := hJM (4, 38) (List.mem_of_getElem? (i := 2) rfl); simpa [Act.eval, Act.put] using h
    have hm41 : (Reg.twoM (Reg.byH (blk (some ⟨gA, 0, none⟩)) (fun A n c => .agg (thingV A n c (some ⟨ckd, cda, clo, chi, cva⟩))) cda) (Reg.byH (blk (some ⟨gA, 0, none⟩)) (fun A n c => .agg (ansV A n c ⟨0, told⟩)) told.data)).pred v41 W4 W4.heap.size := by have h := hJM (7, 41) (List.mem_of_getElem? (i := 3) rfl); simpa [Act.eval, Act.put] using h
    have hm33 : (Reg.twoM (Reg.byH (blk (some ⟨gA, 0, none⟩)) (fun A n c => .agg (thingV A n c (some ⟨ckd, cda, clo, chi, cva⟩))) cda) (Reg.byH (blk (some ⟨gA, 0, none⟩)) (fun A n c => .agg (ansV A n c ⟨0, told⟩)) told.data)).pred v33 W4 W4.heap.size := by have h := hJM (8, 33) (List.mem_of_getElem? (i := 4) rfl); simpa [Act.eval, Act.put] using h
    have hm42 : (Reg.byH (blk (some ⟨gA, 0, none⟩)) (fun A n c => .agg (thingV A n c (some ⟨ckd, cda, clo, chi, cva⟩))) cda).pred v42 W4 W4.heap.size := by have h := hJM (9, 42) (List.mem_of_getElem? (i := 5) rfl); simpa [Act.eval, Act.put] using h
    have hm43 : (Reg.byH (blk (some ⟨gA, 0, none⟩)) (fun A n c => .agg (ansV A n c ⟨0, told⟩)) told.data).pred v43 W4 W4.heap.size := by have h := hJM (10, 43) (List.mem_of_getElem? (i := 6) rfl); simpa [Act.eval, Act.put] using h
    obtain ⟨b10, cs10, eb10, hb10, hS10, hX10⟩ := hJB (11, 10, 13) (List.mem_of_getElem? (i := 0) rfl)
    have ec10 : v10 = .pointer (some ⟨b10, 0, none⟩) := by simpa [Act.eval, Act.put] using eb10
    have hX10 : (Reg.rowM (Reg.byH (blk (some ⟨gA, 0, none⟩)) (fun A n c => .agg (thingV A n c (some ⟨ckd, cda, clo, chi, cva⟩))) cda)).pred cs10 W4 W4.heap.size := hX10
    obtain ⟨b11, cs11, eb11, hb11, hS11, hX11⟩ := hJB (12, 11, 14) (List.mem_of_getElem? (i := 1) rfl)
    have ec11 : v11 = .pointer (some ⟨b11, 0, none⟩) := by simpa [Act.eval, Act.put] using eb11
    have hX11 : (Reg.rowM (Reg.byH (blk (some ⟨gA, 0, none⟩)) (fun A n c => .agg (ansV A n c ⟨0, told⟩)) told.data)).pred cs11 W4 W4.heap.size := hX11
    have hne10_11 : b10 ≠ b11 := by have h := hJN (11, 10, 13) (List.mem_of_getElem? (i := 0) rfl) (12, 11, 14) (List.mem_of_getElem? (i := 1) rfl) (by decide); intro e; apply h; rw [eb10, eb11, e]
    clear hJM hJB hJN hJ0 hJ hall eb10 eb11
    subst ec10
    subst ec11
    go_simp
    replace hwf : Below W3.heap.size W3 W4 := Reg.KeepB.below hwf (Nat.le_refl _) (fun b hb => by cases hb)
    have hbw : Below w.heap.size W3 W4 := hwf.mono (by omega)
    have HS0_4 := Lib.hid (HS0_3.out.next hwf)
    have HS1_4 := Lib.hid (HS1_3.out.next hwf)
    have HS2_4 := Lib.hid (HS2_3.out.next hwf)
    have HB_4 := Lib.hid (HB_3.out.trans hbw)
    have hw_4 := HB_4.out.size
    have hws_4 := hbw.size
    have HSn10 := Lib.hid hS10
    clear hS10
    have HSn11 := Lib.hid hS11
    clear hS11
    clear f0_3 HS0_3 hf0_3 f1_3 HS1_3 hf1_3 f2_3 HS2_3
    clear hwf hbw hOK
    obtain ⟨A1, n1, c1, e10, hy1⟩ := hX10
    obtain ⟨A2, n2, c2, e11, hy2⟩ := hX11
    obtain rfl : cs10 = thingV A1 n1 c1 (some ⟨ckd, cda, clo, chi, cva⟩) := Value.agg.inj e10
    obtain rfl : cs11 = ansV A2 n2 c2 ⟨0, told⟩ := Value.agg.inj e11
    clear e10 e11
    have HS3_4 : Hid (Str W4 b10 #[.int .i64 ckd, .slice A1 n1 c1, .int .i64 clo, .int .i64 chi, .int .i64 cva, .bool true]) := HSn10
    have HS4_4 : Hid (Str W4 b11 #[.int .i64 0, .int .i64 told.kind, .slice A2 n2 c2, .int .i64 told.lo, .int .i64 told.hi, .int .i64 told.val]) := HSn11
    clear HSn10 HSn11
    have HYt_4 := Lib.hid ((show BytesH (blk (some ⟨gA, 0, none⟩)) W4 A1 n1 c1 cda from hy1))
    have HYa_4 := Lib.hid ((show BytesH (blk (some ⟨gA, 0, none⟩)) W4 A2 n2 c2 told.data from hy2))
    clear hy1 hy2
    have f0_4 := str6 HS0_4.out
    have hl0_4 := HS0_4.out.lt
    have hf0_4 := fun j => HS0_4.out.frozen j
    have f1_4 := str6 HS1_4.out
    have hl1_4 := HS1_4.out.lt
    have hf1_4 := fun j => HS1_4.out.frozen j
    have f2_4 := str6 HS2_4.out
    have hl2_4 := HS2_4.out.lt
    have f3_4 := str6 HS3_4.out
    have hl3_4 := HS3_4.out.lt
    have f4_4 := str6 HS4_4.out
    have hl4_4 := HS4_4.out.lt
    have hob : ∀ b, w.heap.size ≤ b → (Value.slice (some ⟨gA, 0, none⟩) 0 0).ownBlock ≠ some b := by
      intro b hb2 e
      have := HBL.out b (by
        revert e
        intro e; simp only [Value.ownBlock, Option.some.injEq] at e; simp [blk, e])
      omega
    have hgb : ∀ k, (Value.slice (some ⟨gA, 0, none⟩) 0 0).ownBlock = some k → base ≤ k := by
      intro k e
      simp only [Value.ownBlock, Option.some.injEq] at e; omega
    have hOn := H.out.next HB_4.out
    obtain ⟨g', W5, e, hge, hgl3, hst, hO, hgr, hz5⟩ := hOn.write (P := Tryz.prog) (j := k) (i := 1) (s := (#[.int .i64 ckd, .slice A1 n1 c1, .int .i64 clo, .int .i64 chi, .int .i64 cva] : Array Value).toList) (x := ⟨xk, ⟨ckd, cda, clo, chi, cva⟩⟩) hkl (by show 1 + 5 ≤ 6; omega) (by
        intro v hv
        simp only [List.mem_cons, List.not_mem_nil, or_false] at hv
        rcases hv with rfl | rfl | rfl | rfl | rfl <;> rfl) (by
        intro g vs e hr
        cases e
        obtain ⟨A9, n9, c9, rfl, -⟩ := hr _ HLK.out
        exact ⟨A1, n1, c1, rfl, HYt_4.out, hxk, hin⟩)
    cases e
    have hst5 := run_stS (P := Tryz.prog) (ty := 25) (by kernel_rfl) hst
    rw [show k * PairE.size + 1 = k * 6 + 1 from rfl] at hst5
    clear hst hOn
    go_wp2_with fail
    clear hst5
    have HS0_5 := Lib.hid (HS0_4.out.grownO hgr (hob _ (by omega)))
    have HS1_5 := Lib.hid (HS1_4.out.grownO hgr (hob _ (by omega)))
    have HS2_5 := Lib.hid (HS2_4.out.grownO hgr (hob _ (by omega)))
    have HS3_5 := Lib.hid (HS3_4.out.grownO hgr (hob _ (by omega)))
    have HS4_5 := Lib.hid (HS4_4.out.grownO hgr (hob _ (by omega)))
    have HB_5 : Hid (Below base w W5) := Lib.hid (below_grownO (HB_4.out.mono hb) hgr (by omega) hgb)
    have hw_5 := hgr.size
    have HG_5 := Lib.hid ((grown_below HB_4.out ((Value.slice (some ⟨gA, 0, none⟩) 0 0).ownBlock)).trans hgr)
    have HYa_5 := Lib.hid (BytesH.rowNew (A' := (some ⟨gA, 0, none⟩)) HYa_4.out hgr (.inl rfl))
    have HO_5 := Lib.hid hO
    clear hO hgr
    clear HYt_4
    clear HYa_4
    clear f0_4 HS0_4 hf0_4 f1_4 HS1_4 hf1_4 f2_4 HS2_4 f3_4 HS3_4 f4_4 HS4_4
    have f0_5 := str6 HS0_5.out
    have hl0_5 := HS0_5.out.lt
    have hf0_5 := fun j => HS0_5.out.frozen j
    have f1_5 := str6 HS1_5.out
    have hl1_5 := HS1_5.out.lt
    have hf1_5 := fun j => HS1_5.out.frozen j
    have f2_5 := str6 HS2_5.out
    have hl2_5 := HS2_5.out.lt
    have f3_5 := str6 HS3_5.out
    have hl3_5 := HS3_5.out.lt
    have f4_5 := str6 HS4_5.out
    have hl4_5 := HS4_5.out.lt
    refine Reg.wp_region_tail (R := ext) (W := W5) [Reg.eqv (.slice (some ⟨gA, 0, none⟩) n cA), Reg.eqv (.agg #[.int .i64 0, .int .i64 told.kind, .slice A2 n2 c2, .int .i64 told.lo, .int .i64 told.hi, .int .i64 told.val]), Reg.eqv (.slice (some ⟨gA, 0, none⟩) n cA)] 82 3 _ [[(0, none)], [(11, none)], [(80, some 0)]] rfl (by kernel_rfl) (by kernel_rfl) (by rfl) (by rfl) rfl (by kernel_rfl) ?_ [some 80, some 81, some 4] (by kernel_rfl) ?_
    · refine ⟨?_, ?_, ?_, trivial⟩
      · intro ax wx hx hs
        obtain ⟨e0, -⟩ := hs
        have g0 := Reg.ev (v := .slice (some ⟨gA, 0, none⟩) n cA) e0
        exact Reg.obl_free rfl (Reg.wp_eqv (Option.some_ne_none _) (by go_simp) rfl)
      · intro ax wx hx hs
        obtain ⟨e11, -⟩ := hs
        have g11 := Reg.ev (v := .pointer (some ⟨b11, 0, none⟩)) e11
        obtain ⟨l4_0, l4_1, l4_2, l4_3, l4_4, l4_5⟩ := str6 (HS4_5.out.next hx)
        exact Reg.obl_free rfl (Reg.wp_eqv (Option.some_ne_none _) (by go_simp) rfl)
      · intro ax wx hx hs
        obtain ⟨e80, -⟩ := hs
        have g80 := Reg.ev (v := .slice (some ⟨gA, 0, none⟩) n cA) e80
        exact Reg.obl_free rfl (Reg.wp_eqv (Option.some_ne_none _) (by go_simp) rfl)
    · intro W6 hwf
      simp only [Reg.Fin]
      rintro _ rfl _ rfl _ rfl
      have hwf' : Below W5.heap.size W5 W6 := hwf
      have HS0_6 := Lib.hid (HS0_5.out.next hwf')
      have HS1_6 := Lib.hid (HS1_5.out.next hwf')
      have HS2_6 := Lib.hid (HS2_5.out.next hwf')
      have HS3_6 := Lib.hid (HS3_5.out.next hwf')
      have HS4_6 := Lib.hid (HS4_5.out.next hwf')
      have HB_6 : Hid (Below base w W6) := Lib.hid (HB_5.out.trans (hwf'.mono (by omega)))
      have HO_6 := Lib.hid (HO_5.out.next hwf')
      have HYa_6 := Lib.hid (HYa_5.out.next hwf')
      have hw_6 := hwf'.size
      have HG_6 := Lib.hid (HG_5.out.trans (grown_below hwf' _))
      clear f0_5 HS0_5 hf0_5 f1_5 HS1_5 hf1_5 f2_5 HS2_5 f3_5 HS3_5 f4_5 HS4_5
      clear hwf hwf' HO_5 HYa_5 HB_5
      have f0_6 := str6 HS0_6.out
      have hl0_6 := HS0_6.out.lt
      have hf0_6 := fun j => HS0_6.out.frozen j
      have f1_6 := str6 HS1_6.out
      have hl1_6 := HS1_6.out.lt
      have hf1_6 := fun j => HS1_6.out.frozen j
      have f2_6 := str6 HS2_6.out
      have hl2_6 := HS2_6.out.lt
      have f3_6 := str6 HS3_6.out
      have hl3_6 := HS3_6.out.lt
      have f4_6 := str6 HS4_6.out
      have hl4_6 := HS4_6.out.lt
      refine Reg.Goal.mk ?_
      go_simp
      go_wp2_with fail
      generalize hW7 : ((((((W6).setCell ⟨w.heap.size + 1, 0, none⟩ (.int .i64 0)).setCell ⟨w.heap.size + 1, 1, none⟩ (.int .i64 told.kind)).setCell ⟨w.heap.size + 1, 2, none⟩ (.slice A2 n2 c2)).setCell ⟨w.heap.size + 1, 3, none⟩ (.int .i64 told.lo)).setCell ⟨w.heap.size + 1, 4, none⟩ (.int .i64 told.hi)).setCell ⟨w.heap.size + 1, 5, none⟩ (.int .i64 told.val) = W7
      have hgr : W6.grownBy W7 (some (w.heap.size + 1)) := by rw [← hW7]; exact grown_set (grown_set (grown_set (grown_set (grown_set (grown_set (grown_refl W6 (w.heap.size + 1)) 0 (.int .i64 0)) 1 (.int .i64 told.kind)) 2 (.slice A2 n2 c2)) 3 (.int .i64 told.lo)) 4 (.int .i64 told.hi)) 5 (.int .i64 told.val)
      have HSf : Str W7 (w.heap.size + 1) #[.int .i64 0, .int .i64 told.kind, .slice A2 n2 c2, .int .i64 told.lo, .int .i64 told.hi, .int .i64 told.val] := by rw [← hW7]; have := ((((((HS1_6.out).set 0 (.int .i64 0)).set 1 (.int .i64 told.kind)).set 2 (.slice A2 n2 c2)).set 3 (.int .i64 told.lo)).set 4 (.int .i64 told.hi)).set 5 (.int .i64 told.val); simpa using this
      obtain ⟨r0, r1, r2, r3, r4, r5⟩ := str6 HSf
      clear hW7 HSf
      exact bodyPost_ret (v := .tuple #[.slice (some ⟨gA, 0, none⟩) n cA, .agg #[.int .i64 0, .int .i64 told.kind, .slice A2 n2 c2, .int .i64 told.lo, .int .i64 told.hi, .int .i64 told.val]]) (by simp [results, Tryz.results59, go_sem, *]) rfl ⟨_, _, _, A2, n2, c2, rfl, HO_6.out.grownU PairE_byt HS1_6.out rfl hgr (by intro a e; cases e; show gA ≠ _; omega), BytesH.grown HYa_6.out HS1_6.out rfl hgr, grownNew HG_6.out hgr (by omega), .inl rfl⟩
set_option maxRecDepth 100000 in
set_option maxHeartbeats 2000000 in
theorem step_hasD (A : Option Addr) (n cA base k : Nat) (l : List Pair) (act : Int) (xk : ByteArray) (xdata : List UInt8) (Ax : Option Addr) (nx cx Bx : Nat) (xlo xhi xn : Int) (pkd : Int) (pda : List UInt8) (plo phi pva : Int) (told : Cell) (f : FuncId) (cap : Nat → Nat → Array Value) (w : World) (h : OwnE PairE TPr w base A n cA l) (hb : base ≤ w.heap.size) (hr : ModelP.Rises l) (hn : n ≤ 1000) (hx : Bytes w Bx Ax nx cx xdata) (hBx : Bx ≤ w.heap.size) (hxk : xk.size ≤ maxLen) (hg : ModelP.good ⟨act, xk, xdata, xlo, xhi, xn⟩ = true) (hat : ModelP.at_ l xk = k) (hhas : hasB l xk = true) (hlk : l[k]? = some ⟨xk, ⟨pkd, pda, plo, phi, pva⟩⟩) (hpd : pda.length ≤ 100000) (hix : ∀ b c W, (Instr.index 127 (.agg (rulesV b c)) (.int .i64 act)).run Tryz.prog W = .ok (.agg #[.func (.func f) #[] (cap b c)]) W) (hcf : ∀ args W, (callFunc f args).run Tryz.prog W = .ok (.enter f args) W) (hdo : Does (some ⟨pkd, pda, plo, phi, pva⟩) ⟨act, xk, xdata, xlo, xhi, xn⟩ Ax nx cx f cap) (hR : ModelP.rule (some ⟨pkd, pda, plo, phi, pva⟩) ⟨act, xk, xdata, xlo, xhi, xn⟩ = (0, (none : Option Cell), told)) :
    Calls Tryz.prog 59 #[.slice A n cA, .agg #[.int .i64 act, .string xk, .slice Ax nx cx, .int .i64 xlo, .int .i64 xhi, .int .i64 xn]] w (GivesStep base A w (l.eraseIdx k, ⟨0, told⟩)) := by
  have hcap := h.elemsIn.cap
  have H := Lib.hid h
  have HR := Lib.hid hr
  have HX := Lib.hid hx
  have HL := Lib.hid h.len
  have HLX := Lib.hid hx.len
  have HC : Hid (ModelP.code (ModelP.good ⟨act, xk, xdata, xlo, xhi, xn⟩) = 0) := Lib.hid (by rw [hg]; rfl)
  have HAT := Lib.hid hat
  have HHAS := Lib.hid hhas
  have HIX := Lib.hid hix
  have HDO := Lib.hid hdo
  have HRU := Lib.hid hR
  have HBL := Lib.hid h.blk_lt
  have HGE := Lib.hid h.ge
  have hkn : k ≤ n := by rw [← hat, ← h.len]; exact ModelP.at_le _ _
  have hkl : k < n := by rw [← h.len]; exact (List.getElem?_eq_some_iff.1 hlk).1
  obtain ⟨gA, cur, vs, rfl, hbg, hheap, -⟩ := h.row (by omega)
  have hgl := (Array.getElem?_eq_some_iff.1 hheap).1
  obtain ⟨b', o', p, Ap, np, cp, e, -, hp, hyp, -, hi1, hi2, hi3, hi4, c0, c1, c2, c3, c4, c5⟩ := pair_at h.elemsIn hkl
  cases e
  rw [hlk] at hp
  cases hp
  dsimp only at *
  simp only [Nat.zero_add] at c0 c1 c2 c3 c4 c5
  have HYP : Hid (BytesH (blk (some ⟨gA, 0, none⟩)) w Ap np cp pda) := Lib.hid hyp
  have hnp : np ≤ 100000 := by have := hyp.len; omega
  have HCS := Lib.hid (And.intro c1 (And.intro c2 (And.intro c3 (And.intro c4 c5))))
  have HLK := Lib.hid hlk
  have HIN0 := Lib.hid (And.intro hi1 (And.intro hi2 (And.intro hi3 hi4)))
  clear hyp hheap hlk c0 c1 c2 c3 c4 c5
  clear h hr hx hg hat hhas hix hdo hR
  go_enter Tryz.func59, Tryz.ntmps59
  go_wp2_with fail
  generalize hW0 : ((w).alloc (.cells #[.int .i64 act, .string xk, .slice Ax nx cx, .int .i64 xlo, .int .i64 xhi, .int .i64 xn] 62)).alloc (.cells #[.int .i64 0, .int .i64 0, .slice none 0 0, .int .i64 0, .int .i64 0, .int .i64 0] 58) = W0
  obtain ⟨HS0_0, HS1_0, HB_0, hw_0, hz0⟩ := new2 hW0
  clear hW0 hz0
  have f0_0 := str6 HS0_0.out
  have hl0_0 := HS0_0.out.lt
  have hf0_0 := fun j => HS0_0.out.frozen j
  have f1_0 := str6 HS1_0.out
  have hl1_0 := HS1_0.out.lt
  have hf1_0 := fun j => HS1_0.out.frozen j
  refine (check_any ⟨act, xk, xdata, xlo, xhi, xn⟩ Ax nx cx _ HLX.out hxk).mono ?_
  rintro e W1 ⟨rfl, hb1⟩
  rw [HC.out]
  have HS0_1 := Lib.hid (HS0_0.out.next hb1)
  have HS1_1 := Lib.hid (HS1_0.out.next hb1)
  have HB_1 := Lib.hid (bstep HB_0.out hb1)
  have hw_1 := HB_1.out.size
  have hws_1 := (hb1).size
  clear f0_0 HS0_0 hf0_0 f1_0 HS1_0 hf1_0
  clear hb1
  have f0_1 := str6 HS0_1.out
  have hl0_1 := HS0_1.out.lt
  have hf0_1 := fun j => HS0_1.out.frozen j
  have f1_1 := str6 HS1_1.out
  have hl1_1 := HS1_1.out.lt
  have hf1_1 := fun j => HS1_1.out.frozen j
  go_wp2_with fail
  refine (place_any (some ⟨gA, 0, none⟩) n cA w.heap.size l xk _ (H.out.elems.below HB_1.out) HB_1.out.size HR.out (by omega)).mono ?_
  rintro e W2 ⟨rfl, hb2⟩
  rw [HAT.out, HHAS.out]
  have HS0_2 := Lib.hid (HS0_1.out.next hb2)
  have HS1_2 := Lib.hid (HS1_1.out.next hb2)
  have HB_2 := Lib.hid (bstep HB_1.out hb2)
  have hw_2 := HB_2.out.size
  have hws_2 := (hb2).size
  clear f0_1 HS0_1 hf0_1 f1_1 HS1_1 hf1_1
  clear hb2
  have f0_2 := str6 HS0_2.out
  have hl0_2 := HS0_2.out.lt
  have hf0_2 := fun j => HS0_2.out.frozen j
  have f1_2 := str6 HS1_2.out
  have hl1_2 := HS1_2.out.lt
  have hf1_2 := fun j => HS1_2.out.frozen j
  obtain ⟨d1, d2, d3, d4, d5⟩ := HCS.out
  have dd1 := (HB_2.out.cell (p := ⟨gA, k * 6 + 1, none⟩) hgl).trans d1
  have dd2 := (HB_2.out.cell (p := ⟨gA, k * 6 + 2, none⟩) hgl).trans d2
  have dd3 := (HB_2.out.cell (p := ⟨gA, k * 6 + 3, none⟩) hgl).trans d3
  have dd4 := (HB_2.out.cell (p := ⟨gA, k * 6 + 4, none⟩) hgl).trans d4
  have dd5 := (HB_2.out.cell (p := ⟨gA, k * 6 + 5, none⟩) hgl).trans d5
  have hgl2 : gA < W2.heap.size := by omega
  clear d1 d2 d3 d4 d5
  go_wp2_with fail
  generalize hW3 : W2.alloc (.cells #[.int .i64 pkd, .slice Ap np cp, .int .i64 plo, .int .i64 phi, .int .i64 pva, .bool true] 122) = W3
  have HS0_3 := sEq hW3 (HS0_2.out.alloc _)
  have HS1_3 := sEq hW3 (HS1_2.out.alloc _)
  have HS2_3 := sEq hW3 (Str.new _ _ _)
  have hba3 : Below W2.heap.size W2 W3 := by rw [← hW3]; exact balloc (bsame _) _
  have HB_3 := Lib.hid (bstep HB_2.out hba3)
  have hw_3 := HB_3.out.size
  have hws_3 := hba3.size
  clear hW3
  clear f0_2 HS0_2 hf0_2 f1_2 HS1_2 hf1_2
  have f0_3 := str6 HS0_3.out
  have hl0_3 := HS0_3.out.lt
  have hf0_3 := fun j => HS0_3.out.frozen j
  have f1_3 := str6 HS1_3.out
  have hl1_3 := HS1_3.out.lt
  have hf1_3 := fun j => HS1_3.out.frozen j
  have f2_3 := str6 HS2_3.out
  have hl2_3 := HS2_3.out.lt
  clear dd1 dd2 dd3 dd4 dd5
  have hOK : Reg.okS W3.heap.size (Reg.BxS.mk [(11, 10, 13), (12, 11, 14)] (fun t => if t = 10 then #[.int .i64 0, .slice none 0 0, .int .i64 0, .int .i64 0, .int .i64 0, .bool false] else if t = 11 then #[.int .i64 0, .int .i64 0, .slice none 0 0, .int .i64 0, .int .i64 0, .int .i64 0] else #[]) (fun t => if t = 10 then (Reg.rowM (Reg.byH (blk (some ⟨gA, 0, none⟩)) (fun A n c => .agg (thingV A n c (none : Option Cell))) [])) else if t = 11 then (Reg.rowM (Reg.byH (blk (some ⟨gA, 0, none⟩)) (fun A n c => .agg (ansV A n c ⟨0, told⟩)) told.data)) else (Reg.rowM (Reg.eqM undef))) [(0, 34), (3, 37), (4, 38), (7, 41), (8, 33), (9, 42), (10, 43)] (fun t => if t = 34 then (Reg.rulesM (fun b c => .agg (rulesV b c))) else if t = 37 then (Reg.rulesM (fun b c => .agg #[.func (.func f) #[] (cap b c)])) else if t = 38 then (Reg.rulesM (fun b c => .func (.func f) #[] (cap b c))) else if t = 41 then (Reg.twoM (Reg.byH (blk (some ⟨gA, 0, none⟩)) (fun A n c => .agg (thingV A n c (none : Option Cell))) []) (Reg.byH (blk (some ⟨gA, 0, none⟩)) (fun A n c => .agg (ansV A n c ⟨0, told⟩)) told.data)) else if t = 33 then (Reg.twoM (Reg.byH (blk (some ⟨gA, 0, none⟩)) (fun A n c => .agg (thingV A n c (none : Option Cell))) []) (Reg.byH (blk (some ⟨gA, 0, none⟩)) (fun A n c => .agg (ansV A n c ⟨0, told⟩)) told.data)) else if t = 42 then (Reg.byH (blk (some ⟨gA, 0, none⟩)) (fun A n c => .agg (thingV A n c (none : Option Cell))) []) else if t = 43 then (Reg.byH (blk (some ⟨gA, 0, none⟩)) (fun A n c => .agg (ansV A n c ⟨0, told⟩)) told.data) else (Reg.eqM undef)) []) := Reg.okS_of rfl List.Pairwise.nil (fun k hk => by cases hk)
  refine Reg.wp_region_box (R := (Reg.extB W3.heap.size (Reg.BxS.b0 (Reg.BxS.mk [(11, 10, 13), (12, 11, 14)] (fun t => if t = 10 then #[.int .i64 0, .slice none 0 0, .int .i64 0, .int .i64 0, .int .i64 0, .bool false] else if t = 11 then #[.int .i64 0, .int .i64 0, .slice none 0 0, .int .i64 0, .int .i64 0, .int .i64 0] else #[]) (fun t => if t = 10 then (Reg.rowM (Reg.byH (blk (some ⟨gA, 0, none⟩)) (fun A n c => .agg (thingV A n c (none : Option Cell))) [])) else if t = 11 then (Reg.rowM (Reg.byH (blk (some ⟨gA, 0, none⟩)) (fun A n c => .agg (ansV A n c ⟨0, told⟩)) told.data)) else (Reg.rowM (Reg.eqM undef))) [(0, 34), (3, 37), (4, 38), (7, 41), (8, 33), (9, 42), (10, 43)] (fun t => if t = 34 then (Reg.rulesM (fun b c => .agg (rulesV b c))) else if t = 37 then (Reg.rulesM (fun b c => .agg #[.func (.func f) #[] (cap b c)])) else if t = 38 then (Reg.rulesM (fun b c => .func (.func f) #[] (cap b c))) else if t = 41 then (Reg.twoM (Reg.byH (blk (some ⟨gA, 0, none⟩)) (fun A n c => .agg (thingV A n c (none : Option Cell))) []) (Reg.byH (blk (some ⟨gA, 0, none⟩)) (fun A n c => .agg (ansV A n c ⟨0, told⟩)) told.data)) else if t = 33 then (Reg.twoM (Reg.byH (blk (some ⟨gA, 0, none⟩)) (fun A n c => .agg (thingV A n c (none : Option Cell))) []) (Reg.byH (blk (some ⟨gA, 0, none⟩)) (fun A n c => .agg (ansV A n c ⟨0, told⟩)) told.data)) else if t = 42 then (Reg.byH (blk (some ⟨gA, 0, none⟩)) (fun A n c => .agg (thingV A n c (none : Option Cell))) []) else if t = 43 then (Reg.byH (blk (some ⟨gA, 0, none⟩)) (fun A n c => .agg (ansV A n c ⟨0, told⟩)) told.data) else (Reg.eqM undef)) [])))) (W := W3) (Reg.BJ W3.heap.size (Reg.BxS.mk [(11, 10, 13), (12, 11, 14)] (fun t => if t = 10 then #[.int .i64 0, .slice none 0 0, .int .i64 0, .int .i64 0, .int .i64 0, .bool false] else if t = 11 then #[.int .i64 0, .int .i64 0, .slice none 0 0, .int .i64 0, .int .i64 0, .int .i64 0] else #[]) (fun t => if t = 10 then (Reg.rowM (Reg.byH (blk (some ⟨gA, 0, none⟩)) (fun A n c => .agg (thingV A n c (none : Option Cell))) [])) else if t = 11 then (Reg.rowM (Reg.byH (blk (some ⟨gA, 0, none⟩)) (fun A n c => .agg (ansV A n c ⟨0, told⟩)) told.data)) else (Reg.rowM (Reg.eqM undef))) [(0, 34), (3, 37), (4, 38), (7, 41), (8, 33), (9, 42), (10, 43)] (fun t => if t = 34 then (Reg.rulesM (fun b c => .agg (rulesV b c))) else if t = 37 then (Reg.rulesM (fun b c => .agg #[.func (.func f) #[] (cap b c)])) else if t = 38 then (Reg.rulesM (fun b c => .func (.func f) #[] (cap b c))) else if t = 41 then (Reg.twoM (Reg.byH (blk (some ⟨gA, 0, none⟩)) (fun A n c => .agg (thingV A n c (none : Option Cell))) []) (Reg.byH (blk (some ⟨gA, 0, none⟩)) (fun A n c => .agg (ansV A n c ⟨0, told⟩)) told.data)) else if t = 33 then (Reg.twoM (Reg.byH (blk (some ⟨gA, 0, none⟩)) (fun A n c => .agg (thingV A n c (none : Option Cell))) []) (Reg.byH (blk (some ⟨gA, 0, none⟩)) (fun A n c => .agg (ansV A n c ⟨0, told⟩)) told.data)) else if t = 42 then (Reg.byH (blk (some ⟨gA, 0, none⟩)) (fun A n c => .agg (thingV A n c (none : Option Cell))) []) else if t = 43 then (Reg.byH (blk (some ⟨gA, 0, none⟩)) (fun A n c => .agg (ansV A n c ⟨0, told⟩)) told.data) else (Reg.eqM undef)) [])) [Reg.any, Reg.eqv (.pointer (some ⟨w.heap.size, 0, none⟩)), Reg.eqv (.int .i64 act), Reg.any, Reg.any, Reg.eqv (.agg #[.int .i64 pkd, .slice Ap np cp, .int .i64 plo, .int .i64 phi, .int .i64 pva, .bool true]), Reg.eqv (.agg #[.int .i64 act, .string xk, .slice Ax nx cx, .int .i64 xlo, .int .i64 xhi, .int .i64 xn]), Reg.any, Reg.any, Reg.any, Reg.any, Reg.any, Reg.any, Reg.any, Reg.any] 82 [[], [(3, none)], [(35, some 1)], [(34, some 0), (36, some 2)], [(37, some 3)], [(9, none)], [(3, none)], [(38, some 4), (39, some 5), (40, some 6)], [(41, some 7)], [(33, some 8)], [(33, some 8)], [], [], [(10, some 11), (42, some 9)], [(11, some 12), (43, some 10)]] rfl (by kernel_rfl) (by kernel_rfl) (fun _ h => Reg.bj_zero (fun k hk => by cases hk) h) (by kernel_rfl) ?_ [some 34, some 35, some 36, some 37, some 38, some 39, some 40, some 41, some 33, some 42, some 43, some 10, some 11, none, none] (by kernel_rfl) ?_
  · refine ⟨?_, ?_, ?_, ?_, ?_, ?_, ?_, ?_, ?_, ?_, ?_, ?_, ?_, ?_, ?_, trivial⟩
    · refine Reg.oblB_mem rfl rfl hOK (t := 34) rfl (List.mem_of_getElem? (i := 0) rfl) (by show 34 < 82; decide) (by show 0 < 15; decide) (fun _ _ => trivial) ?_
      intro ax wx rb hx hrb hs hmm
      replace hx : Below W3.heap.size W3 wx := hx.below (Nat.le_refl _) (fun b hb => by cases hb)
      go_simp
      refine (rules_any _).mono ?_
      rintro e wy ⟨b, c, rfl, hb1, hc1, hS1, hS2, hby⟩
      refine ⟨_, rfl, hby, b, c, rfl, hS1.lt, hS2.lt, ?_, ?_⟩
      · exact (hideL_out wy ⟨b, 0, none⟩ rb (fun hm => by have := (hrb b hm).2.1; omega)).trans (str1 hS1)
      · exact (hideL_out wy ⟨c, 0, none⟩ rb (fun hm => by have := (hrb c hm).2.1; omega)).trans (str1 hS2)
    · refine Reg.oblB_pure rfl rfl rfl ?_
      intro ax wx hx hs hmm
      replace hx : Below W3.heap.size W3 wx := hx.below (Nat.le_refl _) (fun b hb => by cases hb)
      obtain ⟨e3, -⟩ := hs
      have g3 := Reg.ev (v := .pointer (some ⟨w.heap.size, 0, none⟩)) e3
      exact (Reg.wp_eqvB (Option.some_ne_none _) (by go_simp) rfl)
    · refine Reg.oblB_pure rfl rfl rfl ?_
      intro ax wx hx hs hmm
      replace hx : Below W3.heap.size W3 wx := hx.below (Nat.le_refl _) (fun b hb => by cases hb)
      obtain ⟨e35, -⟩ := hs
      have g35 := Reg.ev (v := .pointer (some ⟨w.heap.size, 0, none⟩)) e35
      obtain ⟨l0_0, l0_1, l0_2, l0_3, l0_4, l0_5⟩ := str6 ((HS0_3.out.next hx))
      obtain ⟨l1_0, l1_1, l1_2, l1_3, l1_4, l1_5⟩ := str6 ((HS1_3.out.next hx))
      obtain ⟨l2_0, l2_1, l2_2, l2_3, l2_4, l2_5⟩ := str6 ((HS2_3.out.next hx))
      exact (Reg.wp_eqvB (Option.some_ne_none _) (by go_simp) rfl)
    · refine Reg.oblB_mem rfl rfl hOK (t := 37) rfl (List.mem_of_getElem? (i := 1) rfl) (by show 37 < 82; decide) (by show 3 < 15; decide) (fun _ _ => trivial) ?_
      intro ax wx rb hx hrb hs hmm
      replace hx : Below W3.heap.size W3 wx := hx.below (Nat.le_refl _) (fun b hb => by cases hb)
      obtain ⟨e34, e36, -⟩ := hs
      have g36 := Reg.ev (v := .int .i64 act) e36
      have m34 : (Reg.rulesM (fun b c => .agg (rulesV b c))).pred (ax.eval (.tmp 34)) (hideL wx rb) wx.heap.size := hmm (0, 34) (List.mem_of_getElem? (i := 0) rfl) (by kernel_rfl)
      obtain ⟨b, c, e34, h1, h2, h3, h4⟩ := m34
      exact Reg.mv_mem rfl (Reg.run_ix rfl e34 e36 (HIX.out b c wx)) ⟨b, c, rfl, h1, h2, h3, h4⟩
    · refine Reg.oblB_mem rfl rfl hOK (t := 38) rfl (List.mem_of_getElem? (i := 2) rfl) (by show 38 < 82; decide) (by show 4 < 15; decide) (fun _ _ => trivial) ?_
      intro ax wx rb hx hrb hs hmm
      replace hx : Below W3.heap.size W3 wx := hx.below (Nat.le_refl _) (fun b hb => by cases hb)
      obtain ⟨e37, -⟩ := hs
      have m37 : (Reg.rulesM (fun b c => .agg #[.func (.func f) #[] (cap b c)])).pred (ax.eval (.tmp 37)) (hideL wx rb) wx.heap.size := hmm (3, 37) (List.mem_of_getElem? (i := 1) rfl) (by kernel_rfl)
      obtain ⟨b, c, e37, h1, h2, h3, h4⟩ := m37
      have g37 := Reg.ev e37
      exact Reg.mv_mem rfl (Reg.run_fl rfl e37 (fieldR _ _)) ⟨b, c, rfl, h1, h2, h3, h4⟩
    · refine Reg.oblB_pure rfl rfl rfl ?_
      intro ax wx hx hs hmm
      replace hx : Below W3.heap.size W3 wx := hx.below (Nat.le_refl _) (fun b hb => by cases hb)
      obtain ⟨e9, -⟩ := hs
      have g9 := Reg.ev (v := .pointer (some ⟨W2.heap.size, 0, none⟩)) e9
      obtain ⟨l0_0, l0_1, l0_2, l0_3, l0_4, l0_5⟩ := str6 ((HS0_3.out.next hx))
      obtain ⟨l1_0, l1_1, l1_2, l1_3, l1_4, l1_5⟩ := str6 ((HS1_3.out.next hx))
      obtain ⟨l2_0, l2_1, l2_2, l2_3, l2_4, l2_5⟩ := str6 ((HS2_3.out.next hx))
      exact (Reg.wp_eqvB (Option.some_ne_none _) (by go_simp) rfl)
    · refine Reg.oblB_pure rfl rfl rfl ?_
      intro ax wx hx hs hmm
      replace hx : Below W3.heap.size W3 wx := hx.below (Nat.le_refl _) (fun b hb => by cases hb)
      obtain ⟨e3, -⟩ := hs
      have g3 := Reg.ev (v := .pointer (some ⟨w.heap.size, 0, none⟩)) e3
      obtain ⟨l0_0, l0_1, l0_2, l0_3, l0_4, l0_5⟩ := str6 ((HS0_3.out.next hx))
      obtain ⟨l1_0, l1_1, l1_2, l1_3, l1_4, l1_5⟩ := str6 ((HS1_3.out.next hx))
      obtain ⟨l2_0, l2_1, l2_2, l2_3, l2_4, l2_5⟩ := str6 ((HS2_3.out.next hx))
      exact (Reg.wp_eqvB (Option.some_ne_none _) (by go_simp) rfl)
    · refine Reg.oblB_mem rfl rfl hOK (t := 41) rfl (List.mem_of_getElem? (i := 3) rfl) (by show 41 < 82; decide) (by show 7 < 15; decide) (fun _ _ => trivial) ?_
      intro ax wx rb hx hrb hs hmm
      replace hx : Below W3.heap.size W3 wx := hx.below (Nat.le_refl _) (fun b hb => by cases hb)
      obtain ⟨e38, e39, e40, -⟩ := hs
      have g39 := Reg.ev (v := .agg #[.int .i64 pkd, .slice Ap np cp, .int .i64 plo, .int .i64 phi, .int .i64 pva, .bool true]) e39
      have g40 := Reg.ev (v := .agg #[.int .i64 act, .string xk, .slice Ax nx cx, .int .i64 xlo, .int .i64 xhi, .int .i64 xn]) e40
      have m38 : (Reg.rulesM (fun b c => .func (.func f) #[] (cap b c))).pred (ax.eval (.tmp 38)) (hideL wx rb) wx.heap.size := hmm (4, 38) (List.mem_of_getElem? (i := 2) rfl) (by kernel_rfl)
      obtain ⟨b, c, e38, h1, h2, h3, h4⟩ := m38
      have g38 := Reg.ev e38
      have hsx := Below.size hx
      have hD := HDO.out ((blk (some ⟨gA, 0, none⟩)) ++ rb) Ap np cp b c Bx wx (by
        intro q hq
        rcases List.mem_append.1 hq with hq | hq
        · have := HBL.out q hq; omega
        · exact (hrb q hq).2.1) (BytesH.app (HYP.out.next ((HB_3.out).trans (hx.mono (by omega)))) rb (fun b hb => (hrb b hb).2.2) ) (by omega) h1 h2 (sub_hideL wx.heap.size wx rb _ _ h1 h3) (sub_hideL wx.heap.size wx rb _ _ h2 h4) (HX.out.below ((HB_3.out.mono hBx).trans (hx.mono (by omega)))) (by omega)
      rw [HRU.out] at hD
      dsimp only at hD
      go_simp
      refine hD.mono ?_
      rintro e wy ⟨A1, n1, c1, A2, n2, c2, rfl, hy1, hy2, hby⟩
      unfold BytesH at hy1 hy2
      rw [hideL_append] at hy1 hy2
      exact ⟨_, rfl, hby, _, _, rfl, ⟨A1, n1, c1, rfl, hy1⟩, ⟨A2, n2, c2, rfl, hy2⟩⟩
    · refine Reg.oblB_mem rfl rfl hOK (t := 33) rfl (List.mem_of_getElem? (i := 4) rfl) (by show 33 < 82; decide) (by show 8 < 15; decide) (fun _ _ => trivial) ?_
      intro ax wx rb hx hrb hs hmm
      replace hx : Below W3.heap.size W3 wx := hx.below (Nat.le_refl _) (fun b hb => by cases hb)
      obtain ⟨e41, -⟩ := hs
      have m41 : (Reg.twoM (Reg.byH (blk (some ⟨gA, 0, none⟩)) (fun A n c => .agg (thingV A n c (none : Option Cell))) []) (Reg.byH (blk (some ⟨gA, 0, none⟩)) (fun A n c => .agg (ansV A n c ⟨0, told⟩)) told.data)).pred (ax.eval (.tmp 41)) (hideL wx rb) wx.heap.size := hmm (7, 41) (List.mem_of_getElem? (i := 3) rfl) (by kernel_rfl)
      exact Reg.mv_mem rfl (Reg.run_mv (.inl rfl) rfl) m41
    · refine Reg.oblB_mem rfl rfl hOK (t := 42) rfl (List.mem_of_getElem? (i := 5) rfl) (by show 42 < 82; decide) (by show 9 < 15; decide) (fun _ _ => trivial) ?_
      intro ax wx rb hx hrb hs hmm
      replace hx : Below W3.heap.size W3 wx := hx.below (Nat.le_refl _) (fun b hb => by cases hb)
      obtain ⟨e33, -⟩ := hs
      have m33 : (Reg.twoM (Reg.byH (blk (some ⟨gA, 0, none⟩)) (fun A n c => .agg (thingV A n c (none : Option Cell))) []) (Reg.byH (blk (some ⟨gA, 0, none⟩)) (fun A n c => .agg (ansV A n c ⟨0, told⟩)) told.data)).pred (ax.eval (.tmp 33)) (hideL wx rb) wx.heap.size := hmm (8, 33) (List.mem_of_getElem? (i := 4) rfl) (by kernel_rfl)
      obtain ⟨x0, x1, ex, hp0, hp1⟩ := m33
      exact Reg.mv_mem rfl (Reg.run_ex rfl ex rfl) hp0
    · refine Reg.oblB_mem rfl rfl hOK (t := 43) rfl (List.mem_of_getElem? (i := 6) rfl) (by show 43 < 82; decide) (by show 10 < 15; decide) (fun _ _ => trivial) ?_
      intro ax wx rb hx hrb hs hmm
      replace hx : Below W3.heap.size W3 wx := hx.below (Nat.le_refl _) (fun b hb => by cases hb)
      obtain ⟨e33, -⟩ := hs
      have m33 : (Reg.twoM (Reg.byH (blk (some ⟨gA, 0, none⟩)) (fun A n c => .agg (thingV A n c (none : Option Cell))) []) (Reg.byH (blk (some ⟨gA, 0, none⟩)) (fun A n c => .agg (ansV A n c ⟨0, told⟩)) told.data)).pred (ax.eval (.tmp 33)) (hideL wx rb) wx.heap.size := hmm (8, 33) (List.mem_of_getElem? (i := 4) rfl) (by kernel_rfl)
      obtain ⟨x0, x1, ex, hp0, hp1⟩ := m33
      exact Reg.mv_mem rfl (Reg.run_ex rfl ex rfl) hp1
    · refine Reg.oblB_alloc rfl rfl hOK (t := 10) (js := 13) (List.mem_of_getElem? (i := 0) rfl) rfl (by show 10 < 82; decide) (by show 11 < 15; decide) (fun _ _ => trivial) (by rfl) ?_
      intro ax wx hx
      replace hx : Below W3.heap.size W3 wx := hx.below (Nat.le_refl _) (fun b hb => by cases hb)
      exact Reg.al_box rfl (by kernel_rfl)
    · refine Reg.oblB_alloc rfl rfl hOK (t := 11) (js := 14) (List.mem_of_getElem? (i := 1) rfl) rfl (by show 11 < 82; decide) (by show 12 < 15; decide) (fun _ _ => trivial) (by rfl) ?_
      intro ax wx hx
      replace hx : Below W3.heap.size W3 wx := hx.below (Nat.le_refl _) (fun b hb => by cases hb)
      exact Reg.al_box rfl (by kernel_rfl)
    · refine Reg.oblB_store rfl rfl hOK (t := 10) (ja := 11) (List.mem_of_getElem? (i := 0) rfl) rfl (by show 13 < 15; decide) (by kernel_rfl) (fun _ _ => trivial) ?_
      intro ax wx rb g hx hrb hs hmm he hS
      replace hx : Below W3.heap.size W3 wx := hx.below (Nat.le_refl _) (fun b hb => by cases hb)
      obtain ⟨e10, e42, -⟩ := hs
      have m42 : (Reg.byH (blk (some ⟨gA, 0, none⟩)) (fun A n c => .agg (thingV A n c (none : Option Cell))) []).pred (ax.eval (.tmp 42)) (hideL wx rb) wx.heap.size := hmm (9, 42) (List.mem_of_getElem? (i := 5) rfl) (by kernel_rfl)
      obtain ⟨A1, n1, c1, e42, hy1⟩ := m42
      exact Reg.st_box rfl (Reg.run_st_box rfl he e42 hS rfl (by kernel_rfl) rfl) rfl ⟨A1, n1, c1, rfl, hy1⟩
    · refine Reg.oblB_store rfl rfl hOK (t := 11) (ja := 12) (List.mem_of_getElem? (i := 1) rfl) rfl (by show 14 < 15; decide) (by kernel_rfl) (fun _ _ => trivial) ?_
      intro ax wx rb g hx hrb hs hmm he hS
      replace hx : Below W3.heap.size W3 wx := hx.below (Nat.le_refl _) (fun b hb => by cases hb)
      obtain ⟨e11, e43, -⟩ := hs
      have m43 : (Reg.byH (blk (some ⟨gA, 0, none⟩)) (fun A n c => .agg (ansV A n c ⟨0, told⟩)) told.data).pred (ax.eval (.tmp 43)) (hideL wx rb) wx.heap.size := hmm (10, 43) (List.mem_of_getElem? (i := 6) rfl) (by kernel_rfl)
      obtain ⟨A1, n1, c1, e43, hy1⟩ := m43
      exact Reg.st_box rfl (Reg.run_st_box rfl he e43 hS rfl (by kernel_rfl) rfl) rfl ⟨A1, n1, c1, rfl, hy1⟩
  · intro W4 listed hwf hall
    simp only [Reg.Fin]
    rintro v34 h34 _ rfl _ rfl v37 h37 v38 h38 _ rfl _ rfl v41 h41 v33 h33 v42 h42 v43 h43 v10 h10 v11 h11 vn13 hn13 vn14 hn14
    intro hJ
    obtain ⟨hJM, hJB, hJN, hJ0⟩ := Reg.bj_end (n := 15) hall (by show ∀ b ∈ ([(11, 10, 13), (12, 11, 14)] : List (Nat × Tmp × Nat)), b.1 < 15 ∧ b.2.2 < 15; decide) (by show ∀ m ∈ ([(0, 34), (3, 37), (4, 38), (7, 41), (8, 33), (9, 42), (10, 43)] : List (Nat × Tmp)), m.1 < 15; decide) (by show ∀ k ∈ ([] : List Nat), k < 15; decide) hJ
    have hm34 : (Reg.rulesM (fun b c => .agg (rulesV b c))).pred v34 W4 W4.heap.size := by have h := hJM (0, 34) (List.mem_of_getElem? (i := 0) rfl); simpa [Act.eval, Act.put] using h
    have hm37 : (Reg.rulesM (fun b c => .agg #[.func (.func f) #[] (cap b c)])).pred v37 W4 W4.heap.size := by have h := hJM (3, 37) (List.mem_of_getElem? (i := 1) rfl); simpa [Act.eval, Act.put] using h
    have hm38 : (Reg.rulesM (fun b c => .func (.func f) #[] (cap b c))).pred v38 W4 W4.heap.size := by have h := hJM (4, 38) (List.mem_of_getElem? (i := 2) rfl); simpa [Act.eval, Act.put] using h
    have hm41 : (Reg.twoM (Reg.byH (blk (some ⟨gA, 0, none⟩)) (fun A n c => .agg (thingV A n c (none : Option Cell))) []) (Reg.byH (blk (some ⟨gA, 0, none⟩)) (fun A n c => .agg (ansV A n c ⟨0, told⟩)) told.data)).pred v41 W4 W4.heap.size := by have h := hJM (7, 41) (List.mem_of_getElem? (i := 3) rfl); simpa [Act.eval, Act.put] using h
    have hm33 : (Reg.twoM (Reg.byH (blk (some ⟨gA, 0, none⟩)) (fun A n c => .agg (thingV A n c (none : Option Cell))) []) (Reg.byH (blk (some ⟨gA, 0, none⟩)) (fun A n c => .agg (ansV A n c ⟨0, told⟩)) told.data)).pred v33 W4 W4.heap.size := by have h := hJM (8, 33) (List.mem_of_getElem? (i := 4) rfl); simpa [Act.eval, Act.put] using h
    have hm42 : (Reg.byH (blk (some ⟨gA, 0, none⟩)) (fun A n c => .agg (thingV A n c (none : Option Cell))) []).pred v42 W4 W4.heap.size := by have h := hJM (9, 42) (List.mem_of_getElem? (i := 5) rfl); simpa [Act.eval, Act.put] using h
    have hm43 : (Reg.byH (blk (some ⟨gA, 0, none⟩)) (fun A n c => .agg (ansV A n c ⟨0, told⟩)) told.data).pred v43 W4 W4.heap.size := by have h := hJM (10, 43) (List.mem_of_getElem? (i := 6) rfl); simpa [Act.eval, Act.put] using h
    obtain ⟨b10, cs10, eb10, hb10, hS10, hX10⟩ := hJB (11, 10, 13) (List.mem_of_getElem? (i := 0) rfl)
    have ec10 : v10 = .pointer (some ⟨b10, 0, none⟩) := by simpa [Act.eval, Act.put] using eb10
    have hX10 : (Reg.rowM (Reg.byH (blk (some ⟨gA, 0, none⟩)) (fun A n c => .agg (thingV A n c (none : Option Cell))) [])).pred cs10 W4 W4.heap.size := hX10
    obtain ⟨b11, cs11, eb11, hb11, hS11, hX11⟩ := hJB (12, 11, 14) (List.mem_of_getElem? (i := 1) rfl)
    have ec11 : v11 = .pointer (some ⟨b11, 0, none⟩) := by simpa [Act.eval, Act.put] using eb11
    have hX11 : (Reg.rowM (Reg.byH (blk (some ⟨gA, 0, none⟩)) (fun A n c => .agg (ansV A n c ⟨0, told⟩)) told.data)).pred cs11 W4 W4.heap.size := hX11
    have hne10_11 : b10 ≠ b11 := by have h := hJN (11, 10, 13) (List.mem_of_getElem? (i := 0) rfl) (12, 11, 14) (List.mem_of_getElem? (i := 1) rfl) (by decide); intro e; apply h; rw [eb10, eb11, e]
    clear hJM hJB hJN hJ0 hJ hall eb10 eb11
    subst ec10
    subst ec11
    go_simp
    replace hwf : Below W3.heap.size W3 W4 := Reg.KeepB.below hwf (Nat.le_refl _) (fun b hb => by cases hb)
    have hbw : Below w.heap.size W3 W4 := hwf.mono (by omega)
    have HS0_4 := Lib.hid (HS0_3.out.next hwf)
    have HS1_4 := Lib.hid (HS1_3.out.next hwf)
    have HS2_4 := Lib.hid (HS2_3.out.next hwf)
    have HB_4 := Lib.hid (HB_3.out.trans hbw)
    have hw_4 := HB_4.out.size
    have hws_4 := hbw.size
    have HSn10 := Lib.hid hS10
    clear hS10
    have HSn11 := Lib.hid hS11
    clear hS11
    clear f0_3 HS0_3 hf0_3 f1_3 HS1_3 hf1_3 f2_3 HS2_3
    clear hwf hbw hOK
    obtain ⟨A1, n1, c1, e10, hy1⟩ := hX10
    obtain ⟨A2, n2, c2, e11, hy2⟩ := hX11
    obtain rfl : cs10 = thingV A1 n1 c1 (none : Option Cell) := Value.agg.inj e10
    obtain rfl : cs11 = ansV A2 n2 c2 ⟨0, told⟩ := Value.agg.inj e11
    clear e10 e11
    have HS3_4 : Hid (Str W4 b10 #[.int .i64 0, .slice none 0 0, .int .i64 0, .int .i64 0, .int .i64 0, .bool false]) := HSn10
    have HS4_4 : Hid (Str W4 b11 #[.int .i64 0, .int .i64 told.kind, .slice A2 n2 c2, .int .i64 told.lo, .int .i64 told.hi, .int .i64 told.val]) := HSn11
    clear HSn10 HSn11
    have HYt_4 := Lib.hid ((show BytesH (blk (some ⟨gA, 0, none⟩)) W4 A1 n1 c1 [] from hy1))
    have HYa_4 := Lib.hid ((show BytesH (blk (some ⟨gA, 0, none⟩)) W4 A2 n2 c2 told.data from hy2))
    clear hy1 hy2
    have f0_4 := str6 HS0_4.out
    have hl0_4 := HS0_4.out.lt
    have hf0_4 := fun j => HS0_4.out.frozen j
    have f1_4 := str6 HS1_4.out
    have hl1_4 := HS1_4.out.lt
    have hf1_4 := fun j => HS1_4.out.frozen j
    have f2_4 := str6 HS2_4.out
    have hl2_4 := HS2_4.out.lt
    have f3_4 := str6 HS3_4.out
    have hl3_4 := HS3_4.out.lt
    have f4_4 := str6 HS4_4.out
    have hl4_4 := HS4_4.out.lt
    have hob : ∀ b, w.heap.size ≤ b → (Value.slice (some ⟨gA, 0, none⟩) 0 0).ownBlock ≠ some b := by
      intro b hb2 e
      have := HBL.out b (by
        revert e
        intro e; simp only [Value.ownBlock, Option.some.injEq] at e; simp [blk, e])
      omega
    have hgb : ∀ k, (Value.slice (some ⟨gA, 0, none⟩) 0 0).ownBlock = some k → base ≤ k := by
      intro k e
      simp only [Value.ownBlock, Option.some.injEq] at e; omega
    go_wp2_with fail
    have hdel := delete_any (some ⟨gA, 0, none⟩) n cA base k l W4 (H.out.next HB_4.out) (by omega) hkl (by omega)
    rw [show ((k + 1 : Nat) : Int) = (k : Int) + 1 by omega] at hdel
    refine hdel.mono ?_
    rintro e W5 ⟨rfl, hO, hgr⟩
    clear hdel
    have HS0_5 := Lib.hid (HS0_4.out.grownO hgr (hob _ (by omega)))
    have HS1_5 := Lib.hid (HS1_4.out.grownO hgr (hob _ (by omega)))
    have HS2_5 := Lib.hid (HS2_4.out.grownO hgr (hob _ (by omega)))
    have HS3_5 := Lib.hid (HS3_4.out.grownO hgr (hob _ (by omega)))
    have HS4_5 := Lib.hid (HS4_4.out.grownO hgr (hob _ (by omega)))
    have HB_5 : Hid (Below base w W5) := Lib.hid (below_grownO (HB_4.out.mono hb) hgr (by omega) hgb)
    have hw_5 := hgr.size
    have HG_5 := Lib.hid ((grown_below HB_4.out ((Value.slice (some ⟨gA, 0, none⟩) 0 0).ownBlock)).trans hgr)
    have HYa_5 := Lib.hid (BytesH.rowNew (A' := (some ⟨gA, 0, none⟩)) HYa_4.out hgr (.inl rfl))
    have HO_5 := Lib.hid hO
    clear hO hgr
    clear HYt_4
    clear HYa_4
    clear f0_4 HS0_4 hf0_4 f1_4 HS1_4 hf1_4 f2_4 HS2_4 f3_4 HS3_4 f4_4 HS4_4
    have f0_5 := str6 HS0_5.out
    have hl0_5 := HS0_5.out.lt
    have hf0_5 := fun j => HS0_5.out.frozen j
    have f1_5 := str6 HS1_5.out
    have hl1_5 := HS1_5.out.lt
    have hf1_5 := fun j => HS1_5.out.frozen j
    have f2_5 := str6 HS2_5.out
    have hl2_5 := HS2_5.out.lt
    have f3_5 := str6 HS3_5.out
    have hl3_5 := HS3_5.out.lt
    have f4_5 := str6 HS4_5.out
    have hl4_5 := HS4_5.out.lt
    go_wp2_with fail
    refine Reg.wp_region_tail (R := ext) (W := W5) [Reg.eqv (.slice (some ⟨gA, 0, none⟩) (n - 1) cA), Reg.eqv (.agg #[.int .i64 0, .int .i64 told.kind, .slice A2 n2 c2, .int .i64 told.lo, .int .i64 told.hi, .int .i64 told.val]), Reg.eqv (.slice (some ⟨gA, 0, none⟩) (n - 1) cA)] 82 3 _ [[(0, none)], [(11, none)], [(80, some 0)]] rfl (by kernel_rfl) (by kernel_rfl) (by rfl) (by rfl) rfl (by kernel_rfl) ?_ [some 80, some 81, some 4] (by kernel_rfl) ?_
    · refine ⟨?_, ?_, ?_, trivial⟩
      · intro ax wx hx hs
        obtain ⟨e0, -⟩ := hs
        have g0 := Reg.ev (v := .slice (some ⟨gA, 0, none⟩) (n - 1) cA) e0
        exact Reg.obl_free rfl (Reg.wp_eqv (Option.some_ne_none _) (by go_simp) rfl)
      · intro ax wx hx hs
        obtain ⟨e11, -⟩ := hs
        have g11 := Reg.ev (v := .pointer (some ⟨b11, 0, none⟩)) e11
        obtain ⟨l4_0, l4_1, l4_2, l4_3, l4_4, l4_5⟩ := str6 (HS4_5.out.next hx)
        exact Reg.obl_free rfl (Reg.wp_eqv (Option.some_ne_none _) (by go_simp) rfl)
      · intro ax wx hx hs
        obtain ⟨e80, -⟩ := hs
        have g80 := Reg.ev (v := .slice (some ⟨gA, 0, none⟩) (n - 1) cA) e80
        exact Reg.obl_free rfl (Reg.wp_eqv (Option.some_ne_none _) (by go_simp) rfl)
    · intro W6 hwf
      simp only [Reg.Fin]
      rintro _ rfl _ rfl _ rfl
      have hwf' : Below W5.heap.size W5 W6 := hwf
      have HS0_6 := Lib.hid (HS0_5.out.next hwf')
      have HS1_6 := Lib.hid (HS1_5.out.next hwf')
      have HS2_6 := Lib.hid (HS2_5.out.next hwf')
      have HS3_6 := Lib.hid (HS3_5.out.next hwf')
      have HS4_6 := Lib.hid (HS4_5.out.next hwf')
      have HB_6 : Hid (Below base w W6) := Lib.hid (HB_5.out.trans (hwf'.mono (by omega)))
      have HO_6 := Lib.hid (HO_5.out.next hwf')
      have HYa_6 := Lib.hid (HYa_5.out.next hwf')
      have hw_6 := hwf'.size
      have HG_6 := Lib.hid (HG_5.out.trans (grown_below hwf' _))
      clear f0_5 HS0_5 hf0_5 f1_5 HS1_5 hf1_5 f2_5 HS2_5 f3_5 HS3_5 f4_5 HS4_5
      clear hwf hwf' HO_5 HYa_5 HB_5
      have f0_6 := str6 HS0_6.out
      have hl0_6 := HS0_6.out.lt
      have hf0_6 := fun j => HS0_6.out.frozen j
      have f1_6 := str6 HS1_6.out
      have hl1_6 := HS1_6.out.lt
      have hf1_6 := fun j => HS1_6.out.frozen j
      have f2_6 := str6 HS2_6.out
      have hl2_6 := HS2_6.out.lt
      have f3_6 := str6 HS3_6.out
      have hl3_6 := HS3_6.out.lt
      have f4_6 := str6 HS4_6.out
      have hl4_6 := HS4_6.out.lt
      refine Reg.Goal.mk ?_
      go_simp
      go_wp2_with fail
      generalize hW7 : ((((((W6).setCell ⟨w.heap.size + 1, 0, none⟩ (.int .i64 0)).setCell ⟨w.heap.size + 1, 1, none⟩ (.int .i64 told.kind)).setCell ⟨w.heap.size + 1, 2, none⟩ (.slice A2 n2 c2)).setCell ⟨w.heap.size + 1, 3, none⟩ (.int .i64 told.lo)).setCell ⟨w.heap.size + 1, 4, none⟩ (.int .i64 told.hi)).setCell ⟨w.heap.size + 1, 5, none⟩ (.int .i64 told.val) = W7
      have hgr : W6.grownBy W7 (some (w.heap.size + 1)) := by rw [← hW7]; exact grown_set (grown_set (grown_set (grown_set (grown_set (grown_set (grown_refl W6 (w.heap.size + 1)) 0 (.int .i64 0)) 1 (.int .i64 told.kind)) 2 (.slice A2 n2 c2)) 3 (.int .i64 told.lo)) 4 (.int .i64 told.hi)) 5 (.int .i64 told.val)
      have HSf : Str W7 (w.heap.size + 1) #[.int .i64 0, .int .i64 told.kind, .slice A2 n2 c2, .int .i64 told.lo, .int .i64 told.hi, .int .i64 told.val] := by rw [← hW7]; have := ((((((HS1_6.out).set 0 (.int .i64 0)).set 1 (.int .i64 told.kind)).set 2 (.slice A2 n2 c2)).set 3 (.int .i64 told.lo)).set 4 (.int .i64 told.hi)).set 5 (.int .i64 told.val); simpa using this
      obtain ⟨r0, r1, r2, r3, r4, r5⟩ := str6 HSf
      clear hW7 HSf
      exact bodyPost_ret (v := .tuple #[.slice (some ⟨gA, 0, none⟩) (n - 1) cA, .agg #[.int .i64 0, .int .i64 told.kind, .slice A2 n2 c2, .int .i64 told.lo, .int .i64 told.hi, .int .i64 told.val]]) (by simp [results, Tryz.results59, go_sem, *]) rfl ⟨_, _, _, A2, n2, c2, rfl, HO_6.out.grownU PairE_byt HS1_6.out rfl hgr (by intro a e; cases e; show gA ≠ _; omega), BytesH.grown HYa_6.out HS1_6.out rfl hgr, grownNew HG_6.out hgr (by omega), .inl rfl⟩
set_option maxRecDepth 100000 in
set_option maxHeartbeats 2000000 in
theorem step_noA (A : Option Addr) (n cA base k : Nat) (l : List Pair) (act : Int) (xk : ByteArray) (xdata : List UInt8) (Ax : Option Addr) (nx cx Bx : Nat) (xlo xhi xn : Int) (err : Int) (f : FuncId) (cap : Nat → Nat → Array Value) (w : World) (h : OwnE PairE TPr w base A n cA l) (hb : base ≤ w.heap.size) (hr : ModelP.Rises l) (hn : n ≤ 1000) (hx : Bytes w Bx Ax nx cx xdata) (hBx : Bx ≤ w.heap.size) (hxk : xk.size ≤ maxLen) (hg : ModelP.good ⟨act, xk, xdata, xlo, xhi, xn⟩ = true) (hat : ModelP.at_ l xk = k) (hhas : hasB l xk = false) (hix : ∀ b c W, (Instr.index 127 (.agg (rulesV b c)) (.int .i64 act)).run Tryz.prog W = .ok (.agg #[.func (.func f) #[] (cap b c)]) W) (hcf : ∀ args W, (callFunc f args).run Tryz.prog W = .ok (.enter f args) W) (hdo : Does (none : Option Cell) ⟨act, xk, xdata, xlo, xhi, xn⟩ Ax nx cx f cap) (hR : ModelP.rule (none : Option Cell) ⟨act, xk, xdata, xlo, xhi, xn⟩ = (err, (none : Option Cell), CellP.none)) (he : (err != 0) = true) :
    Calls Tryz.prog 59 #[.slice A n cA, .agg #[.int .i64 act, .string xk, .slice Ax nx cx, .int .i64 xlo, .int .i64 xhi, .int .i64 xn]] w (GivesStep base A w (l, ⟨err, CellP.none⟩)) := by
  have hcap := h.elemsIn.cap
  have H := Lib.hid h
  have HR := Lib.hid hr
  have HX := Lib.hid hx
  have HL := Lib.hid h.len
  have HLX := Lib.hid hx.len
  have HC : Hid (ModelP.code (ModelP.good ⟨act, xk, xdata, xlo, xhi, xn⟩) = 0) := Lib.hid (by rw [hg]; rfl)
  have HAT := Lib.hid hat
  have HHAS := Lib.hid hhas
  have HIX := Lib.hid hix
  have HDO := Lib.hid hdo
  have HRU := Lib.hid hR
  have HBL := Lib.hid h.blk_lt
  have HGE := Lib.hid h.ge
  have hkn : k ≤ n := by rw [← hat, ← h.len]; exact ModelP.at_le _ _
  clear h hr hx hg hat hhas hix hdo hR
  go_enter Tryz.func59, Tryz.ntmps59
  go_wp2_with fail
  generalize hW0 : ((w).alloc (.cells #[.int .i64 act, .string xk, .slice Ax nx cx, .int .i64 xlo, .int .i64 xhi, .int .i64 xn] 62)).alloc (.cells #[.int .i64 0, .int .i64 0, .slice none 0 0, .int .i64 0, .int .i64 0, .int .i64 0] 58) = W0
  obtain ⟨HS0_0, HS1_0, HB_0, hw_0, hz0⟩ := new2 hW0
  clear hW0 hz0
  have f0_0 := str6 HS0_0.out
  have hl0_0 := HS0_0.out.lt
  have hf0_0 := fun j => HS0_0.out.frozen j
  have f1_0 := str6 HS1_0.out
  have hl1_0 := HS1_0.out.lt
  have hf1_0 := fun j => HS1_0.out.frozen j
  refine (check_any ⟨act, xk, xdata, xlo, xhi, xn⟩ Ax nx cx _ HLX.out hxk).mono ?_
  rintro e W1 ⟨rfl, hb1⟩
  rw [HC.out]
  have HS0_1 := Lib.hid (HS0_0.out.next hb1)
  have HS1_1 := Lib.hid (HS1_0.out.next hb1)
  have HB_1 := Lib.hid (bstep HB_0.out hb1)
  have hw_1 := HB_1.out.size
  have hws_1 := (hb1).size
  clear f0_0 HS0_0 hf0_0 f1_0 HS1_0 hf1_0
  clear hb1
  have f0_1 := str6 HS0_1.out
  have hl0_1 := HS0_1.out.lt
  have hf0_1 := fun j => HS0_1.out.frozen j
  have f1_1 := str6 HS1_1.out
  have hl1_1 := HS1_1.out.lt
  have hf1_1 := fun j => HS1_1.out.frozen j
  go_wp2_with fail
  refine (place_any A n cA w.heap.size l xk _ (H.out.elems.below HB_1.out) HB_1.out.size HR.out (by omega)).mono ?_
  rintro e W2 ⟨rfl, hb2⟩
  rw [HAT.out, HHAS.out]
  have HS0_2 := Lib.hid (HS0_1.out.next hb2)
  have HS1_2 := Lib.hid (HS1_1.out.next hb2)
  have HB_2 := Lib.hid (bstep HB_1.out hb2)
  have hw_2 := HB_2.out.size
  have hws_2 := (hb2).size
  clear f0_1 HS0_1 hf0_1 f1_1 HS1_1 hf1_1
  clear hb2
  have f0_2 := str6 HS0_2.out
  have hl0_2 := HS0_2.out.lt
  have hf0_2 := fun j => HS0_2.out.frozen j
  have f1_2 := str6 HS1_2.out
  have hl1_2 := HS1_2.out.lt
  have hf1_2 := fun j => HS1_2.out.frozen j
  go_wp2_with fail
  generalize hW3 : W2.alloc (.cells #[.int .i64 0, .slice none 0 0, .int .i64 0, .int .i64 0, .int .i64 0, .bool false] 122) = W3
  have HS0_3 := sEq hW3 (HS0_2.out.alloc _)
  have HS1_3 := sEq hW3 (HS1_2.out.alloc _)
  have HS2_3 := sEq hW3 (Str.new _ _ _)
  have hba3 : Below W2.heap.size W2 W3 := by rw [← hW3]; exact balloc (bsame _) _
  have HB_3 := Lib.hid (bstep HB_2.out hba3)
  have hw_3 := HB_3.out.size
  have hws_3 := hba3.size
  clear hW3
  clear f0_2 HS0_2 hf0_2 f1_2 HS1_2 hf1_2
  have f0_3 := str6 HS0_3.out
  have hl0_3 := HS0_3.out.lt
  have hf0_3 := fun j => HS0_3.out.frozen j
  have f1_3 := str6 HS1_3.out
  have hl1_3 := HS1_3.out.lt
  have hf1_3 := fun j => HS1_3.out.frozen j
  have f2_3 := str6 HS2_3.out
  have hl2_3 := HS2_3.out.lt
  have hOK : Reg.okS W3.heap.size (Reg.BxS.mk [(11, 10, 13), (12, 11, 14)] (fun t => if t = 10 then #[.int .i64 0, .slice none 0 0, .int .i64 0, .int .i64 0, .int .i64 0, .bool false] else if t = 11 then #[.int .i64 0, .int .i64 0, .slice none 0 0, .int .i64 0, .int .i64 0, .int .i64 0] else #[]) (fun t => if t = 10 then (Reg.rowM (Reg.byH (blk A) (fun A n c => .agg (thingV A n c (none : Option Cell))) [])) else if t = 11 then (Reg.rowM (Reg.byH (blk A) (fun A n c => .agg (ansV A n c ⟨err, CellP.none⟩)) CellP.none.data)) else (Reg.rowM (Reg.eqM undef))) [(0, 34), (3, 37), (4, 38), (7, 41), (8, 33), (9, 42), (10, 43)] (fun t => if t = 34 then (Reg.rulesM (fun b c => .agg (rulesV b c))) else if t = 37 then (Reg.rulesM (fun b c => .agg #[.func (.func f) #[] (cap b c)])) else if t = 38 then (Reg.rulesM (fun b c => .func (.func f) #[] (cap b c))) else if t = 41 then (Reg.twoM (Reg.byH (blk A) (fun A n c => .agg (thingV A n c (none : Option Cell))) []) (Reg.byH (blk A) (fun A n c => .agg (ansV A n c ⟨err, CellP.none⟩)) CellP.none.data)) else if t = 33 then (Reg.twoM (Reg.byH (blk A) (fun A n c => .agg (thingV A n c (none : Option Cell))) []) (Reg.byH (blk A) (fun A n c => .agg (ansV A n c ⟨err, CellP.none⟩)) CellP.none.data)) else if t = 42 then (Reg.byH (blk A) (fun A n c => .agg (thingV A n c (none : Option Cell))) []) else if t = 43 then (Reg.byH (blk A) (fun A n c => .agg (ansV A n c ⟨err, CellP.none⟩)) CellP.none.data) else (Reg.eqM undef)) []) := Reg.okS_of rfl List.Pairwise.nil (fun k hk => by cases hk)
  refine Reg.wp_region_box (R := (Reg.extB W3.heap.size (Reg.BxS.b0 (Reg.BxS.mk [(11, 10, 13), (12, 11, 14)] (fun t => if t = 10 then #[.int .i64 0, .slice none 0 0, .int .i64 0, .int .i64 0, .int .i64 0, .bool false] else if t = 11 then #[.int .i64 0, .int .i64 0, .slice none 0 0, .int .i64 0, .int .i64 0, .int .i64 0] else #[]) (fun t => if t = 10 then (Reg.rowM (Reg.byH (blk A) (fun A n c => .agg (thingV A n c (none : Option Cell))) [])) else if t = 11 then (Reg.rowM (Reg.byH (blk A) (fun A n c => .agg (ansV A n c ⟨err, CellP.none⟩)) CellP.none.data)) else (Reg.rowM (Reg.eqM undef))) [(0, 34), (3, 37), (4, 38), (7, 41), (8, 33), (9, 42), (10, 43)] (fun t => if t = 34 then (Reg.rulesM (fun b c => .agg (rulesV b c))) else if t = 37 then (Reg.rulesM (fun b c => .agg #[.func (.func f) #[] (cap b c)])) else if t = 38 then (Reg.rulesM (fun b c => .func (.func f) #[] (cap b c))) else if t = 41 then (Reg.twoM (Reg.byH (blk A) (fun A n c => .agg (thingV A n c (none : Option Cell))) []) (Reg.byH (blk A) (fun A n c => .agg (ansV A n c ⟨err, CellP.none⟩)) CellP.none.data)) else if t = 33 then (Reg.twoM (Reg.byH (blk A) (fun A n c => .agg (thingV A n c (none : Option Cell))) []) (Reg.byH (blk A) (fun A n c => .agg (ansV A n c ⟨err, CellP.none⟩)) CellP.none.data)) else if t = 42 then (Reg.byH (blk A) (fun A n c => .agg (thingV A n c (none : Option Cell))) []) else if t = 43 then (Reg.byH (blk A) (fun A n c => .agg (ansV A n c ⟨err, CellP.none⟩)) CellP.none.data) else (Reg.eqM undef)) [])))) (W := W3) (Reg.BJ W3.heap.size (Reg.BxS.mk [(11, 10, 13), (12, 11, 14)] (fun t => if t = 10 then #[.int .i64 0, .slice none 0 0, .int .i64 0, .int .i64 0, .int .i64 0, .bool false] else if t = 11 then #[.int .i64 0, .int .i64 0, .slice none 0 0, .int .i64 0, .int .i64 0, .int .i64 0] else #[]) (fun t => if t = 10 then (Reg.rowM (Reg.byH (blk A) (fun A n c => .agg (thingV A n c (none : Option Cell))) [])) else if t = 11 then (Reg.rowM (Reg.byH (blk A) (fun A n c => .agg (ansV A n c ⟨err, CellP.none⟩)) CellP.none.data)) else (Reg.rowM (Reg.eqM undef))) [(0, 34), (3, 37), (4, 38), (7, 41), (8, 33), (9, 42), (10, 43)] (fun t => if t = 34 then (Reg.rulesM (fun b c => .agg (rulesV b c))) else if t = 37 then (Reg.rulesM (fun b c => .agg #[.func (.func f) #[] (cap b c)])) else if t = 38 then (Reg.rulesM (fun b c => .func (.func f) #[] (cap b c))) else if t = 41 then (Reg.twoM (Reg.byH (blk A) (fun A n c => .agg (thingV A n c (none : Option Cell))) []) (Reg.byH (blk A) (fun A n c => .agg (ansV A n c ⟨err, CellP.none⟩)) CellP.none.data)) else if t = 33 then (Reg.twoM (Reg.byH (blk A) (fun A n c => .agg (thingV A n c (none : Option Cell))) []) (Reg.byH (blk A) (fun A n c => .agg (ansV A n c ⟨err, CellP.none⟩)) CellP.none.data)) else if t = 42 then (Reg.byH (blk A) (fun A n c => .agg (thingV A n c (none : Option Cell))) []) else if t = 43 then (Reg.byH (blk A) (fun A n c => .agg (ansV A n c ⟨err, CellP.none⟩)) CellP.none.data) else (Reg.eqM undef)) [])) [Reg.any, Reg.eqv (.pointer (some ⟨w.heap.size, 0, none⟩)), Reg.eqv (.int .i64 act), Reg.any, Reg.any, Reg.eqv (.agg #[.int .i64 0, .slice none 0 0, .int .i64 0, .int .i64 0, .int .i64 0, .bool false]), Reg.eqv (.agg #[.int .i64 act, .string xk, .slice Ax nx cx, .int .i64 xlo, .int .i64 xhi, .int .i64 xn]), Reg.any, Reg.any, Reg.any, Reg.any, Reg.any, Reg.any, Reg.any, Reg.any] 82 [[], [(3, none)], [(35, some 1)], [(34, some 0), (36, some 2)], [(37, some 3)], [(9, none)], [(3, none)], [(38, some 4), (39, some 5), (40, some 6)], [(41, some 7)], [(33, some 8)], [(33, some 8)], [], [], [(10, some 11), (42, some 9)], [(11, some 12), (43, some 10)]] rfl (by kernel_rfl) (by kernel_rfl) (fun _ h => Reg.bj_zero (fun k hk => by cases hk) h) (by kernel_rfl) ?_ [some 34, some 35, some 36, some 37, some 38, some 39, some 40, some 41, some 33, some 42, some 43, some 10, some 11, none, none] (by kernel_rfl) ?_
  · refine ⟨?_, ?_, ?_, ?_, ?_, ?_, ?_, ?_, ?_, ?_, ?_, ?_, ?_, ?_, ?_, trivial⟩
    · refine Reg.oblB_mem rfl rfl hOK (t := 34) rfl (List.mem_of_getElem? (i := 0) rfl) (by show 34 < 82; decide) (by show 0 < 15; decide) (fun _ _ => trivial) ?_
      intro ax wx rb hx hrb hs hmm
      replace hx : Below W3.heap.size W3 wx := hx.below (Nat.le_refl _) (fun b hb => by cases hb)
      go_simp
      refine (rules_any _).mono ?_
      rintro e wy ⟨b, c, rfl, hb1, hc1, hS1, hS2, hby⟩
      refine ⟨_, rfl, hby, b, c, rfl, hS1.lt, hS2.lt, ?_, ?_⟩
      · exact (hideL_out wy ⟨b, 0, none⟩ rb (fun hm => by have := (hrb b hm).2.1; omega)).trans (str1 hS1)
      · exact (hideL_out wy ⟨c, 0, none⟩ rb (fun hm => by have := (hrb c hm).2.1; omega)).trans (str1 hS2)
    · refine Reg.oblB_pure rfl rfl rfl ?_
      intro ax wx hx hs hmm
      replace hx : Below W3.heap.size W3 wx := hx.below (Nat.le_refl _) (fun b hb => by cases hb)
      obtain ⟨e3, -⟩ := hs
      have g3 := Reg.ev (v := .pointer (some ⟨w.heap.size, 0, none⟩)) e3
      exact (Reg.wp_eqvB (Option.some_ne_none _) (by go_simp) rfl)
    · refine Reg.oblB_pure rfl rfl rfl ?_
      intro ax wx hx hs hmm
      replace hx : Below W3.heap.size W3 wx := hx.below (Nat.le_refl _) (fun b hb => by cases hb)
      obtain ⟨e35, -⟩ := hs
      have g35 := Reg.ev (v := .pointer (some ⟨w.heap.size, 0, none⟩)) e35
      obtain ⟨l0_0, l0_1, l0_2, l0_3, l0_4, l0_5⟩ := str6 ((HS0_3.out.next hx))
      obtain ⟨l1_0, l1_1, l1_2, l1_3, l1_4, l1_5⟩ := str6 ((HS1_3.out.next hx))
      obtain ⟨l2_0, l2_1, l2_2, l2_3, l2_4, l2_5⟩ := str6 ((HS2_3.out.next hx))
      exact (Reg.wp_eqvB (Option.some_ne_none _) (by go_simp) rfl)
    · refine Reg.oblB_mem rfl rfl hOK (t := 37) rfl (List.mem_of_getElem? (i := 1) rfl) (by show 37 < 82; decide) (by show 3 < 15; decide) (fun _ _ => trivial) ?_
      intro ax wx rb hx hrb hs hmm
      replace hx : Below W3.heap.size W3 wx := hx.below (Nat.le_refl _) (fun b hb => by cases hb)
      obtain ⟨e34, e36, -⟩ := hs
      have g36 := Reg.ev (v := .int .i64 act) e36
      have m34 : (Reg.rulesM (fun b c => .agg (rulesV b c))).pred (ax.eval (.tmp 34)) (hideL wx rb) wx.heap.size := hmm (0, 34) (List.mem_of_getElem? (i := 0) rfl) (by kernel_rfl)
      obtain ⟨b, c, e34, h1, h2, h3, h4⟩ := m34
      exact Reg.mv_mem rfl (Reg.run_ix rfl e34 e36 (HIX.out b c wx)) ⟨b, c, rfl, h1, h2, h3, h4⟩
    · refine Reg.oblB_mem rfl rfl hOK (t := 38) rfl (List.mem_of_getElem? (i := 2) rfl) (by show 38 < 82; decide) (by show 4 < 15; decide) (fun _ _ => trivial) ?_
      intro ax wx rb hx hrb hs hmm
      replace hx : Below W3.heap.size W3 wx := hx.below (Nat.le_refl _) (fun b hb => by cases hb)
      obtain ⟨e37, -⟩ := hs
      have m37 : (Reg.rulesM (fun b c => .agg #[.func (.func f) #[] (cap b c)])).pred (ax.eval (.tmp 37)) (hideL wx rb) wx.heap.size := hmm (3, 37) (List.mem_of_getElem? (i := 1) rfl) (by kernel_rfl)
      obtain ⟨b, c, e37, h1, h2, h3, h4⟩ := m37
      have g37 := Reg.ev e37
      exact Reg.mv_mem rfl (Reg.run_fl rfl e37 (fieldR _ _)) ⟨b, c, rfl, h1, h2, h3, h4⟩
    · refine Reg.oblB_pure rfl rfl rfl ?_
      intro ax wx hx hs hmm
      replace hx : Below W3.heap.size W3 wx := hx.below (Nat.le_refl _) (fun b hb => by cases hb)
      obtain ⟨e9, -⟩ := hs
      have g9 := Reg.ev (v := .pointer (some ⟨W2.heap.size, 0, none⟩)) e9
      obtain ⟨l0_0, l0_1, l0_2, l0_3, l0_4, l0_5⟩ := str6 ((HS0_3.out.next hx))
      obtain ⟨l1_0, l1_1, l1_2, l1_3, l1_4, l1_5⟩ := str6 ((HS1_3.out.next hx))
      obtain ⟨l2_0, l2_1, l2_2, l2_3, l2_4, l2_5⟩ := str6 ((HS2_3.out.next hx))
      exact (Reg.wp_eqvB (Option.some_ne_none _) (by go_simp) rfl)
    · refine Reg.oblB_pure rfl rfl rfl ?_
      intro ax wx hx hs hmm
      replace hx : Below W3.heap.size W3 wx := hx.below (Nat.le_refl _) (fun b hb => by cases hb)
      obtain ⟨e3, -⟩ := hs
      have g3 := Reg.ev (v := .pointer (some ⟨w.heap.size, 0, none⟩)) e3
      obtain ⟨l0_0, l0_1, l0_2, l0_3, l0_4, l0_5⟩ := str6 ((HS0_3.out.next hx))
      obtain ⟨l1_0, l1_1, l1_2, l1_3, l1_4, l1_5⟩ := str6 ((HS1_3.out.next hx))
      obtain ⟨l2_0, l2_1, l2_2, l2_3, l2_4, l2_5⟩ := str6 ((HS2_3.out.next hx))
      exact (Reg.wp_eqvB (Option.some_ne_none _) (by go_simp) rfl)
    · refine Reg.oblB_mem rfl rfl hOK (t := 41) rfl (List.mem_of_getElem? (i := 3) rfl) (by show 41 < 82; decide) (by show 7 < 15; decide) (fun _ _ => trivial) ?_
      intro ax wx rb hx hrb hs hmm
      replace hx : Below W3.heap.size W3 wx := hx.below (Nat.le_refl _) (fun b hb => by cases hb)
      obtain ⟨e38, e39, e40, -⟩ := hs
      have g39 := Reg.ev (v := .agg #[.int .i64 0, .slice none 0 0, .int .i64 0, .int .i64 0, .int .i64 0, .bool false]) e39
      have g40 := Reg.ev (v := .agg #[.int .i64 act, .string xk, .slice Ax nx cx, .int .i64 xlo, .int .i64 xhi, .int .i64 xn]) e40
      have m38 : (Reg.rulesM (fun b c => .func (.func f) #[] (cap b c))).pred (ax.eval (.tmp 38)) (hideL wx rb) wx.heap.size := hmm (4, 38) (List.mem_of_getElem? (i := 2) rfl) (by kernel_rfl)
      obtain ⟨b, c, e38, h1, h2, h3, h4⟩ := m38
      have g38 := Reg.ev e38
      have hsx := Below.size hx
      have hD := HDO.out ((blk A) ++ rb) none 0 0 b c Bx wx (by
        intro q hq
        rcases List.mem_append.1 hq with hq | hq
        · have := HBL.out q hq; omega
        · exact (hrb q hq).2.1) (BytesH.none_ _ _) (by omega) h1 h2 (sub_hideL wx.heap.size wx rb _ _ h1 h3) (sub_hideL wx.heap.size wx rb _ _ h2 h4) (HX.out.below ((HB_3.out.mono hBx).trans (hx.mono (by omega)))) (by omega)
      rw [HRU.out] at hD
      dsimp only at hD
      go_simp
      refine hD.mono ?_
      rintro e wy ⟨A1, n1, c1, A2, n2, c2, rfl, hy1, hy2, hby⟩
      unfold BytesH at hy1 hy2
      rw [hideL_append] at hy1 hy2
      exact ⟨_, rfl, hby, _, _, rfl, ⟨A1, n1, c1, rfl, hy1⟩, ⟨A2, n2, c2, rfl, hy2⟩⟩
    · refine Reg.oblB_mem rfl rfl hOK (t := 33) rfl (List.mem_of_getElem? (i := 4) rfl) (by show 33 < 82; decide) (by show 8 < 15; decide) (fun _ _ => trivial) ?_
      intro ax wx rb hx hrb hs hmm
      replace hx : Below W3.heap.size W3 wx := hx.below (Nat.le_refl _) (fun b hb => by cases hb)
      obtain ⟨e41, -⟩ := hs
      have m41 : (Reg.twoM (Reg.byH (blk A) (fun A n c => .agg (thingV A n c (none : Option Cell))) []) (Reg.byH (blk A) (fun A n c => .agg (ansV A n c ⟨err, CellP.none⟩)) CellP.none.data)).pred (ax.eval (.tmp 41)) (hideL wx rb) wx.heap.size := hmm (7, 41) (List.mem_of_getElem? (i := 3) rfl) (by kernel_rfl)
      exact Reg.mv_mem rfl (Reg.run_mv (.inl rfl) rfl) m41
    · refine Reg.oblB_mem rfl rfl hOK (t := 42) rfl (List.mem_of_getElem? (i := 5) rfl) (by show 42 < 82; decide) (by show 9 < 15; decide) (fun _ _ => trivial) ?_
      intro ax wx rb hx hrb hs hmm
      replace hx : Below W3.heap.size W3 wx := hx.below (Nat.le_refl _) (fun b hb => by cases hb)
      obtain ⟨e33, -⟩ := hs
      have m33 : (Reg.twoM (Reg.byH (blk A) (fun A n c => .agg (thingV A n c (none : Option Cell))) []) (Reg.byH (blk A) (fun A n c => .agg (ansV A n c ⟨err, CellP.none⟩)) CellP.none.data)).pred (ax.eval (.tmp 33)) (hideL wx rb) wx.heap.size := hmm (8, 33) (List.mem_of_getElem? (i := 4) rfl) (by kernel_rfl)
      obtain ⟨x0, x1, ex, hp0, hp1⟩ := m33
      exact Reg.mv_mem rfl (Reg.run_ex rfl ex rfl) hp0
    · refine Reg.oblB_mem rfl rfl hOK (t := 43) rfl (List.mem_of_getElem? (i := 6) rfl) (by show 43 < 82; decide) (by show 10 < 15; decide) (fun _ _ => trivial) ?_
      intro ax wx rb hx hrb hs hmm
      replace hx : Below W3.heap.size W3 wx := hx.below (Nat.le_refl _) (fun b hb => by cases hb)
      obtain ⟨e33, -⟩ := hs
      have m33 : (Reg.twoM (Reg.byH (blk A) (fun A n c => .agg (thingV A n c (none : Option Cell))) []) (Reg.byH (blk A) (fun A n c => .agg (ansV A n c ⟨err, CellP.none⟩)) CellP.none.data)).pred (ax.eval (.tmp 33)) (hideL wx rb) wx.heap.size := hmm (8, 33) (List.mem_of_getElem? (i := 4) rfl) (by kernel_rfl)
      obtain ⟨x0, x1, ex, hp0, hp1⟩ := m33
      exact Reg.mv_mem rfl (Reg.run_ex rfl ex rfl) hp1
    · refine Reg.oblB_alloc rfl rfl hOK (t := 10) (js := 13) (List.mem_of_getElem? (i := 0) rfl) rfl (by show 10 < 82; decide) (by show 11 < 15; decide) (fun _ _ => trivial) (by rfl) ?_
      intro ax wx hx
      replace hx : Below W3.heap.size W3 wx := hx.below (Nat.le_refl _) (fun b hb => by cases hb)
      exact Reg.al_box rfl (by kernel_rfl)
    · refine Reg.oblB_alloc rfl rfl hOK (t := 11) (js := 14) (List.mem_of_getElem? (i := 1) rfl) rfl (by show 11 < 82; decide) (by show 12 < 15; decide) (fun _ _ => trivial) (by rfl) ?_
      intro ax wx hx
      replace hx : Below W3.heap.size W3 wx := hx.below (Nat.le_refl _) (fun b hb => by cases hb)
      exact Reg.al_box rfl (by kernel_rfl)
    · refine Reg.oblB_store rfl rfl hOK (t := 10) (ja := 11) (List.mem_of_getElem? (i := 0) rfl) rfl (by show 13 < 15; decide) (by kernel_rfl) (fun _ _ => trivial) ?_
      intro ax wx rb g hx hrb hs hmm he hS
      replace hx : Below W3.heap.size W3 wx := hx.below (Nat.le_refl _) (fun b hb => by cases hb)
      obtain ⟨e10, e42, -⟩ := hs
      have m42 : (Reg.byH (blk A) (fun A n c => .agg (thingV A n c (none : Option Cell))) []).pred (ax.eval (.tmp 42)) (hideL wx rb) wx.heap.size := hmm (9, 42) (List.mem_of_getElem? (i := 5) rfl) (by kernel_rfl)
      obtain ⟨A1, n1, c1, e42, hy1⟩ := m42
      exact Reg.st_box rfl (Reg.run_st_box rfl he e42 hS rfl (by kernel_rfl) rfl) rfl ⟨A1, n1, c1, rfl, hy1⟩
    · refine Reg.oblB_store rfl rfl hOK (t := 11) (ja := 12) (List.mem_of_getElem? (i := 1) rfl) rfl (by show 14 < 15; decide) (by kernel_rfl) (fun _ _ => trivial) ?_
      intro ax wx rb g hx hrb hs hmm he hS
      replace hx : Below W3.heap.size W3 wx := hx.below (Nat.le_refl _) (fun b hb => by cases hb)
      obtain ⟨e11, e43, -⟩ := hs
      have m43 : (Reg.byH (blk A) (fun A n c => .agg (ansV A n c ⟨err, CellP.none⟩)) CellP.none.data).pred (ax.eval (.tmp 43)) (hideL wx rb) wx.heap.size := hmm (10, 43) (List.mem_of_getElem? (i := 6) rfl) (by kernel_rfl)
      obtain ⟨A1, n1, c1, e43, hy1⟩ := m43
      exact Reg.st_box rfl (Reg.run_st_box rfl he e43 hS rfl (by kernel_rfl) rfl) rfl ⟨A1, n1, c1, rfl, hy1⟩
  · intro W4 listed hwf hall
    simp only [Reg.Fin]
    rintro v34 h34 _ rfl _ rfl v37 h37 v38 h38 _ rfl _ rfl v41 h41 v33 h33 v42 h42 v43 h43 v10 h10 v11 h11 vn13 hn13 vn14 hn14
    intro hJ
    obtain ⟨hJM, hJB, hJN, hJ0⟩ := Reg.bj_end (n := 15) hall (by show ∀ b ∈ ([(11, 10, 13), (12, 11, 14)] : List (Nat × Tmp × Nat)), b.1 < 15 ∧ b.2.2 < 15; decide) (by show ∀ m ∈ ([(0, 34), (3, 37), (4, 38), (7, 41), (8, 33), (9, 42), (10, 43)] : List (Nat × Tmp)), m.1 < 15; decide) (by show ∀ k ∈ ([] : List Nat), k < 15; decide) hJ
    have hm34 : (Reg.rulesM (fun b c => .agg (rulesV b c))).pred v34 W4 W4.heap.size := by have h := hJM (0, 34) (List.mem_of_getElem? (i := 0) rfl); simpa [Act.eval, Act.put] using h
    have hm37 : (Reg.rulesM (fun b c => .agg #[.func (.func f) #[] (cap b c)])).pred v37 W4 W4.heap.size := by have h := hJM (3, 37) (List.mem_of_getElem? (i := 1) rfl); simpa [Act.eval, Act.put] using h
    have hm38 : (Reg.rulesM (fun b c => .func (.func f) #[] (cap b c))).pred v38 W4 W4.heap.size := by have h := hJM (4, 38) (List.mem_of_getElem? (i := 2) rfl); simpa [Act.eval, Act.put] using h
    have hm41 : (Reg.twoM (Reg.byH (blk A) (fun A n c => .agg (thingV A n c (none : Option Cell))) []) (Reg.byH (blk A) (fun A n c => .agg (ansV A n c ⟨err, CellP.none⟩)) CellP.none.data)).pred v41 W4 W4.heap.size := by have h := hJM (7, 41) (List.mem_of_getElem? (i := 3) rfl); simpa [Act.eval, Act.put] using h
    have hm33 : (Reg.twoM (Reg.byH (blk A) (fun A n c => .agg (thingV A n c (none : Option Cell))) []) (Reg.byH (blk A) (fun A n c => .agg (ansV A n c ⟨err, CellP.none⟩)) CellP.none.data)).pred v33 W4 W4.heap.size := by have h := hJM (8, 33) (List.mem_of_getElem? (i := 4) rfl); simpa [Act.eval, Act.put] using h
    have hm42 : (Reg.byH (blk A) (fun A n c => .agg (thingV A n c (none : Option Cell))) []).pred v42 W4 W4.heap.size := by have h := hJM (9, 42) (List.mem_of_getElem? (i := 5) rfl); simpa [Act.eval, Act.put] using h
    have hm43 : (Reg.byH (blk A) (fun A n c => .agg (ansV A n c ⟨err, CellP.none⟩)) CellP.none.data).pred v43 W4 W4.heap.size := by have h := hJM (10, 43) (List.mem_of_getElem? (i := 6) rfl); simpa [Act.eval, Act.put] using h
    obtain ⟨b10, cs10, eb10, hb10, hS10, hX10⟩ := hJB (11, 10, 13) (List.mem_of_getElem? (i := 0) rfl)
    have ec10 : v10 = .pointer (some ⟨b10, 0, none⟩) := by simpa [Act.eval, Act.put] using eb10
    have hX10 : (Reg.rowM (Reg.byH (blk A) (fun A n c => .agg (thingV A n c (none : Option Cell))) [])).pred cs10 W4 W4.heap.size := hX10
    obtain ⟨b11, cs11, eb11, hb11, hS11, hX11⟩ := hJB (12, 11, 14) (List.mem_of_getElem? (i := 1) rfl)
    have ec11 : v11 = .pointer (some ⟨b11, 0, none⟩) := by simpa [Act.eval, Act.put] using eb11
    have hX11 : (Reg.rowM (Reg.byH (blk A) (fun A n c => .agg (ansV A n c ⟨err, CellP.none⟩)) CellP.none.data)).pred cs11 W4 W4.heap.size := hX11
    have hne10_11 : b10 ≠ b11 := by have h := hJN (11, 10, 13) (List.mem_of_getElem? (i := 0) rfl) (12, 11, 14) (List.mem_of_getElem? (i := 1) rfl) (by decide); intro e; apply h; rw [eb10, eb11, e]
    clear hJM hJB hJN hJ0 hJ hall eb10 eb11
    subst ec10
    subst ec11
    go_simp
    replace hwf : Below W3.heap.size W3 W4 := Reg.KeepB.below hwf (Nat.le_refl _) (fun b hb => by cases hb)
    have hbw : Below w.heap.size W3 W4 := hwf.mono (by omega)
    have HS0_4 := Lib.hid (HS0_3.out.next hwf)
    have HS1_4 := Lib.hid (HS1_3.out.next hwf)
    have HS2_4 := Lib.hid (HS2_3.out.next hwf)
    have HB_4 := Lib.hid (HB_3.out.trans hbw)
    have hw_4 := HB_4.out.size
    have hws_4 := hbw.size
    have HSn10 := Lib.hid hS10
    clear hS10
    have HSn11 := Lib.hid hS11
    clear hS11
    clear f0_3 HS0_3 hf0_3 f1_3 HS1_3 hf1_3 f2_3 HS2_3
    clear hwf hbw hOK
    obtain ⟨A1, n1, c1, e10, hy1⟩ := hX10
    obtain ⟨A2, n2, c2, e11, hy2⟩ := hX11
    obtain rfl : cs10 = thingV A1 n1 c1 (none : Option Cell) := Value.agg.inj e10
    obtain rfl : cs11 = ansV A2 n2 c2 ⟨err, CellP.none⟩ := Value.agg.inj e11
    clear e10 e11
    have hn2 := hy2.len
    have HA2 : Hid (ansV A2 n2 c2 ⟨err, CellP.none⟩ = ansV A2 n2 c2 ⟨err, CellP.none⟩) := Lib.hid rfl
    have HS3_4 : Hid (Str W4 b10 #[.int .i64 0, .slice none 0 0, .int .i64 0, .int .i64 0, .int .i64 0, .bool false]) := HSn10
    have HS4_4 : Hid (Str W4 b11 #[.int .i64 err, .int .i64 0, .slice A2 n2 c2, .int .i64 0, .int .i64 0, .int .i64 0]) := HSn11
    clear HSn10 HSn11
    have HYt_4 := Lib.hid ((show BytesH (blk A) W4 A1 n1 c1 [] from hy1))
    have HYa_4 := Lib.hid ((show BytesH (blk A) W4 A2 n2 c2 [] from hy2))
    clear hy1 hy2
    have f0_4 := str6 HS0_4.out
    have hl0_4 := HS0_4.out.lt
    have hf0_4 := fun j => HS0_4.out.frozen j
    have f1_4 := str6 HS1_4.out
    have hl1_4 := HS1_4.out.lt
    have hf1_4 := fun j => HS1_4.out.frozen j
    have f2_4 := str6 HS2_4.out
    have hl2_4 := HS2_4.out.lt
    have f3_4 := str6 HS3_4.out
    have hl3_4 := HS3_4.out.lt
    have f4_4 := str6 HS4_4.out
    have hl4_4 := HS4_4.out.lt
    go_wp2_with fail
    refine Reg.wp_region_tail (R := ext) (W := W4) [Reg.eqv (.slice A n cA), Reg.eqv (.agg #[.int .i64 err, .int .i64 0, .slice A2 n2 c2, .int .i64 0, .int .i64 0, .int .i64 0]), Reg.eqv (.slice A n cA)] 82 3 _ [[(0, none)], [(11, none)], [(47, some 0)]] rfl (by kernel_rfl) (by kernel_rfl) (by rfl) (by rfl) rfl (by kernel_rfl) ?_ [some 47, some 48, some 4] (by kernel_rfl) ?_
    · refine ⟨?_, ?_, ?_, trivial⟩
      · intro ax wx hx hs
        obtain ⟨e0, -⟩ := hs
        have g0 := Reg.ev (v := .slice A n cA) e0
        exact Reg.obl_free rfl (Reg.wp_eqv (Option.some_ne_none _) (by go_simp) rfl)
      · intro ax wx hx hs
        obtain ⟨e11, -⟩ := hs
        have g11 := Reg.ev (v := .pointer (some ⟨b11, 0, none⟩)) e11
        obtain ⟨l4_0, l4_1, l4_2, l4_3, l4_4, l4_5⟩ := str6 (HS4_4.out.next hx)
        exact Reg.obl_free rfl (Reg.wp_eqv (Option.some_ne_none _) (by go_simp) rfl)
      · intro ax wx hx hs
        obtain ⟨e47, -⟩ := hs
        have g47 := Reg.ev (v := .slice A n cA) e47
        exact Reg.obl_free rfl (Reg.wp_eqv (Option.some_ne_none _) (by go_simp) rfl)
    · intro W5 hwf
      simp only [Reg.Fin]
      rintro _ rfl _ rfl _ rfl
      have hwf' : Below W4.heap.size W4 W5 := hwf
      have HS0_5 := Lib.hid (HS0_4.out.next hwf')
      have HS1_5 := Lib.hid (HS1_4.out.next hwf')
      have HS2_5 := Lib.hid (HS2_4.out.next hwf')
      have HS3_5 := Lib.hid (HS3_4.out.next hwf')
      have HS4_5 := Lib.hid (HS4_4.out.next hwf')
      have HB_5 := Lib.hid (bstep HB_4.out hwf')
      have hw_5 := HB_5.out.size
      have hws_5 := (hwf').size
      have HYt_5 := Lib.hid (HYt_4.out.next hwf')
      have HYa_5 := Lib.hid (HYa_4.out.next hwf')
      clear HYt_4 HYa_4
      clear f0_4 HS0_4 hf0_4 f1_4 HS1_4 hf1_4 f2_4 HS2_4 f3_4 HS3_4 f4_4 HS4_4
      have f0_5 := str6 HS0_5.out
      have hl0_5 := HS0_5.out.lt
      have hf0_5 := fun j => HS0_5.out.frozen j
      have f1_5 := str6 HS1_5.out
      have hl1_5 := HS1_5.out.lt
      have hf1_5 := fun j => HS1_5.out.frozen j
      have f2_5 := str6 HS2_5.out
      have hl2_5 := HS2_5.out.lt
      have f3_5 := str6 HS3_5.out
      have hl3_5 := HS3_5.out.lt
      have f4_5 := str6 HS4_5.out
      have hl4_5 := HS4_5.out.lt
      clear hwf hwf'
      refine Reg.Goal.mk ?_
      go_simp
      go_wp2_with fail
      generalize hW6 : ((((((W5).setCell ⟨w.heap.size + 1, 0, none⟩ (.int .i64 err)).setCell ⟨w.heap.size + 1, 1, none⟩ (.int .i64 0)).setCell ⟨w.heap.size + 1, 2, none⟩ (.slice A2 n2 c2)).setCell ⟨w.heap.size + 1, 3, none⟩ (.int .i64 0)).setCell ⟨w.heap.size + 1, 4, none⟩ (.int .i64 0)).setCell ⟨w.heap.size + 1, 5, none⟩ (.int .i64 0) = W6
      have HS1_6 : Hid (Str W6 (w.heap.size + 1) #[.int .i64 err, .int .i64 0, .slice A2 n2 c2, .int .i64 0, .int .i64 0, .int .i64 0]) := Lib.hid (by rw [← hW6]; have := ((((((HS1_5.out).set 0 (.int .i64 err)).set 1 (.int .i64 0)).set 2 (.slice A2 n2 c2)).set 3 (.int .i64 0)).set 4 (.int .i64 0)).set 5 (.int .i64 0); simpa using this)
      have hgr6 : W5.grownBy W6 (some (w.heap.size + 1)) := by rw [← hW6]; exact grown_set (grown_set (grown_set (grown_set (grown_set (grown_set (grown_refl W5 (w.heap.size + 1)) 0 (_)) 1 (_)) 2 (_)) 3 (_)) 4 (_)) 5 (_)
      have HS0_6 := Lib.hid (HS0_5.out.grown hgr6 (by omega))
      have HS2_6 := Lib.hid (HS2_5.out.grown hgr6 (by omega))
      have HS3_6 := Lib.hid (HS3_5.out.grown hgr6 (by omega))
      have HS4_6 := Lib.hid (HS4_5.out.grown hgr6 (by omega))
      have HB_6 := Lib.hid (below_grown HB_5.out hgr6 (by omega))
      have hw_6 := HB_6.out.size
      have hws_6 := hgr6.size
      have HYt_6 := Lib.hid (BytesH.grown HYt_5.out HS1_5.out rfl hgr6)
      have HYa_6 := Lib.hid (BytesH.grown HYa_5.out HS1_5.out rfl hgr6)
      clear HYt_5 HYa_5
      clear hW6
      clear f0_5 HS0_5 hf0_5 f1_5 HS1_5 hf1_5 f2_5 HS2_5 f3_5 HS3_5 f4_5 HS4_5
      clear hgr6
      have f0_6 := str6 HS0_6.out
      have hl0_6 := HS0_6.out.lt
      have hf0_6 := fun j => HS0_6.out.frozen j
      have f1_6 := str6 HS1_6.out
      have hl1_6 := HS1_6.out.lt
      have hf1_6 := fun j => HS1_6.out.frozen j
      have f2_6 := str6 HS2_6.out
      have hl2_6 := HS2_6.out.lt
      have f3_6 := str6 HS3_6.out
      have hl3_6 := HS3_6.out.lt
      have f4_6 := str6 HS4_6.out
      have hl4_6 := HS4_6.out.lt
      exact bodyPost_ret (v := .tuple #[.slice A n cA, .agg #[.int .i64 err, .int .i64 0, .slice A2 n2 c2, .int .i64 0, .int .i64 0, .int .i64 0]]) (by simp [results, Tryz.results59, go_sem, *]) rfl ⟨_, n, cA, A2, n2, c2, rfl, H.out.next HB_6.out, HYa_6.out, grown_below HB_6.out _, .inl rfl⟩
set_option maxRecDepth 100000 in
set_option maxHeartbeats 2000000 in
theorem step_noC (A : Option Addr) (n cA base k : Nat) (l : List Pair) (act : Int) (xk : ByteArray) (xdata : List UInt8) (Ax : Option Addr) (nx cx Bx : Nat) (xlo xhi xn : Int) (told : Cell) (ckd : Int) (cda : List UInt8) (clo chi cva : Int) (f : FuncId) (cap : Nat → Nat → Array Value) (w : World) (h : OwnE PairE TPr w base A n cA l) (hb : base ≤ w.heap.size) (hr : ModelP.Rises l) (hn : n ≤ 1000) (hx : Bytes w Bx Ax nx cx xdata) (hBx : Bx ≤ w.heap.size) (hxk : xk.size ≤ maxLen) (hg : ModelP.good ⟨act, xk, xdata, xlo, xhi, xn⟩ = true) (hat : ModelP.at_ l xk = k) (hhas : hasB l xk = false) (hix : ∀ b c W, (Instr.index 127 (.agg (rulesV b c)) (.int .i64 act)).run Tryz.prog W = .ok (.agg #[.func (.func f) #[] (cap b c)]) W) (hcf : ∀ args W, (callFunc f args).run Tryz.prog W = .ok (.enter f args) W) (hdo : Does (none : Option Cell) ⟨act, xk, xdata, xlo, xhi, xn⟩ Ax nx cx f cap) (hR : ModelP.rule (none : Option Cell) ⟨act, xk, xdata, xlo, xhi, xn⟩ = (0, (some ⟨ckd, cda, clo, chi, cva⟩), told)) (hin : In64 ckd ∧ In64 clo ∧ In64 chi ∧ In64 cva) :
    Calls Tryz.prog 59 #[.slice A n cA, .agg #[.int .i64 act, .string xk, .slice Ax nx cx, .int .i64 xlo, .int .i64 xhi, .int .i64 xn]] w (GivesStep base A w (l.take k ++ ⟨xk, ⟨ckd, cda, clo, chi, cva⟩⟩ :: l.drop k, ⟨0, told⟩)) := by
  have hcap := h.elemsIn.cap
  have H := Lib.hid h
  have HR := Lib.hid hr
  have HX := Lib.hid hx
  have HL := Lib.hid h.len
  have HLX := Lib.hid hx.len
  have HC : Hid (ModelP.code (ModelP.good ⟨act, xk, xdata, xlo, xhi, xn⟩) = 0) := Lib.hid (by rw [hg]; rfl)
  have HAT := Lib.hid hat
  have HHAS := Lib.hid hhas
  have HIX := Lib.hid hix
  have HDO := Lib.hid hdo
  have HRU := Lib.hid hR
  have HBL := Lib.hid h.blk_lt
  have HGE := Lib.hid h.ge
  have hkn : k ≤ n := by rw [← hat, ← h.len]; exact ModelP.at_le _ _
  clear h hr hx hg hat hhas hix hdo hR
  go_enter Tryz.func59, Tryz.ntmps59
  go_wp2_with fail
  generalize hW0 : ((w).alloc (.cells #[.int .i64 act, .string xk, .slice Ax nx cx, .int .i64 xlo, .int .i64 xhi, .int .i64 xn] 62)).alloc (.cells #[.int .i64 0, .int .i64 0, .slice none 0 0, .int .i64 0, .int .i64 0, .int .i64 0] 58) = W0
  obtain ⟨HS0_0, HS1_0, HB_0, hw_0, hz0⟩ := new2 hW0
  clear hW0 hz0
  have f0_0 := str6 HS0_0.out
  have hl0_0 := HS0_0.out.lt
  have hf0_0 := fun j => HS0_0.out.frozen j
  have f1_0 := str6 HS1_0.out
  have hl1_0 := HS1_0.out.lt
  have hf1_0 := fun j => HS1_0.out.frozen j
  refine (check_any ⟨act, xk, xdata, xlo, xhi, xn⟩ Ax nx cx _ HLX.out hxk).mono ?_
  rintro e W1 ⟨rfl, hb1⟩
  rw [HC.out]
  have HS0_1 := Lib.hid (HS0_0.out.next hb1)
  have HS1_1 := Lib.hid (HS1_0.out.next hb1)
  have HB_1 := Lib.hid (bstep HB_0.out hb1)
  have hw_1 := HB_1.out.size
  have hws_1 := (hb1).size
  clear f0_0 HS0_0 hf0_0 f1_0 HS1_0 hf1_0
  clear hb1
  have f0_1 := str6 HS0_1.out
  have hl0_1 := HS0_1.out.lt
  have hf0_1 := fun j => HS0_1.out.frozen j
  have f1_1 := str6 HS1_1.out
  have hl1_1 := HS1_1.out.lt
  have hf1_1 := fun j => HS1_1.out.frozen j
  go_wp2_with fail
  refine (place_any A n cA w.heap.size l xk _ (H.out.elems.below HB_1.out) HB_1.out.size HR.out (by omega)).mono ?_
  rintro e W2 ⟨rfl, hb2⟩
  rw [HAT.out, HHAS.out]
  have HS0_2 := Lib.hid (HS0_1.out.next hb2)
  have HS1_2 := Lib.hid (HS1_1.out.next hb2)
  have HB_2 := Lib.hid (bstep HB_1.out hb2)
  have hw_2 := HB_2.out.size
  have hws_2 := (hb2).size
  clear f0_1 HS0_1 hf0_1 f1_1 HS1_1 hf1_1
  clear hb2
  have f0_2 := str6 HS0_2.out
  have hl0_2 := HS0_2.out.lt
  have hf0_2 := fun j => HS0_2.out.frozen j
  have f1_2 := str6 HS1_2.out
  have hl1_2 := HS1_2.out.lt
  have hf1_2 := fun j => HS1_2.out.frozen j
  go_wp2_with fail
  generalize hW3 : W2.alloc (.cells #[.int .i64 0, .slice none 0 0, .int .i64 0, .int .i64 0, .int .i64 0, .bool false] 122) = W3
  have HS0_3 := sEq hW3 (HS0_2.out.alloc _)
  have HS1_3 := sEq hW3 (HS1_2.out.alloc _)
  have HS2_3 := sEq hW3 (Str.new _ _ _)
  have hba3 : Below W2.heap.size W2 W3 := by rw [← hW3]; exact balloc (bsame _) _
  have HB_3 := Lib.hid (bstep HB_2.out hba3)
  have hw_3 := HB_3.out.size
  have hws_3 := hba3.size
  clear hW3
  clear f0_2 HS0_2 hf0_2 f1_2 HS1_2 hf1_2
  have f0_3 := str6 HS0_3.out
  have hl0_3 := HS0_3.out.lt
  have hf0_3 := fun j => HS0_3.out.frozen j
  have f1_3 := str6 HS1_3.out
  have hl1_3 := HS1_3.out.lt
  have hf1_3 := fun j => HS1_3.out.frozen j
  have f2_3 := str6 HS2_3.out
  have hl2_3 := HS2_3.out.lt
  have hOK : Reg.okS W3.heap.size (Reg.BxS.mk [(11, 10, 13), (12, 11, 14)] (fun t => if t = 10 then #[.int .i64 0, .slice none 0 0, .int .i64 0, .int .i64 0, .int .i64 0, .bool false] else if t = 11 then #[.int .i64 0, .int .i64 0, .slice none 0 0, .int .i64 0, .int .i64 0, .int .i64 0] else #[]) (fun t => if t = 10 then (Reg.rowM (Reg.byH (blk A) (fun A n c => .agg (thingV A n c (some ⟨ckd, cda, clo, chi, cva⟩))) cda)) else if t = 11 then (Reg.rowM (Reg.byH (blk A) (fun A n c => .agg (ansV A n c ⟨0, told⟩)) told.data)) else (Reg.rowM (Reg.eqM undef))) [(0, 34), (3, 37), (4, 38), (7, 41), (8, 33), (9, 42), (10, 43)] (fun t => if t = 34 then (Reg.rulesM (fun b c => .agg (rulesV b c))) else if t = 37 then (Reg.rulesM (fun b c => .agg #[.func (.func f) #[] (cap b c)])) else if t = 38 then (Reg.rulesM (fun b c => .func (.func f) #[] (cap b c))) else if t = 41 then (Reg.twoM (Reg.byH (blk A) (fun A n c => .agg (thingV A n c (some ⟨ckd, cda, clo, chi, cva⟩))) cda) (Reg.byH (blk A) (fun A n c => .agg (ansV A n c ⟨0, told⟩)) told.data)) else if t = 33 then (Reg.twoM (Reg.byH (blk A) (fun A n c => .agg (thingV A n c (some ⟨ckd, cda, clo, chi, cva⟩))) cda) (Reg.byH (blk A) (fun A n c => .agg (ansV A n c ⟨0, told⟩)) told.data)) else if t = 42 then (Reg.byH (blk A) (fun A n c => .agg (thingV A n c (some ⟨ckd, cda, clo, chi, cva⟩))) cda) else if t = 43 then (Reg.byH (blk A) (fun A n c => .agg (ansV A n c ⟨0, told⟩)) told.data) else (Reg.eqM undef)) []) := Reg.okS_of rfl List.Pairwise.nil (fun k hk => by cases hk)
  refine Reg.wp_region_box (R := (Reg.extB W3.heap.size (Reg.BxS.b0 (Reg.BxS.mk [(11, 10, 13), (12, 11, 14)] (fun t => if t = 10 then #[.int .i64 0, .slice none 0 0, .int .i64 0, .int .i64 0, .int .i64 0, .bool false] else if t = 11 then #[.int .i64 0, .int .i64 0, .slice none 0 0, .int .i64 0, .int .i64 0, .int .i64 0] else #[]) (fun t => if t = 10 then (Reg.rowM (Reg.byH (blk A) (fun A n c => .agg (thingV A n c (some ⟨ckd, cda, clo, chi, cva⟩))) cda)) else if t = 11 then (Reg.rowM (Reg.byH (blk A) (fun A n c => .agg (ansV A n c ⟨0, told⟩)) told.data)) else (Reg.rowM (Reg.eqM undef))) [(0, 34), (3, 37), (4, 38), (7, 41), (8, 33), (9, 42), (10, 43)] (fun t => if t = 34 then (Reg.rulesM (fun b c => .agg (rulesV b c))) else if t = 37 then (Reg.rulesM (fun b c => .agg #[.func (.func f) #[] (cap b c)])) else if t = 38 then (Reg.rulesM (fun b c => .func (.func f) #[] (cap b c))) else if t = 41 then (Reg.twoM (Reg.byH (blk A) (fun A n c => .agg (thingV A n c (some ⟨ckd, cda, clo, chi, cva⟩))) cda) (Reg.byH (blk A) (fun A n c => .agg (ansV A n c ⟨0, told⟩)) told.data)) else if t = 33 then (Reg.twoM (Reg.byH (blk A) (fun A n c => .agg (thingV A n c (some ⟨ckd, cda, clo, chi, cva⟩))) cda) (Reg.byH (blk A) (fun A n c => .agg (ansV A n c ⟨0, told⟩)) told.data)) else if t = 42 then (Reg.byH (blk A) (fun A n c => .agg (thingV A n c (some ⟨ckd, cda, clo, chi, cva⟩))) cda) else if t = 43 then (Reg.byH (blk A) (fun A n c => .agg (ansV A n c ⟨0, told⟩)) told.data) else (Reg.eqM undef)) [])))) (W := W3) (Reg.BJ W3.heap.size (Reg.BxS.mk [(11, 10, 13), (12, 11, 14)] (fun t => if t = 10 then #[.int .i64 0, .slice none 0 0, .int .i64 0, .int .i64 0, .int .i64 0, .bool false] else if t = 11 then #[.int .i64 0, .int .i64 0, .slice none 0 0, .int .i64 0, .int .i64 0, .int .i64 0] else #[]) (fun t => if t = 10 then (Reg.rowM (Reg.byH (blk A) (fun A n c => .agg (thingV A n c (some ⟨ckd, cda, clo, chi, cva⟩))) cda)) else if t = 11 then (Reg.rowM (Reg.byH (blk A) (fun A n c => .agg (ansV A n c ⟨0, told⟩)) told.data)) else (Reg.rowM (Reg.eqM undef))) [(0, 34), (3, 37), (4, 38), (7, 41), (8, 33), (9, 42), (10, 43)] (fun t => if t = 34 then (Reg.rulesM (fun b c => .agg (rulesV b c))) else if t = 37 then (Reg.rulesM (fun b c => .agg #[.func (.func f) #[] (cap b c)])) else if t = 38 then (Reg.rulesM (fun b c => .func (.func f) #[] (cap b c))) else if t = 41 then (Reg.twoM (Reg.byH (blk A) (fun A n c => .agg (thingV A n c (some ⟨ckd, cda, clo, chi, cva⟩))) cda) (Reg.byH (blk A) (fun A n c => .agg (ansV A n c ⟨0, told⟩)) told.data)) else if t = 33 then (Reg.twoM (Reg.byH (blk A) (fun A n c => .agg (thingV A n c (some ⟨ckd, cda, clo, chi, cva⟩))) cda) (Reg.byH (blk A) (fun A n c => .agg (ansV A n c ⟨0, told⟩)) told.data)) else if t = 42 then (Reg.byH (blk A) (fun A n c => .agg (thingV A n c (some ⟨ckd, cda, clo, chi, cva⟩))) cda) else if t = 43 then (Reg.byH (blk A) (fun A n c => .agg (ansV A n c ⟨0, told⟩)) told.data) else (Reg.eqM undef)) [])) [Reg.any, Reg.eqv (.pointer (some ⟨w.heap.size, 0, none⟩)), Reg.eqv (.int .i64 act), Reg.any, Reg.any, Reg.eqv (.agg #[.int .i64 0, .slice none 0 0, .int .i64 0, .int .i64 0, .int .i64 0, .bool false]), Reg.eqv (.agg #[.int .i64 act, .string xk, .slice Ax nx cx, .int .i64 xlo, .int .i64 xhi, .int .i64 xn]), Reg.any, Reg.any, Reg.any, Reg.any, Reg.any, Reg.any, Reg.any, Reg.any] 82 [[], [(3, none)], [(35, some 1)], [(34, some 0), (36, some 2)], [(37, some 3)], [(9, none)], [(3, none)], [(38, some 4), (39, some 5), (40, some 6)], [(41, some 7)], [(33, some 8)], [(33, some 8)], [], [], [(10, some 11), (42, some 9)], [(11, some 12), (43, some 10)]] rfl (by kernel_rfl) (by kernel_rfl) (fun _ h => Reg.bj_zero (fun k hk => by cases hk) h) (by kernel_rfl) ?_ [some 34, some 35, some 36, some 37, some 38, some 39, some 40, some 41, some 33, some 42, some 43, some 10, some 11, none, none] (by kernel_rfl) ?_
  · refine ⟨?_, ?_, ?_, ?_, ?_, ?_, ?_, ?_, ?_, ?_, ?_, ?_, ?_, ?_, ?_, trivial⟩
    · refine Reg.oblB_mem rfl rfl hOK (t := 34) rfl (List.mem_of_getElem? (i := 0) rfl) (by show 34 < 82; decide) (by show 0 < 15; decide) (fun _ _ => trivial) ?_
      intro ax wx rb hx hrb hs hmm
      replace hx : Below W3.heap.size W3 wx := hx.below (Nat.le_refl _) (fun b hb => by cases hb)
      go_simp
      refine (rules_any _).mono ?_
      rintro e wy ⟨b, c, rfl, hb1, hc1, hS1, hS2, hby⟩
      refine ⟨_, rfl, hby, b, c, rfl, hS1.lt, hS2.lt, ?_, ?_⟩
      · exact (hideL_out wy ⟨b, 0, none⟩ rb (fun hm => by have := (hrb b hm).2.1; omega)).trans (str1 hS1)
      · exact (hideL_out wy ⟨c, 0, none⟩ rb (fun hm => by have := (hrb c hm).2.1; omega)).trans (str1 hS2)
    · refine Reg.oblB_pure rfl rfl rfl ?_
      intro ax wx hx hs hmm
      replace hx : Below W3.heap.size W3 wx := hx.below (Nat.le_refl _) (fun b hb => by cases hb)
      obtain ⟨e3, -⟩ := hs
      have g3 := Reg.ev (v := .pointer (some ⟨w.heap.size, 0, none⟩)) e3
      exact (Reg.wp_eqvB (Option.some_ne_none _) (by go_simp) rfl)
    · refine Reg.oblB_pure rfl rfl rfl ?_
      intro ax wx hx hs hmm
      replace hx : Below W3.heap.size W3 wx := hx.below (Nat.le_refl _) (fun b hb => by cases hb)
      obtain ⟨e35, -⟩ := hs
      have g35 := Reg.ev (v := .pointer (some ⟨w.heap.size, 0, none⟩)) e35
      obtain ⟨l0_0, l0_1, l0_2, l0_3, l0_4, l0_5⟩ := str6 ((HS0_3.out.next hx))
      obtain ⟨l1_0, l1_1, l1_2, l1_3, l1_4, l1_5⟩ := str6 ((HS1_3.out.next hx))
      obtain ⟨l2_0, l2_1, l2_2, l2_3, l2_4, l2_5⟩ := str6 ((HS2_3.out.next hx))
      exact (Reg.wp_eqvB (Option.some_ne_none _) (by go_simp) rfl)
    · refine Reg.oblB_mem rfl rfl hOK (t := 37) rfl (List.mem_of_getElem? (i := 1) rfl) (by show 37 < 82; decide) (by show 3 < 15; decide) (fun _ _ => trivial) ?_
      intro ax wx rb hx hrb hs hmm
      replace hx : Below W3.heap.size W3 wx := hx.below (Nat.le_refl _) (fun b hb => by cases hb)
      obtain ⟨e34, e36, -⟩ := hs
      have g36 := Reg.ev (v := .int .i64 act) e36
      have m34 : (Reg.rulesM (fun b c => .agg (rulesV b c))).pred (ax.eval (.tmp 34)) (hideL wx rb) wx.heap.size := hmm (0, 34) (List.mem_of_getElem? (i := 0) rfl) (by kernel_rfl)
      obtain ⟨b, c, e34, h1, h2, h3, h4⟩ := m34
      exact Reg.mv_mem rfl (Reg.run_ix rfl e34 e36 (HIX.out b c wx)) ⟨b, c, rfl, h1, h2, h3, h4⟩
    · refine Reg.oblB_mem rfl rfl hOK (t := 38) rfl (List.mem_of_getElem? (i := 2) rfl) (by show 38 < 82; decide) (by show 4 < 15; decide) (fun _ _ => trivial) ?_
      intro ax wx rb hx hrb hs hmm
      replace hx : Below W3.heap.size W3 wx := hx.below (Nat.le_refl _) (fun b hb => by cases hb)
      obtain ⟨e37, -⟩ := hs
      have m37 : (Reg.rulesM (fun b c => .agg #[.func (.func f) #[] (cap b c)])).pred (ax.eval (.tmp 37)) (hideL wx rb) wx.heap.size := hmm (3, 37) (List.mem_of_getElem? (i := 1) rfl) (by kernel_rfl)
      obtain ⟨b, c, e37, h1, h2, h3, h4⟩ := m37
      have g37 := Reg.ev e37
      exact Reg.mv_mem rfl (Reg.run_fl rfl e37 (fieldR _ _)) ⟨b, c, rfl, h1, h2, h3, h4⟩
    · refine Reg.oblB_pure rfl rfl rfl ?_
      intro ax wx hx hs hmm
      replace hx : Below W3.heap.size W3 wx := hx.below (Nat.le_refl _) (fun b hb => by cases hb)
      obtain ⟨e9, -⟩ := hs
      have g9 := Reg.ev (v := .pointer (some ⟨W2.heap.size, 0, none⟩)) e9
      obtain ⟨l0_0, l0_1, l0_2, l0_3, l0_4, l0_5⟩ := str6 ((HS0_3.out.next hx))
      obtain ⟨l1_0, l1_1, l1_2, l1_3, l1_4, l1_5⟩ := str6 ((HS1_3.out.next hx))
      obtain ⟨l2_0, l2_1, l2_2, l2_3, l2_4, l2_5⟩ := str6 ((HS2_3.out.next hx))
      exact (Reg.wp_eqvB (Option.some_ne_none _) (by go_simp) rfl)
    · refine Reg.oblB_pure rfl rfl rfl ?_
      intro ax wx hx hs hmm
      replace hx : Below W3.heap.size W3 wx := hx.below (Nat.le_refl _) (fun b hb => by cases hb)
      obtain ⟨e3, -⟩ := hs
      have g3 := Reg.ev (v := .pointer (some ⟨w.heap.size, 0, none⟩)) e3
      obtain ⟨l0_0, l0_1, l0_2, l0_3, l0_4, l0_5⟩ := str6 ((HS0_3.out.next hx))
      obtain ⟨l1_0, l1_1, l1_2, l1_3, l1_4, l1_5⟩ := str6 ((HS1_3.out.next hx))
      obtain ⟨l2_0, l2_1, l2_2, l2_3, l2_4, l2_5⟩ := str6 ((HS2_3.out.next hx))
      exact (Reg.wp_eqvB (Option.some_ne_none _) (by go_simp) rfl)
    · refine Reg.oblB_mem rfl rfl hOK (t := 41) rfl (List.mem_of_getElem? (i := 3) rfl) (by show 41 < 82; decide) (by show 7 < 15; decide) (fun _ _ => trivial) ?_
      intro ax wx rb hx hrb hs hmm
      replace hx : Below W3.heap.size W3 wx := hx.below (Nat.le_refl _) (fun b hb => by cases hb)
      obtain ⟨e38, e39, e40, -⟩ := hs
      have g39 := Reg.ev (v := .agg #[.int .i64 0, .slice none 0 0, .int .i64 0, .int .i64 0, .int .i64 0, .bool false]) e39
      have g40 := Reg.ev (v := .agg #[.int .i64 act, .string xk, .slice Ax nx cx, .int .i64 xlo, .int .i64 xhi, .int .i64 xn]) e40
      have m38 : (Reg.rulesM (fun b c => .func (.func f) #[] (cap b c))).pred (ax.eval (.tmp 38)) (hideL wx rb) wx.heap.size := hmm (4, 38) (List.mem_of_getElem? (i := 2) rfl) (by kernel_rfl)
      obtain ⟨b, c, e38, h1, h2, h3, h4⟩ := m38
      have g38 := Reg.ev e38
      have hsx := Below.size hx
      have hD := HDO.out ((blk A) ++ rb) none 0 0 b c Bx wx (by
        intro q hq
        rcases List.mem_append.1 hq with hq | hq
        · have := HBL.out q hq; omega
        · exact (hrb q hq).2.1) (BytesH.none_ _ _) (by omega) h1 h2 (sub_hideL wx.heap.size wx rb _ _ h1 h3) (sub_hideL wx.heap.size wx rb _ _ h2 h4) (HX.out.below ((HB_3.out.mono hBx).trans (hx.mono (by omega)))) (by omega)
      rw [HRU.out] at hD
      dsimp only at hD
      go_simp
      refine hD.mono ?_
      rintro e wy ⟨A1, n1, c1, A2, n2, c2, rfl, hy1, hy2, hby⟩
      unfold BytesH at hy1 hy2
      rw [hideL_append] at hy1 hy2
      exact ⟨_, rfl, hby, _, _, rfl, ⟨A1, n1, c1, rfl, hy1⟩, ⟨A2, n2, c2, rfl, hy2⟩⟩
    · refine Reg.oblB_mem rfl rfl hOK (t := 33) rfl (List.mem_of_getElem? (i := 4) rfl) (by show 33 < 82; decide) (by show 8 < 15; decide) (fun _ _ => trivial) ?_
      intro ax wx rb hx hrb hs hmm
      replace hx : Below W3.heap.size W3 wx := hx.below (Nat.le_refl _) (fun b hb => by cases hb)
      obtain ⟨e41, -⟩ := hs
      have m41 : (Reg.twoM (Reg.byH (blk A) (fun A n c => .agg (thingV A n c (some ⟨ckd, cda, clo, chi, cva⟩))) cda) (Reg.byH (blk A) (fun A n c => .agg (ansV A n c ⟨0, told⟩)) told.data)).pred (ax.eval (.tmp 41)) (hideL wx rb) wx.heap.size := hmm (7, 41) (List.mem_of_getElem? (i := 3) rfl) (by kernel_rfl)
      exact Reg.mv_mem rfl (Reg.run_mv (.inl rfl) rfl) m41
    · refine Reg.oblB_mem rfl rfl hOK (t := 42) rfl (List.mem_of_getElem? (i := 5) rfl) (by show 42 < 82; decide) (by show 9 < 15; decide) (fun _ _ => trivial) ?_
      intro ax wx rb hx hrb hs hmm
      replace hx : Below W3.heap.size W3 wx := hx.below (Nat.le_refl _) (fun b hb => by cases hb)
      obtain ⟨e33, -⟩ := hs
      have m33 : (Reg.twoM (Reg.byH (blk A) (fun A n c => .agg (thingV A n c (some ⟨ckd, cda, clo, chi, cva⟩))) cda) (Reg.byH (blk A) (fun A n c => .agg (ansV A n c ⟨0, told⟩)) told.data)).pred (ax.eval (.tmp 33)) (hideL wx rb) wx.heap.size := hmm (8, 33) (List.mem_of_getElem? (i := 4) rfl) (by kernel_rfl)
      obtain ⟨x0, x1, ex, hp0, hp1⟩ := m33
      exact Reg.mv_mem rfl (Reg.run_ex rfl ex rfl) hp0
    · refine Reg.oblB_mem rfl rfl hOK (t := 43) rfl (List.mem_of_getElem? (i := 6) rfl) (by show 43 < 82; decide) (by show 10 < 15; decide) (fun _ _ => trivial) ?_
      intro ax wx rb hx hrb hs hmm
      replace hx : Below W3.heap.size W3 wx := hx.below (Nat.le_refl _) (fun b hb => by cases hb)
      obtain ⟨e33, -⟩ := hs
      have m33 : (Reg.twoM (Reg.byH (blk A) (fun A n c => .agg (thingV A n c (some ⟨ckd, cda, clo, chi, cva⟩))) cda) (Reg.byH (blk A) (fun A n c => .agg (ansV A n c ⟨0, told⟩)) told.data)).pred (ax.eval (.tmp 33)) (hideL wx rb) wx.heap.size := hmm (8, 33) (List.mem_of_getElem? (i := 4) rfl) (by kernel_rfl)
      obtain ⟨x0, x1, ex, hp0, hp1⟩ := m33
      exact Reg.mv_mem rfl (Reg.run_ex rfl ex rfl) hp1
    · refine Reg.oblB_alloc rfl rfl hOK (t := 10) (js := 13) (List.mem_of_getElem? (i := 0) rfl) rfl (by show 10 < 82; decide) (by show 11 < 15; decide) (fun _ _ => trivial) (by rfl) ?_
      intro ax wx hx
      replace hx : Below W3.heap.size W3 wx := hx.below (Nat.le_refl _) (fun b hb => by cases hb)
      exact Reg.al_box rfl (by kernel_rfl)
    · refine Reg.oblB_alloc rfl rfl hOK (t := 11) (js := 14) (List.mem_of_getElem? (i := 1) rfl) rfl (by show 11 < 82; decide) (by show 12 < 15; decide) (fun _ _ => trivial) (by rfl) ?_
      intro ax wx hx
      replace hx : Below W3.heap.size W3 wx := hx.below (Nat.le_refl _) (fun b hb => by cases hb)
      exact Reg.al_box rfl (by kernel_rfl)
    · refine Reg.oblB_store rfl rfl hOK (t := 10) (ja := 11) (List.mem_of_getElem? (i := 0) rfl) rfl (by show 13 < 15; decide) (by kernel_rfl) (fun _ _ => trivial) ?_
      intro ax wx rb g hx hrb hs hmm he hS
      replace hx : Below W3.heap.size W3 wx := hx.below (Nat.le_refl _) (fun b hb => by cases hb)
      obtain ⟨e10, e42, -⟩ := hs
      have m42 : (Reg.byH (blk A) (fun A n c => .agg (thingV A n c (some ⟨ckd, cda, clo, chi, cva⟩))) cda).pred (ax.eval (.tmp 42)) (hideL wx rb) wx.heap.size := hmm (9, 42) (List.mem_of_getElem? (i := 5) rfl) (by kernel_rfl)
      obtain ⟨A1, n1, c1, e42, hy1⟩ := m42
      exact Reg.st_box rfl (Reg.run_st_box rfl he e42 hS rfl (by kernel_rfl) rfl) rfl ⟨A1, n1, c1, rfl, hy1⟩
    · refine Reg.oblB_store rfl rfl hOK (t := 11) (ja := 12) (List.mem_of_getElem? (i := 1) rfl) rfl (by show 14 < 15; decide) (by kernel_rfl) (fun _ _ => trivial) ?_
      intro ax wx rb g hx hrb hs hmm he hS
      replace hx : Below W3.heap.size W3 wx := hx.below (Nat.le_refl _) (fun b hb => by cases hb)
      obtain ⟨e11, e43, -⟩ := hs
      have m43 : (Reg.byH (blk A) (fun A n c => .agg (ansV A n c ⟨0, told⟩)) told.data).pred (ax.eval (.tmp 43)) (hideL wx rb) wx.heap.size := hmm (10, 43) (List.mem_of_getElem? (i := 6) rfl) (by kernel_rfl)
      obtain ⟨A1, n1, c1, e43, hy1⟩ := m43
      exact Reg.st_box rfl (Reg.run_st_box rfl he e43 hS rfl (by kernel_rfl) rfl) rfl ⟨A1, n1, c1, rfl, hy1⟩
  · intro W4 listed hwf hall
    simp only [Reg.Fin]
    rintro v34 h34 _ rfl _ rfl v37 h37 v38 h38 _ rfl _ rfl v41 h41 v33 h33 v42 h42 v43 h43 v10 h10 v11 h11 vn13 hn13 vn14 hn14
    intro hJ
    obtain ⟨hJM, hJB, hJN, hJ0⟩ := Reg.bj_end (n := 15) hall (by show ∀ b ∈ ([(11, 10, 13), (12, 11, 14)] : List (Nat × Tmp × Nat)), b.1 < 15 ∧ b.2.2 < 15; decide) (by show ∀ m ∈ ([(0, 34), (3, 37), (4, 38), (7, 41), (8, 33), (9, 42), (10, 43)] : List (Nat × Tmp)), m.1 < 15; decide) (by show ∀ k ∈ ([] : List Nat), k < 15; decide) hJ
    have hm34 : (Reg.rulesM (fun b c => .agg (rulesV b c))).pred v34 W4 W4.heap.size := by have h := hJM (0, 34) (List.mem_of_getElem? (i := 0) rfl); simpa [Act.eval, Act.put] using h
    have hm37 : (Reg.rulesM (fun b c => .agg #[.func (.func f) #[] (cap b c)])).pred v37 W4 W4.heap.size := by have h := hJM (3, 37) (List.mem_of_getElem? (i := 1) rfl); simpa [Act.eval, Act.put] using h
    have hm38 : (Reg.rulesM (fun b c => .func (.func f) #[] (cap b c))).pred v38 W4 W4.heap.size := by have h := hJM (4, 38) (List.mem_of_getElem? (i := 2) rfl); simpa [Act.eval, Act.put] using h
    have hm41 : (Reg.twoM (Reg.byH (blk A) (fun A n c => .agg (thingV A n c (some ⟨ckd, cda, clo, chi, cva⟩))) cda) (Reg.byH (blk A) (fun A n c => .agg (ansV A n c ⟨0, told⟩)) told.data)).pred v41 W4 W4.heap.size := by have h := hJM (7, 41) (List.mem_of_getElem? (i := 3) rfl); simpa [Act.eval, Act.put] using h
    have hm33 : (Reg.twoM (Reg.byH (blk A) (fun A n c => .agg (thingV A n c (some ⟨ckd, cda, clo, chi, cva⟩))) cda) (Reg.byH (blk A) (fun A n c => .agg (ansV A n c ⟨0, told⟩)) told.data)).pred v33 W4 W4.heap.size := by have h := hJM (8, 33) (List.mem_of_getElem? (i := 4) rfl); simpa [Act.eval, Act.put] using h
    have hm42 : (Reg.byH (blk A) (fun A n c => .agg (thingV A n c (some ⟨ckd, cda, clo, chi, cva⟩))) cda).pred v42 W4 W4.heap.size := by have h := hJM (9, 42) (List.mem_of_getElem? (i := 5) rfl); simpa [Act.eval, Act.put] using h
    have hm43 : (Reg.byH (blk A) (fun A n c => .agg (ansV A n c ⟨0, told⟩)) told.data).pred v43 W4 W4.heap.size := by have h := hJM (10, 43) (List.mem_of_getElem? (i := 6) rfl); simpa [Act.eval, Act.put] using h
    obtain ⟨b10, cs10, eb10, hb10, hS10, hX10⟩ := hJB (11, 10, 13) (List.mem_of_getElem? (i := 0) rfl)
    have ec10 : v10 = .pointer (some ⟨b10, 0, none⟩) := by simpa [Act.eval, Act.put] using eb10
    have hX10 : (Reg.rowM (Reg.byH (blk A) (fun A n c => .agg (thingV A n c (some ⟨ckd, cda, clo, chi, cva⟩))) cda)).pred cs10 W4 W4.heap.size := hX10
    obtain ⟨b11, cs11, eb11, hb11, hS11, hX11⟩ := hJB (12, 11, 14) (List.mem_of_getElem? (i := 1) rfl)
    have ec11 : v11 = .pointer (some ⟨b11, 0, none⟩) := by simpa [Act.eval, Act.put] using eb11
    have hX11 : (Reg.rowM (Reg.byH (blk A) (fun A n c => .agg (ansV A n c ⟨0, told⟩)) told.data)).pred cs11 W4 W4.heap.size := hX11
    have hne10_11 : b10 ≠ b11 := by have h := hJN (11, 10, 13) (List.mem_of_getElem? (i := 0) rfl) (12, 11, 14) (List.mem_of_getElem? (i := 1) rfl) (by decide); intro e; apply h; rw [eb10, eb11, e]
    clear hJM hJB hJN hJ0 hJ hall eb10 eb11
    subst ec10
    subst ec11
    go_simp
    replace hwf : Below W3.heap.size W3 W4 := Reg.KeepB.below hwf (Nat.le_refl _) (fun b hb => by cases hb)
    have hbw : Below w.heap.size W3 W4 := hwf.mono (by omega)
    have HS0_4 := Lib.hid (HS0_3.out.next hwf)
    have HS1_4 := Lib.hid (HS1_3.out.next hwf)
    have HS2_4 := Lib.hid (HS2_3.out.next hwf)
    have HB_4 := Lib.hid (HB_3.out.trans hbw)
    have hw_4 := HB_4.out.size
    have hws_4 := hbw.size
    have HSn10 := Lib.hid hS10
    clear hS10
    have HSn11 := Lib.hid hS11
    clear hS11
    clear f0_3 HS0_3 hf0_3 f1_3 HS1_3 hf1_3 f2_3 HS2_3
    clear hwf hbw hOK
    obtain ⟨A1, n1, c1, e10, hy1⟩ := hX10
    obtain ⟨A2, n2, c2, e11, hy2⟩ := hX11
    obtain rfl : cs10 = thingV A1 n1 c1 (some ⟨ckd, cda, clo, chi, cva⟩) := Value.agg.inj e10
    obtain rfl : cs11 = ansV A2 n2 c2 ⟨0, told⟩ := Value.agg.inj e11
    clear e10 e11
    have HS3_4 : Hid (Str W4 b10 #[.int .i64 ckd, .slice A1 n1 c1, .int .i64 clo, .int .i64 chi, .int .i64 cva, .bool true]) := HSn10
    have HS4_4 : Hid (Str W4 b11 #[.int .i64 0, .int .i64 told.kind, .slice A2 n2 c2, .int .i64 told.lo, .int .i64 told.hi, .int .i64 told.val]) := HSn11
    clear HSn10 HSn11
    have HYt_4 := Lib.hid ((show BytesH (blk A) W4 A1 n1 c1 cda from hy1))
    have HYa_4 := Lib.hid ((show BytesH (blk A) W4 A2 n2 c2 told.data from hy2))
    clear hy1 hy2
    have f0_4 := str6 HS0_4.out
    have hl0_4 := HS0_4.out.lt
    have hf0_4 := fun j => HS0_4.out.frozen j
    have f1_4 := str6 HS1_4.out
    have hl1_4 := HS1_4.out.lt
    have hf1_4 := fun j => HS1_4.out.frozen j
    have f2_4 := str6 HS2_4.out
    have hl2_4 := HS2_4.out.lt
    have f3_4 := str6 HS3_4.out
    have hl3_4 := HS3_4.out.lt
    have f4_4 := str6 HS4_4.out
    have hl4_4 := HS4_4.out.lt
    have hob : ∀ b, w.heap.size ≤ b → (Value.slice A 0 0).ownBlock ≠ some b := by
      intro b hb2 e
      have := HBL.out b (by
        revert e
        cases A with
        | none => intro e; simp [Value.ownBlock] at e
        | some a => intro e; simp only [Value.ownBlock, Option.some.injEq] at e; simp [blk, e])
      omega
    have hgb : ∀ k, (Value.slice A 0 0).ownBlock = some k → base ≤ k := by
      intro k e
      cases A with
      | none => simp [Value.ownBlock] at e
      | some a => simp only [Value.ownBlock, Option.some.injEq] at e; have := HGE.out a rfl; omega
    go_wp2_with fail
    generalize hW5 : W4.alloc (.cells #[.string xk, .int .i64 ckd, .slice A1 n1 c1, .int .i64 clo, .int .i64 chi, .int .i64 cva] 85) = W5
    have HS0_5 := sEq hW5 (HS0_4.out.alloc _)
    have HS1_5 := sEq hW5 (HS1_4.out.alloc _)
    have HS2_5 := sEq hW5 (HS2_4.out.alloc _)
    have HS3_5 := sEq hW5 (HS3_4.out.alloc _)
    have HS4_5 := sEq hW5 (HS4_4.out.alloc _)
    have HS5_5 := sEq hW5 (Str.new _ _ _)
    have hba5 : Below W4.heap.size W4 W5 := by rw [← hW5]; exact balloc (bsame _) _
    have HB_5 := Lib.hid (bstep HB_4.out hba5)
    have hw_5 := HB_5.out.size
    have hws_5 := hba5.size
    have HYt_5 := Lib.hid (HYt_4.out.next hba5)
    have HYa_5 := Lib.hid (HYa_4.out.next hba5)
    clear HYt_4 HYa_4
    clear hW5
    clear f0_4 HS0_4 hf0_4 f1_4 HS1_4 hf1_4 f2_4 HS2_4 f3_4 HS3_4 f4_4 HS4_4
    have f0_5 := str6 HS0_5.out
    have hl0_5 := HS0_5.out.lt
    have hf0_5 := fun j => HS0_5.out.frozen j
    have f1_5 := str6 HS1_5.out
    have hl1_5 := HS1_5.out.lt
    have hf1_5 := fun j => HS1_5.out.frozen j
    have f2_5 := str6 HS2_5.out
    have hl2_5 := HS2_5.out.lt
    have f3_5 := str6 HS3_5.out
    have hl3_5 := HS3_5.out.lt
    have f4_5 := str6 HS4_5.out
    have hl4_5 := HS4_5.out.lt
    have f5_5 := str6 HS5_5.out
    have hl5_5 := HS5_5.out.lt
    have hneA : ∀ a, A = some a → W4.heap.size ≠ a.block := by
      intro a e
      have := HBL.out a.block (by rw [e]; simp [blk])
      omega
    refine (insert_any A n cA base k l W4.heap.size 0 1 ⟨xk, ⟨ckd, cda, clo, chi, cva⟩⟩ W5 (H.out.next HB_5.out) (pair_lit HS5_5.out hneA HYt_5.out hxk hin) hkn (by omega) (by omega) _ HS5_5.out hneA).mono ?_
    rintro e W6 ⟨A', c', rfl, hO, hgr, hA'⟩
    have hne9 : ∀ b, w.heap.size ≤ b ∧ b < W4.heap.size → ∀ a, A' = some a → a.block ≠ b := by
      intro b hb9 a e
      rcases hA' with h9 | h9
      · rw [h9] at e
        have := HBL.out a.block (by rw [e]; simp [blk])
        omega
      · have := h9 a e
        omega
    clear hneA
    have HS0_6 := Lib.hid (HS0_5.out.grownO hgr (hob _ (by omega)))
    have HS1_6 := Lib.hid (HS1_5.out.grownO hgr (hob _ (by omega)))
    have HS2_6 := Lib.hid (HS2_5.out.grownO hgr (hob _ (by omega)))
    have HS3_6 := Lib.hid (HS3_5.out.grownO hgr (hob _ (by omega)))
    have HS4_6 := Lib.hid (HS4_5.out.grownO hgr (hob _ (by omega)))
    have HS5_6 := Lib.hid (HS5_5.out.grownO hgr (hob _ (by omega)))
    have HB_6 : Hid (Below base w W6) := Lib.hid (below_grownO (HB_5.out.mono hb) hgr (by omega) hgb)
    have hw_6 := hgr.size
    have HG_6 := Lib.hid ((grown_below HB_5.out ((Value.slice A 0 0).ownBlock)).trans hgr)
    have HYa_6 := Lib.hid (BytesH.rowNew (A' := A') HYa_5.out hgr hA')
    have HO_6 := Lib.hid hO
    clear hO hgr
    clear HYt_5
    clear HYa_5
    clear f0_5 HS0_5 hf0_5 f1_5 HS1_5 hf1_5 f2_5 HS2_5 f3_5 HS3_5 f4_5 HS4_5 f5_5 HS5_5
    have f0_6 := str6 HS0_6.out
    have hl0_6 := HS0_6.out.lt
    have hf0_6 := fun j => HS0_6.out.frozen j
    have f1_6 := str6 HS1_6.out
    have hl1_6 := HS1_6.out.lt
    have hf1_6 := fun j => HS1_6.out.frozen j
    have f2_6 := str6 HS2_6.out
    have hl2_6 := HS2_6.out.lt
    have f3_6 := str6 HS3_6.out
    have hl3_6 := HS3_6.out.lt
    have f4_6 := str6 HS4_6.out
    have hl4_6 := HS4_6.out.lt
    have f5_6 := str6 HS5_6.out
    have hl5_6 := HS5_6.out.lt
    go_wp2_with fail
    refine Reg.wp_region_tail (R := ext) (W := W6) [Reg.eqv (.slice A' (n + 1) c'), Reg.eqv (.agg #[.int .i64 0, .int .i64 told.kind, .slice A2 n2 c2, .int .i64 told.lo, .int .i64 told.hi, .int .i64 told.val]), Reg.eqv (.slice A' (n + 1) c')] 82 3 _ [[(0, none)], [(11, none)], [(80, some 0)]] rfl (by kernel_rfl) (by kernel_rfl) (by rfl) (by rfl) rfl (by kernel_rfl) ?_ [some 80, some 81, some 4] (by kernel_rfl) ?_
    · refine ⟨?_, ?_, ?_, trivial⟩
      · intro ax wx hx hs
        obtain ⟨e0, -⟩ := hs
        have g0 := Reg.ev (v := .slice A' (n + 1) c') e0
        exact Reg.obl_free rfl (Reg.wp_eqv (Option.some_ne_none _) (by go_simp) rfl)
      · intro ax wx hx hs
        obtain ⟨e11, -⟩ := hs
        have g11 := Reg.ev (v := .pointer (some ⟨b11, 0, none⟩)) e11
        obtain ⟨l4_0, l4_1, l4_2, l4_3, l4_4, l4_5⟩ := str6 (HS4_6.out.next hx)
        exact Reg.obl_free rfl (Reg.wp_eqv (Option.some_ne_none _) (by go_simp) rfl)
      · intro ax wx hx hs
        obtain ⟨e80, -⟩ := hs
        have g80 := Reg.ev (v := .slice A' (n + 1) c') e80
        exact Reg.obl_free rfl (Reg.wp_eqv (Option.some_ne_none _) (by go_simp) rfl)
    · intro W7 hwf
      simp only [Reg.Fin]
      rintro _ rfl _ rfl _ rfl
      have hwf' : Below W6.heap.size W6 W7 := hwf
      have HS0_7 := Lib.hid (HS0_6.out.next hwf')
      have HS1_7 := Lib.hid (HS1_6.out.next hwf')
      have HS2_7 := Lib.hid (HS2_6.out.next hwf')
      have HS3_7 := Lib.hid (HS3_6.out.next hwf')
      have HS4_7 := Lib.hid (HS4_6.out.next hwf')
      have HS5_7 := Lib.hid (HS5_6.out.next hwf')
      have HB_7 : Hid (Below base w W7) := Lib.hid (HB_6.out.trans (hwf'.mono (by omega)))
      have HO_7 := Lib.hid (HO_6.out.next hwf')
      have HYa_7 := Lib.hid (HYa_6.out.next hwf')
      have hw_7 := hwf'.size
      have HG_7 := Lib.hid (HG_6.out.trans (grown_below hwf' _))
      clear f0_6 HS0_6 hf0_6 f1_6 HS1_6 hf1_6 f2_6 HS2_6 f3_6 HS3_6 f4_6 HS4_6 f5_6 HS5_6
      clear hwf hwf' HO_6 HYa_6 HB_6
      have f0_7 := str6 HS0_7.out
      have hl0_7 := HS0_7.out.lt
      have hf0_7 := fun j => HS0_7.out.frozen j
      have f1_7 := str6 HS1_7.out
      have hl1_7 := HS1_7.out.lt
      have hf1_7 := fun j => HS1_7.out.frozen j
      have f2_7 := str6 HS2_7.out
      have hl2_7 := HS2_7.out.lt
      have f3_7 := str6 HS3_7.out
      have hl3_7 := HS3_7.out.lt
      have f4_7 := str6 HS4_7.out
      have hl4_7 := HS4_7.out.lt
      have f5_7 := str6 HS5_7.out
      have hl5_7 := HS5_7.out.lt
      refine Reg.Goal.mk ?_
      go_simp
      go_wp2_with fail
      generalize hW8 : ((((((W7).setCell ⟨w.heap.size + 1, 0, none⟩ (.int .i64 0)).setCell ⟨w.heap.size + 1, 1, none⟩ (.int .i64 told.kind)).setCell ⟨w.heap.size + 1, 2, none⟩ (.slice A2 n2 c2)).setCell ⟨w.heap.size + 1, 3, none⟩ (.int .i64 told.lo)).setCell ⟨w.heap.size + 1, 4, none⟩ (.int .i64 told.hi)).setCell ⟨w.heap.size + 1, 5, none⟩ (.int .i64 told.val) = W8
      have hgr : W7.grownBy W8 (some (w.heap.size + 1)) := by rw [← hW8]; exact grown_set (grown_set (grown_set (grown_set (grown_set (grown_set (grown_refl W7 (w.heap.size + 1)) 0 (.int .i64 0)) 1 (.int .i64 told.kind)) 2 (.slice A2 n2 c2)) 3 (.int .i64 told.lo)) 4 (.int .i64 told.hi)) 5 (.int .i64 told.val)
      have HSf : Str W8 (w.heap.size + 1) #[.int .i64 0, .int .i64 told.kind, .slice A2 n2 c2, .int .i64 told.lo, .int .i64 told.hi, .int .i64 told.val] := by rw [← hW8]; have := ((((((HS1_7.out).set 0 (.int .i64 0)).set 1 (.int .i64 told.kind)).set 2 (.slice A2 n2 c2)).set 3 (.int .i64 told.lo)).set 4 (.int .i64 told.hi)).set 5 (.int .i64 told.val); simpa using this
      obtain ⟨r0, r1, r2, r3, r4, r5⟩ := str6 HSf
      clear hW8 HSf
      exact bodyPost_ret (v := .tuple #[.slice A' (n + 1) c', .agg #[.int .i64 0, .int .i64 told.kind, .slice A2 n2 c2, .int .i64 told.lo, .int .i64 told.hi, .int .i64 told.val]]) (by simp [results, Tryz.results59, go_sem, *]) rfl ⟨_, _, _, A2, n2, c2, rfl, HO_7.out.grownU PairE_byt HS1_7.out rfl hgr (hne9 _ (by omega)), BytesH.grown HYa_7.out HS1_7.out rfl hgr, grownNew HG_7.out hgr (by omega), (hA'.imp id (fun h9 a e => by have := h9 a e; omega))⟩
end Go.Proofs.YtpklclnehlgcpaaGreat.ModelW
end
