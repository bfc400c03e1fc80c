/-
  model.step in one word.
-/
import Derived.Test.YtghgccgpgonlmaaModelG
import Derived.Test.YtghgccgpgonlmaaPModel2
import Derived.Laws.Externs
namespace Go.Proofs.Ytghgccgpgonlmaa.ModelP
theorem rule_err {t : Option Cell} {x : OpX} (h : (rule t x).1 ≠ 0) : rule t x = ((rule t x).1, none, CellP.none) := by
  unfold rule at *
  split
  · rename_i h0; rw [if_pos h0] at h; cases t <;> simp_all
  · rename_i h0
    rw [if_neg h0] at h
    split
    · rename_i h1; rw [if_pos h1] at h; split <;> simp_all
    · rename_i h1
      rw [if_neg h1] at h
      split
      · rename_i h2; rw [if_pos h2] at h; cases t <;> simp_all
      · rename_i h2
        rw [if_neg h2] at h
        split
        · rename_i h3; rw [if_pos h3] at h; cases t <;> simp_all
        · rename_i h3
          rw [if_neg h3] at h
          cases t with
          | none => rfl
          | some c =>
            dsimp only at *
            generalize (if x.act = 4 then c.val + x.n else c.val - x.n) = v at h ⊢
            split
            · rfl
            · rename_i hk
              rw [if_neg hk] at h
              split
              · rfl
              · rename_i hb
                rw [if_neg hb] at h
                exact absurd rfl h
theorem rule_some {x : OpX} (h : (rule none x).1 = 0) : ∃ c, (rule none x).2.1 = some c := by
  unfold rule at *
  split
  · rename_i h0; rw [if_pos h0] at h; simp at h
  · rename_i h0
    rw [if_neg h0] at h
    split
    · rename_i h1
      split
      · rename_i hk; simp [CellP.none] at hk
      · exact ⟨_, rfl⟩
    · rename_i h1
      rw [if_neg h1] at h
      split
      · exact ⟨_, rfl⟩
      · rename_i h2
        rw [if_neg h2] at h
        split
        · rename_i h3; rw [if_pos h3] at h; simp at h
        · rename_i h3; rw [if_neg h3] at h; simp at h
def CellIn (c : Cell) : Prop := In64 c.kind ∧ In64 c.lo ∧ In64 c.hi ∧ In64 c.val
theorem rule_in {t : Option Cell} {x : OpX} (ht : ∀ c, t = some c → CellIn c) (h1 : In64 x.lo) (h2 : In64 x.hi) (h3 : In64 x.n) : ∀ c, (rule t x).2.1 = some c → CellIn c := by
  intro c hc
  unfold rule at hc
  split at hc
  · cases t with
    | none => cases hc
    | some d => cases hc; exact ht _ rfl
  · split at hc
    · split at hc
      · cases hc
      · cases hc
        unfold CellIn In64; dsimp only; omega
    · split at hc
      · cases t with
        | some d => cases hc
        | none =>
          cases hc
          refine ⟨?_, h1, h2, h3⟩
          unfold In64; dsimp only; omega
      · split at hc
        · cases t <;> cases hc
        · cases t with
          | none => cases hc
          | some d =>
            dsimp only at hc
            generalize (if x.act = 4 then d.val + x.n else d.val - x.n) = v at hc
            split at hc
            · cases hc
            · split at hc
              · cases hc
              · rename_i hn
                simp only [Option.some.injEq] at hc
                subst hc
                obtain ⟨q1, q2, q3, q4⟩ := ht d rfl
                unfold In64 at q2 q3
                refine ⟨?_, q2, q3, ?_⟩ <;> (unfold In64; dsimp only; omega)
end Go.Proofs.Ytghgccgpgonlmaa.ModelP
namespace Go.Proofs.Ytghgccgpgonlmaa.ModelW
open Go.RowKit
set_option linter.unusedVariables false
theorem enterF {P : Program} {f : FuncId} {fn : Func} {c : Code} (hf : P.funcs[f]? = some fn) (hname : (fn.name == "runtime.NumGoroutine") = false) (hb : fn.body = some c) (args : Array Value) (w : World) : (callFunc f args).run P w = .ok (.enter f args) w := by
  have h1 : fn.name ≠ "runtime.NumGoroutine" := by simpa using hname
  simp [callFunc, hf, h1, hb]
theorem enter_read (args : Array Value) (w : World) : (callFunc 102 args).run Try.prog w = .ok (.enter 102 args) w := enterF Try.func102 (by kernel_rfl) rfl args w
theorem enter_write (args : Array Value) (w : World) : (callFunc 103 args).run Try.prog w = .ok (.enter 103 args) w := enterF Try.func103 (by kernel_rfl) rfl args w
theorem enter_create (args : Array Value) (w : World) : (callFunc 104 args).run Try.prog w = .ok (.enter 104 args) w := enterF Try.func104 (by kernel_rfl) rfl args w
theorem enter_drop (args : Array Value) (w : World) : (callFunc 105 args).run Try.prog w = .ok (.enter 105 args) w := enterF Try.func105 (by kernel_rfl) rfl args w
theorem enter_move1 (args : Array Value) (w : World) : (callFunc 127 args).run Try.prog w = .ok (.enter 127 args) w := enterF Try.func127 (by kernel_rfl) rfl args w
theorem ix0 (b c : Nat) (W : World) : (Instr.index 132 (.agg (rulesV b c)) (.int .i64 0)).run Try.prog W = .ok (.agg #[.func (.func 102) #[] ((fun _ _ => #[] : Nat → Nat → Array Value) b c)]) W := by
  simp [Instr.index, run_underlying Try.underlying132, rulesV, asIntOf, part, isAgg, run_underlying Try.underlying131]
theorem ix1 (b c : Nat) (W : World) : (Instr.index 132 (.agg (rulesV b c)) (.int .i64 1)).run Try.prog W = .ok (.agg #[.func (.func 103) #[] ((fun _ _ => #[] : Nat → Nat → Array Value) b c)]) W := by
  simp [Instr.index, run_underlying Try.underlying132, rulesV, asIntOf, part, isAgg, run_underlying Try.underlying131]
theorem ix2 (b c : Nat) (W : World) : (Instr.index 132 (.agg (rulesV b c)) (.int .i64 2)).run Try.prog W = .ok (.agg #[.func (.func 104) #[] ((fun _ _ => #[] : Nat → Nat → Array Value) b c)]) W := by
  simp [Instr.index, run_underlying Try.underlying132, rulesV, asIntOf, part, isAgg, run_underlying Try.underlying131]
theorem ix3 (b c : Nat) (W : World) : (Instr.index 132 (.agg (rulesV b c)) (.int .i64 3)).run Try.prog W = .ok (.agg #[.func (.func 105) #[] ((fun _ _ => #[] : Nat → Nat → Array Value) b c)]) W := by
  simp [Instr.index, run_underlying Try.underlying132, rulesV, asIntOf, part, isAgg, run_underlying Try.underlying131]
theorem ix4 (b c : Nat) (W : World) : (Instr.index 132 (.agg (rulesV b c)) (.int .i64 4)).run Try.prog W = .ok (.agg #[.func (.func 127) #[] ((fun b _ => #[.pointer (some ⟨b, 0, none⟩)] : Nat → Nat → Array Value) b c)]) W := by
  simp [Instr.index, run_underlying Try.underlying132, rulesV, asIntOf, part, isAgg, run_underlying Try.underlying131]
theorem ix5 (b c : Nat) (W : World) : (Instr.index 132 (.agg (rulesV b c)) (.int .i64 5)).run Try.prog W = .ok (.agg #[.func (.func 127) #[] ((fun _ c => #[.pointer (some ⟨c, 0, none⟩)] : Nat → Nat → Array Value) b c)]) W := by
  simp [Instr.index, run_underlying Try.underlying132, rulesV, asIntOf, part, isAgg, run_underlying Try.underlying131]
theorem OwnE.in_ {w : World} {base n c : Nat} {A : Option Addr} {l : List Pair} (h : OwnE PairE TPr w base A n c l) : ∀ p ∈ l, ModelP.CellIn p.cell ∧ p.key.size ≤ maxLen := by
  obtain ⟨vs, -, hr⟩ := h
  intro p hp
  obtain ⟨j, hj, rfl⟩ := List.getElem_of_mem hp
  obtain ⟨v, -, A1, n1, c1, -, -, h1, h2, h3, h4, h5⟩ := hr.get (List.getElem?_eq_getElem hj)
  exact ⟨⟨h2, h3, h4, h5⟩, h1⟩
theorem step_at (A : Option Addr) (n cA base : Nat) (l : List Pair) (act : Int) (xk : ByteArray) (xdata : List UInt8) (Ax : Option Addr) (nx cx Bx : Nat) (xlo xhi xn : Int) (w : World) (h : OwnE PairE TPr w base A n cA l) (hb : base ≤ w.heap.size) (hr : ModelP.Rises l) (hn : n ≤ 1000) (hx : Bytes w Bx Ax nx cx xdata) (hBx : Bx ≤ w.heap.size) (hxk : xk.size ≤ maxLen) (hd : ∀ p ∈ l, p.cell.data.length ≤ 100000) (hi1 : In64 xlo) (hi2 : In64 xhi) (hi3 : In64 xn) (hg : ModelP.good ⟨act, xk, xdata, xlo, xhi, xn⟩ = true) (f : FuncId) (cap : Nat → Nat → Array Value)
    (hix : ∀ b c W, (Instr.index 132 (.agg (rulesV b c)) (.int .i64 act)).run Try.prog W = .ok (.agg #[.func (.func f) #[] (cap b c)]) W) (hcf : ∀ args W, (callFunc f args).run Try.prog W = .ok (.enter f args) W)
    (hdo : ∀ t, (∀ c, t = some c → ModelP.CellIn c) → Does t ⟨act, xk, xdata, xlo, xhi, xn⟩ Ax nx cx f cap) :
    Calls Try.prog 64 #[.slice A n cA, .agg #[.int .i64 act, .string xk, .slice Ax nx cx, .int .i64 xlo, .int .i64 xhi, .int .i64 xn]] w (GivesStep base A w (ModelP.step l ⟨act, xk, xdata, xlo, xhi, xn⟩)) := by
  obtain ⟨k, hat⟩ : ∃ k, ModelP.at_ l xk = k := ⟨_, rfl⟩
  have hin := OwnE.in_ h
  have hfind := ModelP.find_eq xk l hr
  rw [hat] at hfind
  by_cases hh : hasB l xk = true
  · have hkey := (hasB_iff l xk).1 hh
    rw [hat] at hkey
    obtain ⟨p, hp, hpk⟩ := Option.map_eq_some_iff.1 hkey
    obtain ⟨pk, pkd, pda, plo, phi, pva⟩ := p
    dsimp only at hpk
    subst hpk
    rw [if_pos hkey, hp] at hfind
    have hmem := List.mem_of_getElem? hp
    have hpd := hd _ hmem
    have hpin := (hin _ hmem).1
    have hdo' := hdo (some ⟨pkd, pda, plo, phi, pva⟩) (fun c e => by cases e; exact hpin)
    have hrin := ModelP.rule_in (t := some ⟨pkd, pda, plo, phi, pva⟩) (x := ⟨act, pk, xdata, xlo, xhi, xn⟩) (fun c e => by cases e; exact hpin) hi1 hi2 hi3
    have hstep : ModelP.step l ⟨act, pk, xdata, xlo, xhi, xn⟩ = if (ModelP.rule (some ⟨pkd, pda, plo, phi, pva⟩) ⟨act, pk, xdata, xlo, xhi, xn⟩).1 ≠ 0 then (l, ⟨(ModelP.rule (some ⟨pkd, pda, plo, phi, pva⟩) ⟨act, pk, xdata, xlo, xhi, xn⟩).1, CellP.none⟩) else (ModelP.put l pk (ModelP.rule (some ⟨pkd, pda, plo, phi, pva⟩) ⟨act, pk, xdata, xlo, xhi, xn⟩).2.1, ⟨0, (ModelP.rule (some ⟨pkd, pda, plo, phi, pva⟩) ⟨act, pk, xdata, xlo, xhi, xn⟩).2.2⟩) := by
      unfold ModelP.step
      rw [if_neg (by rw [hg]; simp)]
      dsimp only
      rw [hfind]
      rfl
    rw [hstep]
    by_cases he : (ModelP.rule (some ⟨pkd, pda, plo, phi, pva⟩) ⟨act, pk, xdata, xlo, xhi, xn⟩).1 ≠ 0
    · rw [if_pos he]
      exact step_hasA A n cA base k l act pk xdata Ax nx cx Bx xlo xhi xn pkd pda plo phi pva _ f cap w h hb hr hn hx hBx hxk hg hat hh hp hpd hix hcf hdo' (ModelP.rule_err he) (by simpa using he)
    · rw [if_neg he]
      have he : (ModelP.rule (some ⟨pkd, pda, plo, phi, pva⟩) ⟨act, pk, xdata, xlo, xhi, xn⟩).1 = 0 := by simpa using he
      obtain ⟨th, hth⟩ : ∃ th, (ModelP.rule (some ⟨pkd, pda, plo, phi, pva⟩) ⟨act, pk, xdata, xlo, xhi, xn⟩).2.1 = th := ⟨_, rfl⟩
      obtain ⟨told, htold⟩ : ∃ told, (ModelP.rule (some ⟨pkd, pda, plo, phi, pva⟩) ⟨act, pk, xdata, xlo, xhi, xn⟩).2.2 = told := ⟨_, rfl⟩
      have hR : ModelP.rule (some ⟨pkd, pda, plo, phi, pva⟩) ⟨act, pk, xdata, xlo, xhi, xn⟩ = (0, th, told) := by rw [← hth, ← htold, ← he]
      rw [hth, htold]
      cases th with
      | none =>
        rw [ModelP.put_del l pk (by rw [hat]; exact hkey), hat]
        exact step_hasD A n cA base k l act pk xdata Ax nx cx Bx xlo xhi xn pkd pda plo phi pva told f cap w h hb hr hn hx hBx hxk hg hat hh hp hpd hix hcf hdo' hR
      | some c =>
        have hc := hrin c hth
        rw [ModelP.put_set l pk c (by rw [hat]; exact hkey), hat]
        obtain ⟨ckd, cda, clo, chi, cva⟩ := c
        exact step_hasB A n cA base k l act pk xdata Ax nx cx Bx xlo xhi xn pkd pda plo phi pva told ckd cda clo chi cva f cap w h hb hr hn hx hBx hxk hg hat hh hp hpd hix hcf hdo' hR hc
  · have hh : hasB l xk = false := by simpa using hh
    have hkey : ¬ (l[k]?).map (·.key) = some xk := by
      intro e
      have := (hasB_iff l xk).2 (by rw [hat]; exact e)
      rw [hh] at this
      cases this
    rw [if_neg hkey] at hfind
    have hdo' := hdo none (fun c e => by cases e)
    have hrin := ModelP.rule_in (t := none) (x := ⟨act, xk, xdata, xlo, xhi, xn⟩) (fun c e => by cases e) hi1 hi2 hi3
    have hstep : ModelP.step l ⟨act, xk, xdata, xlo, xhi, xn⟩ = if (ModelP.rule none ⟨act, xk, xdata, xlo, xhi, xn⟩).1 ≠ 0 then (l, ⟨(ModelP.rule none ⟨act, xk, xdata, xlo, xhi, xn⟩).1, CellP.none⟩) else (ModelP.put l xk (ModelP.rule none ⟨act, xk, xdata, xlo, xhi, xn⟩).2.1, ⟨0, (ModelP.rule none ⟨act, xk, xdata, xlo, xhi, xn⟩).2.2⟩) := by
      unfold ModelP.step
      rw [if_neg (by rw [hg]; simp)]
      dsimp only
      rw [hfind]
    rw [hstep]
    by_cases he : (ModelP.rule none ⟨act, xk, xdata, xlo, xhi, xn⟩).1 ≠ 0
    · rw [if_pos he]
      exact step_noA A n cA base k l act xk xdata Ax nx cx Bx xlo xhi xn _ f cap w h hb hr hn hx hBx hxk hg hat hh hix hcf hdo' (ModelP.rule_err he) (by simpa using he)
    · rw [if_neg he]
      have he : (ModelP.rule none ⟨act, xk, xdata, xlo, xhi, xn⟩).1 = 0 := by simpa using he
      obtain ⟨c, hth⟩ := ModelP.rule_some he
      obtain ⟨told, htold⟩ : ∃ told, (ModelP.rule none ⟨act, xk, xdata, xlo, xhi, xn⟩).2.2 = told := ⟨_, rfl⟩
      have hR : ModelP.rule none ⟨act, xk, xdata, xlo, xhi, xn⟩ = (0, some c, told) := by rw [← hth, ← htold, ← he]
      have hc := hrin c hth
      rw [hth, htold, ModelP.put_ins l xk c (by rw [hat]; exact hkey), hat]
      obtain ⟨ckd, cda, clo, chi, cva⟩ := c
      exact step_noC A n cA base k l act xk xdata Ax nx cx Bx xlo xhi xn told ckd cda clo chi cva f cap w h hb hr hn hx hBx hxk hg hat hh hix hcf hdo' hR hc
/-- model.step -/
theorem step_any (A : Option Addr) (n cA base : Nat) (l : List Pair) (act : Int) (xk : ByteArray) (xdata : List UInt8) (Ax : Option Addr) (nx cx Bx : Nat) (xlo xhi xn : Int) (w : World) (h : OwnE PairE TPr w base A n cA l) (hb : base ≤ w.heap.size) (hr : ModelP.Rises l) (hn : n ≤ 1000) (hx : Bytes w Bx Ax nx cx xdata) (hBx : Bx ≤ w.heap.size) (hxk : xk.size ≤ maxLen) (hd : ∀ p ∈ l, p.cell.data.length ≤ 100000) (hi1 : In64 xlo) (hi2 : In64 xhi) (hi3 : In64 xn) (hnx : nx ≤ 100000) :
    Calls Try.prog 64 #[.slice A n cA, .agg #[.int .i64 act, .string xk, .slice Ax nx cx, .int .i64 xlo, .int .i64 xhi, .int .i64 xn]] w (GivesStep base A w (ModelP.step l ⟨act, xk, xdata, xlo, xhi, xn⟩)) := by
  by_cases hg : ModelP.good ⟨act, xk, xdata, xlo, xhi, xn⟩ = true
  · have hact : 0 ≤ act ∧ act ≤ 5 := by
      unfold ModelP.good at hg
      simp only [Bool.and_eq_true, decide_eq_true_eq] at hg
      exact hg.1
    have hcase : act = 0 ∨ act = 1 ∨ act = 2 ∨ act = 3 ∨ act = 4 ∨ act = 5 := by omega
    rcases hcase with rfl | rfl | rfl | rfl | rfl | rfl
    · refine step_at A n cA base l 0 xk xdata Ax nx cx Bx xlo xhi xn w h hb hr hn hx hBx hxk hd hi1 hi2 hi3 hg 102 (fun _ _ => #[]) ix0 enter_read ?_
      intro t ht bs A n c b d Bx W hbs h1 h2 h3 h4 h5 h6 h7 h8
      have := does0 bs t A n c xk xdata Ax nx cx xlo xhi xn W hbs h1 h2
      simpa using this
    · refine step_at A n cA base l 1 xk xdata Ax nx cx Bx xlo xhi xn w h hb hr hn hx hBx hxk hd hi1 hi2 hi3 hg 103 (fun _ _ => #[]) ix1 enter_write ?_
      intro t ht bs A n c b d Bx W hbs h1 h2 h3 h4 h5 h6 h7 h8
      have := does1 bs t A n c xk xdata Ax nx cx xlo xhi xn W hbs h1 h2 Bx h7 h8 hnx
      simpa using this
    · refine step_at A n cA base l 2 xk xdata Ax nx cx Bx xlo xhi xn w h hb hr hn hx hBx hxk hd hi1 hi2 hi3 hg 104 (fun _ _ => #[]) ix2 enter_create ?_
      intro t ht bs A n c b d Bx W hbs h1 h2 h3 h4 h5 h6 h7 h8
      have := does2 bs t A n c xk xdata Ax nx cx xlo xhi xn W hbs h1 h2
      simpa using this
    · refine step_at A n cA base l 3 xk xdata Ax nx cx Bx xlo xhi xn w h hb hr hn hx hBx hxk hd hi1 hi2 hi3 hg 105 (fun _ _ => #[]) ix3 enter_drop ?_
      intro t ht bs A n c b d Bx W hbs h1 h2 h3 h4 h5 h6 h7 h8
      have := does3 bs t A n c xk xdata Ax nx cx xlo xhi xn W hbs h1 h2
      simpa using this
    · refine step_at A n cA base l 4 xk xdata Ax nx cx Bx xlo xhi xn w h hb hr hn hx hBx hxk hd hi1 hi2 hi3 hg 127 (fun b _ => #[.pointer (some ⟨b, 0, none⟩)]) ix4 enter_move1 ?_
      intro t ht bs A n c b d Bx W hbs h1 h2 h3 h4 h5 h6 h7 h8
      have := does4 bs t A n c xk xdata Ax nx cx xlo xhi xn W hbs h1 h2 b h3 h5 hi3 (fun c0 e => ⟨(ht c0 e).2.2.2, (ht c0 e).2.1, (ht c0 e).2.2.1⟩)
      simpa using this
    · refine step_at A n cA base l 5 xk xdata Ax nx cx Bx xlo xhi xn w h hb hr hn hx hBx hxk hd hi1 hi2 hi3 hg 127 (fun _ c => #[.pointer (some ⟨c, 0, none⟩)]) ix5 enter_move1 ?_
      intro t ht bs A n c b d Bx W hbs h1 h2 h3 h4 h5 h6 h7 h8
      have := does5 bs t A n c xk xdata Ax nx cx xlo xhi xn W hbs h1 h2 d h4 h6 hi3 (fun c0 e => ⟨(ht c0 e).2.2.2, (ht c0 e).2.1, (ht c0 e).2.2.1⟩)
      simpa using this
  · have hg : ModelP.good ⟨act, xk, xdata, xlo, xhi, xn⟩ = false := by simpa using hg
    have e : ModelP.step l ⟨act, xk, xdata, xlo, xhi, xn⟩ = (l, ⟨1, CellP.none⟩) := by
      unfold ModelP.step
      rw [if_pos hg]
    rw [e]
    exact step_bad A n cA base l act xk xdata Ax nx cx xlo xhi xn w h hb hx.len hxk hg
theorem step_eq {l : List Pair} {x : OpX} {t : Option Cell} (hg : ModelP.good x = true) (hf : ModelP.find l x.key = t) : ModelP.step l x = if (ModelP.rule t x).1 ≠ 0 then (l, ⟨(ModelP.rule t x).1, CellP.none⟩) else (ModelP.put l x.key (ModelP.rule t x).2.1, ⟨0, (ModelP.rule t x).2.2⟩) := by
  unfold ModelP.step
  rw [if_neg (by rw [hg]; simp), hf]
theorem step_err {l : List Pair} {x : OpX} {t : Option Cell} {e : Int} (hg : ModelP.good x = true) (hf : ModelP.find l x.key = t) (hr : ModelP.rule t x = (e, none, CellP.none)) (he : e ≠ 0) : ModelP.step l x = (l, ⟨e, CellP.none⟩) := by
  rw [step_eq hg hf, hr, if_pos he]
theorem step_ok {l : List Pair} {x : OpX} {t : Option Cell} {th : Option Cell} {told : Cell} (hg : ModelP.good x = true) (hf : ModelP.find l x.key = t) (hr : ModelP.rule t x = (0, th, told)) : ModelP.step l x = (ModelP.put l x.key th, ⟨0, told⟩) := by
  rw [step_eq hg hf, hr, if_neg (by simp)]
end Go.Proofs.Ytghgccgpgonlmaa.ModelW
