/-
  Parts of the proof of WalNils.
-/
import Derived.Test.YtiokcemlfdonnaaWalP11
import Derived.Defers
import Derived.Recover
import Derived.FnLit
import Derived.Scope
import Derived.BigQuiet
import Derived.WalkArith
section
namespace Go.Proofs.Ytiokcemlfdonnaa
open Go.RowKit Go.Maps
set_option linter.unusedVariables false
set_option linter.unusedSimpArgs false
theorem DevW.str10 {w : World} {b : Nat} {c0 c1 c2 c3 c4 c5 c6 c7 c8 c9 : Value} (h : Str w b #[c0, c1, c2, c3, c4, c5, c6, c7, c8, c9]) :
    w.cell? ⟨b, 0, none⟩ = some c0 ∧ w.cell? ⟨b, 1, none⟩ = some c1 ∧ w.cell? ⟨b, 2, none⟩ = some c2 ∧ w.cell? ⟨b, 3, none⟩ = some c3 ∧ w.cell? ⟨b, 4, none⟩ = some c4 ∧ w.cell? ⟨b, 5, none⟩ = some c5 ∧ w.cell? ⟨b, 6, none⟩ = some c6 ∧ w.cell? ⟨b, 7, none⟩ = some c7 ∧ w.cell? ⟨b, 8, none⟩ = some c8 ∧ w.cell? ⟨b, 9, none⟩ = some c9 :=
  ⟨h.cell 0, h.cell 1, h.cell 2, h.cell 3, h.cell 4, h.cell 5, h.cell 6, h.cell 7, h.cell 8, h.cell 9⟩
namespace DevW
variable {d sb mb : Nat} {bp bs : List Nat} {gb : Option Nat} {A : Option Addr} {n c nm : Nat} {es : List (Int × SlV)} {X : DevX}
set_option maxRecDepth 100000 in
set_option maxHeartbeats 1000000 in
theorem do1_any (b : Nat) (u : FrameMode) (w : World) (hB : Str w b #[.pointer (some ⟨d, 0, none⟩)]) (hI : In w d sb mb bp gb A n c nm es X) (hne : b ≠ d) (hs : X.ops ≤ 1000000000) (hf : X.fused = true → X.fuse ≠ 0) :
    CallsD Try.prog 121 #[.pointer (some ⟨b, 0, none⟩)] u w fun e u' w' => u' = u ∧ (e = .returned (.tuple #[]) ∧ In w' d sb mb bp gb A n c nm es (DevP.done X) ∧ w.grownBy w' (some d)) := by
  have HI := Lib.hid hI
  have ho := hI.ok.o0
  have hf0 := hI.ok.f0
  have hf1 := hI.ok.f1
  have f0 := str1 hB
  have f1 := str10 hI.box
  have hz := fun j => hI.box.frozen j
  have hb := hI.box
  have hl := hI.box.lt
  have HB := Lib.hid hb
  have HF := Lib.hid hf
  clear hI hb hB hf
  obtain ⟨safe, now, log, stale, head, sure, fused, fuse, off, ops, wr⟩ := X
  dsimp only at ho hf0 hf1 hs f1
  cases fused with
  | false =>
    go_enter_d Try.func121, Try.ntmps121
    go_wp2
    go_end0
    refine ⟨rfl, ?_, grown_set (grown_refl w d) 9 _⟩
    exact HI.out.turn (X' := DevP.done ⟨safe, now, log, stale, head, sure, false, fuse, off, ops, wr⟩) (grown_set (grown_refl w d) 9 _) (HB.out.set 9 _) rfl rfl rfl (Nat.le_refl _) (DevP.ok_done HI.out.ok (fun h => by cases h))
  | true =>
    have hfu : fuse ≠ 0 := HF.out rfl
    go_enter_d Try.func121, Try.ntmps121
    go_wp2
    go_end0
    refine ⟨rfl, ?_, grown_set (grown_set (grown_refl w d) 9 _) 7 _⟩
    exact HI.out.turn (X' := DevP.done ⟨safe, now, log, stale, head, sure, true, fuse, off, ops, wr⟩) (grown_set (grown_set (grown_refl w d) 9 _) 7 _) ((HB.out.set 9 _).set 7 _) rfl rfl rfl (Nat.le_refl _) (DevP.ok_done HI.out.ok (fun _ => hfu))
set_option maxRecDepth 100000 in
set_option maxHeartbeats 1000000 in
theorem do_ok (fn : FuncId) (first : Array Value) (E : World → Prop) (js : List Nat) (w : World) (X1 : DevX) (hD : Dev w d bs X) (hs : X.ops ≤ 1000000000) (ho : X.off = false) (hf : X.fused = true → X.fuse ≠ 0) (hj : ∀ b ∈ js, b < w.heap.size)
    (hE : ∀ W1 W2 : World, W1.grownBy W2 (some d) → E W1 → E W2) (h1 : X1.fused = X.fused) (h2 : X1.fuse = X.fuse) (h3 : X1.ops = X.ops)
    (hce : ∀ W : World, (callFunc fn first).run Try.prog W = .ok (.enter fn first) W)
    (hact : ∀ W, Below w.heap.size w W → Calls Try.prog fn first W fun e W' => e = .returned (.tuple #[]) ∧ ∃ bs', Dev W' d bs' X1 ∧ Reg.KeepB W.heap.size (js ++ bs) W W' ∧ (∀ b ∈ bs', b ∈ bs ∨ W.heap.size ≤ b) ∧ E W') :
    Calls Try.prog 97 #[.pointer (some ⟨d, 0, none⟩), .bool true, .func (.func fn) first #[]] w fun e w' => e = .returned (.int .i64 0) ∧ ∃ bs', Dev w' d bs' (DevP.done X1) ∧ Reg.KeepB w.heap.size (js ++ bs) w w' ∧ (∀ b ∈ bs', b ∈ bs ∨ w.heap.size ≤ b) ∧ E w' := by
  have hmf : ∀ (fn : Fn) (first cap : Array Value) (w : World), (Instr.makeFunc fn first cap).run Try.prog w = .ok (.func fn first cap) w := fun _ _ _ _ => rfl
  have HD := Lib.hid hD
  have HA := Lib.hid hact
  have HE := Lib.hid hE
  obtain ⟨sb, mb, bp, gb, A, n, c, nm, es, hI, hbs⟩ := hD
  have f1 := str10 hI.box
  have hz := fun j => hI.box.frozen j
  have hl := hI.box.lt
  have HBS := Lib.hid hbs
  have HI := Lib.hid hI
  have HH := Lib.hid (And.intro h1 (And.intro h2 h3))
  have HJ := Lib.hid hj
  have HF := Lib.hid hf
  clear hact hE hI hbs h1 h2 h3 hj hf
  obtain ⟨safe, now, log, stale, head, sure, fused, fuse, off, ops, wr⟩ := X
  dsimp only at ho hs f1
  subst ho
  have hb1 : Below w.heap.size w (w.alloc (.cells #[.pointer (some ⟨d, 0, none⟩)] 85)) := balloc (bsame w) _
  have HS := Lib.hid (Str.new w #[.pointer (some ⟨d, 0, none⟩)] 85)
  cases fused with
  | false =>
    go_enter_defers Try.func97, Try.ntmps97
    go_wp2_with fail
    refine (HA.out _ hb1).mono ?_
    rintro e W2 ⟨rfl, bs2, hD2, hk2, hn2, hE2⟩
    have hnb : w.heap.size ∉ js ++ bs := fun hm => by
      rcases List.mem_append.1 hm with hm | hm
      · have := HJ.out _ hm; omega
      · have := HD.out.lt _ hm; omega
    have hS2 := HS.out.keepB hk2 hnb
    have hk3 := (Reg.KeepB.of (b0 := js ++ bs) hb1).trans hk2 hb1.size
    have hne : w.heap.size ≠ d := by omega
    have hn3 : ∀ b ∈ bs2, b ∈ bs ∨ w.heap.size ≤ b := fun b hb => (hn2 b hb).imp id fun h => by have := hb1.size; omega
    have hdm : d ∈ js ++ bs := List.mem_append.2 (.inr HD.out.mem)
    have HS2 := Lib.hid hS2
    have HK3 := Lib.hid hk3
    have HN3 := Lib.hid hn3
    have HD2 := Lib.hid hD2
    have HE2 := Lib.hid hE2
    clear hk2 hn2 hS2 hk3 hn3 hD2 hE2 hnb f1 hz hmf hce
    go_wp2
    refine leaves_cons (f := 121) (args := #[.pointer (some ⟨w.heap.size, 0, none⟩)]) (by simp) (by simp [go_sem]) ?_
    obtain ⟨sb2, mb2, bp2, gb2, A2, n2, c2, nm2, es2, hI2, hbs2⟩ := HD2.out
    refine (do1_any w.heap.size .returning W2 HS2.out hI2 hne (by rw [HH.out.2.2]; exact hs) (by rw [HH.out.1, HH.out.2.1]; exact HF.out)).mono ?_
    rintro e u' W3 ⟨rfl, rfl, hI3, hg3⟩
    refine ⟨_, results_tmp rfl _ _ _, rfl, _, ⟨sb2, mb2, bp2, gb2, A2, n2, c2, nm2, es2, hI3, hbs2⟩, HK3.out.grown hg3 HK3.out.size (.inr hdm), HN3.out, HE.out _ _ hg3 HE2.out⟩
  | true =>
    have hfz : ¬ fuse = 0 := HF.out rfl
    go_enter_defers Try.func97, Try.ntmps97
    go_wp2_with fail
    refine (HA.out _ hb1).mono ?_
    rintro e W2 ⟨rfl, bs2, hD2, hk2, hn2, hE2⟩
    have hnb : w.heap.size ∉ js ++ bs := fun hm => by
      rcases List.mem_append.1 hm with hm | hm
      · have := HJ.out _ hm; omega
      · have := HD.out.lt _ hm; omega
    have hS2 := HS.out.keepB hk2 hnb
    have hk3 := (Reg.KeepB.of (b0 := js ++ bs) hb1).trans hk2 hb1.size
    have hne : w.heap.size ≠ d := by omega
    have hn3 : ∀ b ∈ bs2, b ∈ bs ∨ w.heap.size ≤ b := fun b hb => (hn2 b hb).imp id fun h => by have := hb1.size; omega
    have hdm : d ∈ js ++ bs := List.mem_append.2 (.inr HD.out.mem)
    have HS2 := Lib.hid hS2
    have HK3 := Lib.hid hk3
    have HN3 := Lib.hid hn3
    have HD2 := Lib.hid hD2
    have HE2 := Lib.hid hE2
    clear hk2 hn2 hS2 hk3 hn3 hD2 hE2 hnb f1 hz hmf hce
    go_wp2
    refine leaves_cons (f := 121) (args := #[.pointer (some ⟨w.heap.size, 0, none⟩)]) (by simp) (by simp [go_sem]) ?_
    obtain ⟨sb2, mb2, bp2, gb2, A2, n2, c2, nm2, es2, hI2, hbs2⟩ := HD2.out
    refine (do1_any w.heap.size .returning W2 HS2.out hI2 hne (by rw [HH.out.2.2]; exact hs) (by rw [HH.out.1, HH.out.2.1]; exact fun _ => hfz)).mono ?_
    rintro e u' W3 ⟨rfl, rfl, hI3, hg3⟩
    refine ⟨_, results_tmp rfl _ _ _, rfl, _, ⟨sb2, mb2, bp2, gb2, A2, n2, c2, nm2, es2, hI3, hbs2⟩, HK3.out.grown hg3 HK3.out.size (.inr hdm), HN3.out, HE.out _ _ hg3 HE2.out⟩
theorem In.off (w : World) (hI : In w d sb mb bp gb A n c nm es X) : In (w.setCell ⟨d, 8, none⟩ (.bool true)) d sb mb bp gb A n c nm es { X with off := true } :=
  hI.turn (grown_set (grown_refl w d) 8 _) (hI.box.set 8 _) rfl rfl rfl (Nat.le_refl _) ⟨hI.ok.n0, hI.ok.n1, hI.ok.nl, hI.ok.h0, hI.ok.s0, hI.ok.s1, hI.ok.t0, hI.ok.t1, hI.ok.o0, hI.ok.f0, hI.ok.f1, hI.ok.w0, hI.ok.w1⟩
set_option maxRecDepth 100000 in
set_option maxHeartbeats 1000000 in
theorem do_stop (fits : Bool) (fv : Value) (w : World) (hD : Dev w d bs X) (he : DevP.err X fits ≠ 0) :
    Calls Try.prog 97 #[.pointer (some ⟨d, 0, none⟩), .bool fits, fv] w fun e w' => e = .returned (.int .i64 (DevP.err X fits)) ∧ Dev w' d bs (DevP.stop X fits) ∧ Reg.KeepB w.heap.size bs w w' := by
  have HD := Lib.hid hD
  obtain ⟨sb, mb, bp, gb, A, n, c, nm, es, hI, hbs⟩ := hD
  have f1 := str10 hI.box
  have hz := fun j => hI.box.frozen j
  have hl := hI.box.lt
  have HBS := Lib.hid hbs
  have HI := Lib.hid hI
  have hb1 : Below w.heap.size w (w.alloc (.cells #[.pointer (some ⟨d, 0, none⟩)] 85)) := balloc (bsame w) _
  clear hI hbs
  obtain ⟨safe, now, log, stale, head, sure, fused, fuse, off, ops, wr⟩ := X
  dsimp only at f1
  cases off with
  | true =>
    have he1 : DevP.err ⟨safe, now, log, stale, head, sure, fused, fuse, true, ops, wr⟩ fits = 3 := rfl
    have he2 : DevP.stop ⟨safe, now, log, stale, head, sure, fused, fuse, true, ops, wr⟩ fits = ⟨safe, now, log, stale, head, sure, fused, fuse, true, ops, wr⟩ := rfl
    rw [he1, he2]
    clear he1 he2 he
    go_enter_defers Try.func97, Try.ntmps97
    go_wp2
    exact ⟨_, results_tmp rfl _ _ _, rfl, HD.out.below hb1, Reg.KeepB.of hb1⟩
  | false =>
    cases fits with
    | false =>
      have he1 : DevP.err ⟨safe, now, log, stale, head, sure, fused, fuse, false, ops, wr⟩ false = 2 := rfl
      have he2 : DevP.stop ⟨safe, now, log, stale, head, sure, fused, fuse, false, ops, wr⟩ false = ⟨safe, now, log, stale, head, sure, fused, fuse, false, ops, wr⟩ := rfl
      rw [he1, he2]
      clear he1 he2 he
      go_enter_defers Try.func97, Try.ntmps97
      go_wp2
      exact ⟨_, results_tmp rfl _ _ _, rfl, HD.out.below hb1, Reg.KeepB.of hb1⟩
    | true =>
      cases fused with
      | false => exact absurd rfl he
      | true =>
        by_cases hf : fuse = 0
        · subst hf
          have he1 : DevP.err ⟨safe, now, log, stale, head, sure, true, 0, false, ops, wr⟩ true = 3 := rfl
          have he2 : DevP.stop ⟨safe, now, log, stale, head, sure, true, 0, false, ops, wr⟩ true = ⟨safe, now, log, stale, head, sure, true, 0, true, ops, wr⟩ := rfl
          rw [he1, he2]
          clear he1 he2 he
          go_enter_defers Try.func97, Try.ntmps97
          go_wp2
          have hI2 := HI.out.off
          have hg2 := grown_set (grown_refl w d) 8 (.bool true)
          have hb2 : Below (w.setCell ⟨d, 8, none⟩ (.bool true)).heap.size (w.setCell ⟨d, 8, none⟩ (.bool true)) ((w.setCell ⟨d, 8, none⟩ (.bool true)).alloc (.cells #[.pointer (some ⟨d, 0, none⟩)] 85)) := balloc (bsame _) _
          have hI3 := hI2.at_ (fun b hm => hb2.block b (hI2.lt b hm))
          exact ⟨_, results_tmp rfl _ _ _, rfl, ⟨sb, mb, bp, gb, A, n, c, nm, es, hI3, HBS.out⟩, ((Reg.KeepB.of (bsame w)).grown hg2 (Nat.le_refl _) (.inr HD.out.mem)).step hb2 hg2.size⟩
        · have hf2 : decide (fuse = 0) = false := by simpa using hf
          exact absurd (by simp [DevP.err, hf2]) he
end DevW
end Go.Proofs.Ytiokcemlfdonnaa
end
section
namespace Go.Proofs.Ytiokcemlfdonnaa
open Go.RowKit Go.Maps
set_option linter.unusedVariables false
set_option linter.unusedSimpArgs false
set_option maxRecDepth 100000
def jobZ : Array Value := (([Value.pointer none, Value.int .i64 0] : List Value) ++ zerosV 512 ++ [Value.slice none 0 0]).toArray
namespace DevW
theorem alJob_fold : Instr.alloc 138 true (.tuple #[]) = alSem 138 := rfl
theorem bdJob_fold (ps : Array (Nat × Value)) : Instr.build 138 ps = bdSem 138 ps := rfl
theorem stJob_fold (a v : Value) : Instr.storeAt 138 a v = stSem 138 a v := rfl
theorem infoJ : (Try.prog.info? 138).map (fun i => (i.zero, i.size)) = some (some (.agg jobZ), 515) := by kernel_rfl
theorem jobZ_size : jobZ.size = 515 := by simp [jobZ, zerosV]
theorem job_al (w : World) : (alSem 138).run Try.prog w = .ok (.pointer (some ⟨w.heap.size, 0, none⟩)) (w.alloc (.cells jobZ 138)) := by
  obtain ⟨hz, _⟩ := zero_of_info infoJ
  simp [alSem, Instr.alloc, hz, newVar, newRow, Value.cells]
theorem jobC_one (d : Nat) (n : Int) (l : List UInt8) (A : Option Addr) (m c : Nat) : (jobC d n l (.slice A m c)).all (·.oneCell') = true := by
  rw [Array.all_eq_true_iff_forall_mem]
  intro v hv
  simp only [jobC, List.mem_toArray, List.mem_append, List.mem_cons, List.not_mem_nil, or_false] at hv
  rcases hv with ((rfl | rfl) | hv) | rfl
  · rfl
  · rfl
  · exact byteV_one l v hv
  · rfl
theorem job_st {w : World} {b d : Nat} {n : Int} {l : List UInt8} {A : Option Addr} {m c : Nat} (hs : Str w b jobZ) (hl : l.length = 512) :
    (stSem 138 (.pointer (some ⟨b, 0, none⟩)) (.agg (jobC d n l (.slice A m c)))).run Try.prog w = .ok () (w.setRow b (jobC d n l (.slice A m c))) := by
  obtain ⟨t', hg⟩ := hs
  have hsz : (Try.prog.info? 138).map (·.size) = some 515 := by
    have := infoJ
    cases hq : Try.prog.info? 138 with
    | none => simp [hq] at this
    | some i => simp [hq] at this; simp [this.2]
  simp only [stSem, Instr.storeAt, Instr.sureAddr, Sem.run_bind, Sem.run_pure, Result.andThen_ok]
  exact run_storeVar_row w b t' _ jobZ _ hg (by rw [hsz, jobC_size hl]) (by rw [jobC_size hl, jobZ_size]) (jobC_one d n l A m c)
theorem job_bd2 (d : Nat) (n : Int) (w : World) : (bdSem 138 #[(0, .pointer (some ⟨d, 0, none⟩)), (1, .int .i64 n)]).run Try.prog w = .ok (.agg (jobC d n (SlotP.zeros 512) (.slice none 0 0))) w := by kernel_rfl
theorem job_bd3 (d : Nat) (A : Option Addr) (m c : Nat) (w : World) : (bdSem 138 #[(0, .pointer (some ⟨d, 0, none⟩)), (3, .slice A m c)]).run Try.prog w = .ok (.agg (jobC d 0 (SlotP.zeros 512) (.slice A m c))) w := by kernel_rfl
end DevW
end Go.Proofs.Ytiokcemlfdonnaa
end
section
namespace Go.Proofs.Ytiokcemlfdonnaa.DevW
open Go.RowKit Go.Maps
set_option linter.unusedVariables false
set_option linter.unusedSimpArgs false
variable {d sb mb : Nat} {bp bs : List Nat} {gb : Option Nat} {A : Option Addr} {n c nm : Nat} {es : List (Int × SlV)} {X : DevX}
/-- the device's box, its cells, what they are -/
theorem Dev.cells {w : World} (h : Dev w d bs X) : ∃ sb mb A n c, Str w d (devC X.safe.length sb mb A n c X) ∧ X.log.length = n ∧ n ≤ maxLen := by
  obtain ⟨sb, mb, bp, gb, A, n, c, nm, es, hI, -⟩ := h
  exact ⟨sb, mb, A, n, c, hI.box, hI.log.len, Nat.le_trans hI.log.2.1 hI.log.2.2.1⟩
set_option maxRecDepth 100000 in
set_option maxHeartbeats 1000000 in
theorem head_any (w : World) (hD : Dev w d bs X) :
    Calls Try.prog 59 #[.pointer (some ⟨d, 0, none⟩)] w fun e w' => e = .returned (.int .i64 (X.head)) ∧ Below w.heap.size w w' := by
  obtain ⟨sb, mb, A, n, c, hS, hn, hm⟩ := hD.cells
  unfold maxLen at hm
  have hk := hD.ok
  have f1 := str10 hS
  have hl := hS.lt
  have hh0 := hk.h0
  have hnp := hk.n1
  clear hD hS hk
  go_enter Try.func59, Try.ntmps59
  go_wp2
  go_ret
  exact ⟨rfl, bsame w⟩
set_option maxRecDepth 100000 in
set_option maxHeartbeats 1000000 in
theorem end_any (w : World) (hD : Dev w d bs X) (hs : DevP.Small X) :
    Calls Try.prog 68 #[.pointer (some ⟨d, 0, none⟩)] w fun e w' => e = .returned (.int .i64 (X.head + (X.log.length : Nat))) ∧ Below w.heap.size w w' := by
  obtain ⟨sb, mb, A, n, c, hS, hn, hm⟩ := hD.cells
  unfold maxLen at hm
  have hk := hD.ok
  have f1 := str10 hS
  have hl := hS.lt
  have hh0 := hk.h0
  have hnp := hk.n1
  have hs2 := hs.2
  clear hs
  clear hD hS hk
  go_enter Try.func68, Try.ntmps68
  go_wp2_with (first | go_quiet (fail) | go_in)
  go_wp2
  go_ret
  rw [hn]
  exact ⟨rfl, drewN_below (bsame w) _⟩
set_option maxRecDepth 100000 in
set_option maxHeartbeats 1000000 in
theorem head_nil (w : World) : Calls Try.prog 59 #[.pointer none] w fun e w' => e = .returned (.int .i64 0) ∧ Below w.heap.size w w' := by
  go_enter Try.func59, Try.ntmps59
  go_wp2
  go_ret
  exact ⟨rfl, bsame w⟩
set_option maxRecDepth 100000 in
set_option maxHeartbeats 1000000 in
theorem end_nil (w : World) : Calls Try.prog 68 #[.pointer none] w fun e w' => e = .returned (.int .i64 0) ∧ Below w.heap.size w w' := by
  go_enter Try.func68, Try.ntmps68
  go_wp2
  go_ret
  exact ⟨rfl, bsame w⟩
set_option maxRecDepth 100000 in
set_option maxHeartbeats 1000000 in
theorem spans_any (no : Int) (w : World) (hD : Dev w d bs X) (hs : DevP.Small X) :
    Calls Try.prog 102 #[.pointer (some ⟨d, 0, none⟩), .int .i64 no] w fun e w' => e = .returned (.bool (decide (X.head ≤ no) && decide (no ≤ X.head + (X.log.length : Nat)))) ∧ Below w.heap.size w w' := by
  have HD := Lib.hid hD
  obtain ⟨sb, mb, A, n, c, hS, hn, hm⟩ := hD.cells
  unfold maxLen at hm
  have hk := hD.ok
  have f1 := str10 hS
  have hl := hS.lt
  have hh0 := hk.h0
  have hnp := hk.n1
  clear hD hS hk
  by_cases h0 : X.head ≤ no
  · have d0 : decide (X.head ≤ no) = true := by simpa using h0
    rw [d0, Bool.true_and]
    rw [hn]
    go_enter Try.func102, Try.ntmps102
    go_wp2_with fail
    refine (end_any w HD.out hs).mono ?_
    rintro e w1 ⟨rfl, hb1⟩
    go_wp2
    go_ret
    exact ⟨rfl, hb1⟩
  · have d0 : decide (X.head ≤ no) = false := by simpa using h0
    rw [d0]
    go_enter Try.func102, Try.ntmps102
    go_wp2
    go_ret
    exact ⟨rfl, bsame w⟩
def _root_.Go.Proofs.Ytiokcemlfdonnaa.DevP.fused (X : DevX) (m : Int) : DevX := { X with fused := decide (0 ≤ m), fuse := max m 0 }
end Go.Proofs.Ytiokcemlfdonnaa.DevW
end
section
namespace Go.Proofs.Ytiokcemlfdonnaa.DevW
open Go.RowKit Go.Maps
set_option linter.unusedVariables false
set_option linter.unusedSimpArgs false
variable {d sb mb : Nat} {bp bs : List Nat} {gb : Option Nat} {A : Option Addr} {n c nm : Nat} {es : List (Int × SlV)} {X : DevX}
attribute [local go_sem ↓] cut_fold
theorem In.bp_ne {w : World} (h : In w d sb mb bp gb A n c nm es X) : ∀ b ∈ bp, b ≠ d := fun b hb e => (List.nodup_cons.1 h.nd).1 (by rw [← e]; simp [hb])
theorem In.gb_ne {w : World} (h : In w d sb mb bp gb A n c nm es X) : gb ≠ some d := fun e => (List.nodup_cons.1 h.nd).1 (by simp [e])
/-- the log and the box have turned -/
theorem In.relog {w w' : World} {X' : DevX} {gb' : Option Nat} {A' : Option Addr} {n' c' : Nat} (h : In w d sb mb bp gb A n c nm es X) (hk : ∀ b ∈ bp, w'.heap[b]? = w.heap[b]?) (hb : Str w' d (devC X.safe.length sb mb A' n' c' X')) (hl : OwnS w' gb' A' n' c' X'.log)
    (hg : gb' = gb ∨ gb' = none ∨ ∃ g, gb' = some g ∧ w.heap.size ≤ g) (e1 : X'.safe = X.safe) (e2 : X'.now = X.now) (ho : X.wr ≤ X'.wr) (hok : DevP.Ok X') : ∃ bs', Dev w' d bs' X' ∧ ∀ b ∈ bs', b ∈ d :: (gb.toList ++ bp) ∨ w.heap.size ≤ b := by
  have hp := (h.pages.at_ (w' := w') hk).mono ho
  have hnd : (d :: (gb'.toList ++ bp)).Nodup := by
    rcases hg with rfl | rfl | ⟨g, rfl, hg⟩
    · exact h.nd
    · have := h.nd
      simp only [List.nodup_cons, List.mem_append, List.nodup_append, Option.toList_none, List.nil_append] at this ⊢
      exact ⟨fun hm => this.1 (.inr hm), this.2.2.1⟩
    · have h1 := h.nd
      simp only [List.nodup_cons, List.mem_append, List.nodup_append, Option.toList_some, List.cons_append, List.nil_append, List.mem_cons] at h1 ⊢
      have h2 := h.box.lt
      have h3 := h.pages.lt
      refine ⟨?_, ?_, h1.2.2.1⟩
      · rintro (e | hm)
        · omega
        · exact h1.1 (.inr hm)
      · intro hm
        have := h3 g hm
        omega
  rw [← e1] at hb
  rw [← e1, ← e2] at hp
  refine ⟨_, ⟨sb, mb, bp, gb', A', n', c', nm, es, ⟨hb, hp, hl, hnd, hok⟩, rfl⟩, fun b hm => ?_⟩
  simp only [List.mem_cons, List.mem_append, Option.mem_toList] at hm ⊢
  rcases hm with rfl | hm | hm
  · exact .inl (.inl rfl)
  · rcases hg with rfl | rfl | ⟨g, rfl, hg⟩
    · exact .inl (.inr (.inl hm))
    · cases hm
    · simp only [Option.some.injEq] at hm
      subst hm
      exact .inr hg
  · exact .inl (.inr (.inr hm))
/-- the call has done its act -/
def Acts (w : World) (d : Nat) (bs js : List Nat) (X : DevX) (E : World → Prop) (e : Ending) (w' : World) : Prop := e = .returned (.tuple #[]) ∧ ∃ bs', Dev w' d bs' X ∧ Reg.KeepB w.heap.size (js ++ bs) w w' ∧ (∀ b ∈ bs', b ∈ bs ∨ w.heap.size ≤ b) ∧ E w'
set_option maxRecDepth 100000 in
set_option maxHeartbeats 1000000 in
theorem cut_act (j : Nat) (no : Int) (l : List UInt8) (s : Value) (w : World) (hJ : Str w j (jobC d no l s)) (hll : l.length = 512) (hD : Dev w d bs X) (hs : DevP.Small X) (hj : j ∉ bs) (h1 : X.head ≤ no) (h2 : no ≤ X.head + (X.log.length : Nat)) :
    Calls Try.prog 103 #[.pointer (some ⟨j, 0, none⟩)] w (Acts w d bs [] { X with log := X.log.take (no - X.head).toNat, sure := min X.sure no } fun _ => True) := by
  have HJ := Lib.hid hJ
  have hjl := hJ.lt
  have HD := Lib.hid hD
  have hok := hD.ok
  obtain ⟨sb, mb, bp, gb, A, n, c, nm, es, hI, hbs⟩ := hD
  have hn := hI.log.len
  have hnc := hI.log.2.1
  have hcm := hI.log.2.2.1
  unfold maxLen at hcm
  have hl := hI.box.lt
  have hs1 := hs.1
  have hs2 := hs.2.1
  have hh0 := hok.h0
  have hu0 := hok.s0
  have hu1 := hok.s1
  have ht0 := hok.t0
  have ht1 := hok.t1
  have ho0 := hok.o0
  have HI := Lib.hid hI
  have HB := Lib.hid hbs
  have HOK := Lib.hid hok
  have HND := Lib.hid hI.nd
  clear hI hbs hs hok
  obtain ⟨k, hk⟩ : ∃ k : Nat, no = X.head + (k : Int) := ⟨(no - X.head).toNat, by omega⟩
  have hkn : k ≤ n := by omega
  have hke : (no - X.head).toNat = k := by omega
  have hsub : no - X.head = (k : Int) := by omega
  have HKE := Lib.hid hke
  clear hk hke
  have HJN := Lib.hid hj
  have HJD : Hid (j ≠ d) := Lib.hid (fun e => hj (by rw [e]; exact HD.out.mem))
  clear hJ hj
  go_enter Try.func103, Try.ntmps103
  go_wp2_with fail
  refine Reg.wp_region_tail (R := ext) (W := w) [Reg.eqv (.pointer (some ⟨j, 0, none⟩)), Reg.eqv (.pointer (some ⟨j, 0, none⟩)), Reg.eqv (.pointer (some ⟨j, 0, none⟩)), Reg.eqv (.pointer (some ⟨d, 0, none⟩)), Reg.eqv (.pointer (some ⟨j, 0, none⟩)), Reg.eqv (.pointer (some ⟨j, 0, none⟩)), Reg.eqv (.pointer (some ⟨j, 0, none⟩)), Reg.eqv (.pointer (some ⟨d, 0, none⟩)), Reg.eqv (.pointer (some ⟨d, 0, none⟩)), Reg.eqv (.pointer (some ⟨d, 2, none⟩)), Reg.eqv (.slice A n c), Reg.eqv (.pointer (some ⟨j, 0, none⟩)), Reg.eqv (.pointer (some ⟨j, 0, none⟩)), Reg.eqv (.pointer (some ⟨j, 1, none⟩)), Reg.eqv (.int .i64 no), Reg.eqv (.pointer (some ⟨j, 0, none⟩)), Reg.eqv (.pointer (some ⟨j, 0, none⟩)), Reg.eqv (.pointer (some ⟨j, 0, none⟩)), Reg.eqv (.pointer (some ⟨d, 0, none⟩)), Reg.eqv (.pointer (some ⟨d, 0, none⟩)), Reg.eqv (.pointer (some ⟨d, 4, none⟩)), Reg.eqv (.int .i64 (X.head)), Reg.eqv (.int .i64 (k : Int)), Reg.eqv (.slice (cutA A 0 c 1) k c), Reg.eqv (.pointer (some ⟨d, 0, none⟩)), Reg.eqv (.pointer (some ⟨d, 2, none⟩))] 46 26 _ [[(0, none)], [(2, some 0)], [(3, some 1)], [(4, some 2)], [(0, none)], [(6, some 4)], [(7, some 5)], [(8, some 6)], [(9, some 7)], [(10, some 8)], [(11, some 9)], [(0, none)], [(13, some 11)], [(14, some 12)], [(15, some 13)], [(0, none)], [(17, some 15)], [(18, some 16)], [(19, some 17)], [(20, some 18)], [(21, some 19)], [(22, some 20)], [(16, some 14), (23, some 21)], [(12, some 10), (24, some 22)], [(5, some 3)], [(26, some 24)]] rfl (by kernel_rfl) (by kernel_rfl) (by rfl) (by rfl) rfl (by kernel_rfl) ?_ [some 2, some 3, some 4, some 5, some 6, some 7, some 8, some 9, some 10, some 11, some 12, some 13, some 14, some 15, some 16, some 17, some 18, some 19, some 20, some 21, some 22, some 23, some 24, some 25, some 26, some 27] (by kernel_rfl) ?_
  · refine ⟨?_, ?_, ?_, ?_, ?_, ?_, ?_, ?_, ?_, ?_, ?_, ?_, ?_, ?_, ?_, ?_, ?_, ?_, ?_, ?_, ?_, ?_, ?_, ?_, ?_, ?_, trivial⟩
    · intro ax wx hx hs
      obtain ⟨e0, -⟩ := hs
      have g0 := Reg.ev (v := .pointer (some ⟨j, 0, none⟩)) e0
      exact Reg.obl_free rfl (Reg.wp_eqv (Option.some_ne_none _) (by go_simp) rfl)
    · intro ax wx hx hs
      obtain ⟨e2, -⟩ := hs
      have g2 := Reg.ev (v := .pointer (some ⟨j, 0, none⟩)) e2
      exact Reg.obl_free rfl (Reg.wp_eqv (Option.some_ne_none _) (by go_simp) rfl)
    · intro ax wx hx hs
      obtain ⟨e3, -⟩ := hs
      have g3 := Reg.ev (v := .pointer (some ⟨j, 0, none⟩)) e3
      exact Reg.obl_free rfl (Reg.wp_eqv (Option.some_ne_none _) (by go_simp) rfl)
    · intro ax wx hx hs
      obtain ⟨e4, -⟩ := hs
      have g4 := Reg.ev (v := .pointer (some ⟨j, 0, none⟩)) e4
      have l0 := str10 (HI.out.box.next hx)
      have l1 := job3 (HJ.out.next hx) hll
      exact Reg.obl_free rfl (Reg.wp_eqv (Option.some_ne_none _) (by go_simp) rfl)
    · intro ax wx hx hs
      obtain ⟨e0, -⟩ := hs
      have g0 := Reg.ev (v := .pointer (some ⟨j, 0, none⟩)) e0
      exact Reg.obl_free rfl (Reg.wp_eqv (Option.some_ne_none _) (by go_simp) rfl)
    · intro ax wx hx hs
      obtain ⟨e6, -⟩ := hs
      have g6 := Reg.ev (v := .pointer (some ⟨j, 0, none⟩)) e6
      exact Reg.obl_free rfl (Reg.wp_eqv (Option.some_ne_none _) (by go_simp) rfl)
    · intro ax wx hx hs
      obtain ⟨e7, -⟩ := hs
      have g7 := Reg.ev (v := .pointer (some ⟨j, 0, none⟩)) e7
      exact Reg.obl_free rfl (Reg.wp_eqv (Option.some_ne_none _) (by go_simp) rfl)
    · intro ax wx hx hs
      obtain ⟨e8, -⟩ := hs
      have g8 := Reg.ev (v := .pointer (some ⟨j, 0, none⟩)) e8
      have l0 := str10 (HI.out.box.next hx)
      have l1 := job3 (HJ.out.next hx) hll
      exact Reg.obl_free rfl (Reg.wp_eqv (Option.some_ne_none _) (by go_simp) rfl)
    · intro ax wx hx hs
      obtain ⟨e9, -⟩ := hs
      have g9 := Reg.ev (v := .pointer (some ⟨d, 0, none⟩)) e9
      exact Reg.obl_free rfl (Reg.wp_eqv (Option.some_ne_none _) (by go_simp) rfl)
    · intro ax wx hx hs
      obtain ⟨e10, -⟩ := hs
      have g10 := Reg.ev (v := .pointer (some ⟨d, 0, none⟩)) e10
      exact Reg.obl_free rfl (Reg.wp_eqv (Option.some_ne_none _) (by go_simp) rfl)
    · intro ax wx hx hs
      obtain ⟨e11, -⟩ := hs
      have g11 := Reg.ev (v := .pointer (some ⟨d, 2, none⟩)) e11
      have l0 := str10 (HI.out.box.next hx)
      have l1 := job3 (HJ.out.next hx) hll
      exact Reg.obl_free rfl (Reg.wp_eqv (Option.some_ne_none _) (by go_simp) rfl)
    · intro ax wx hx hs
      obtain ⟨e0, -⟩ := hs
      have g0 := Reg.ev (v := .pointer (some ⟨j, 0, none⟩)) e0
      exact Reg.obl_free rfl (Reg.wp_eqv (Option.some_ne_none _) (by go_simp) rfl)
    · intro ax wx hx hs
      obtain ⟨e13, -⟩ := hs
      have g13 := Reg.ev (v := .pointer (some ⟨j, 0, none⟩)) e13
      exact Reg.obl_free rfl (Reg.wp_eqv (Option.some_ne_none _) (by go_simp) rfl)
    · intro ax wx hx hs
      obtain ⟨e14, -⟩ := hs
      have g14 := Reg.ev (v := .pointer (some ⟨j, 0, none⟩)) e14
      exact Reg.obl_free rfl (Reg.wp_eqv (Option.some_ne_none _) (by go_simp) rfl)
    · intro ax wx hx hs
      obtain ⟨e15, -⟩ := hs
      have g15 := Reg.ev (v := .pointer (some ⟨j, 1, none⟩)) e15
      have l0 := str10 (HI.out.box.next hx)
      have l1 := job3 (HJ.out.next hx) hll
      exact Reg.obl_free rfl (Reg.wp_eqv (Option.some_ne_none _) (by go_simp) rfl)
    · intro ax wx hx hs
      obtain ⟨e0, -⟩ := hs
      have g0 := Reg.ev (v := .pointer (some ⟨j, 0, none⟩)) e0
      exact Reg.obl_free rfl (Reg.wp_eqv (Option.some_ne_none _) (by go_simp) rfl)
    · intro ax wx hx hs
      obtain ⟨e17, -⟩ := hs
      have g17 := Reg.ev (v := .pointer (some ⟨j, 0, none⟩)) e17
      exact Reg.obl_free rfl (Reg.wp_eqv (Option.some_ne_none _) (by go_simp) rfl)
    · intro ax wx hx hs
      obtain ⟨e18, -⟩ := hs
      have g18 := Reg.ev (v := .pointer (some ⟨j, 0, none⟩)) e18
      exact Reg.obl_free rfl (Reg.wp_eqv (Option.some_ne_none _) (by go_simp) rfl)
    · intro ax wx hx hs
      obtain ⟨e19, -⟩ := hs
      have g19 := Reg.ev (v := .pointer (some ⟨j, 0, none⟩)) e19
      have l0 := str10 (HI.out.box.next hx)
      have l1 := job3 (HJ.out.next hx) hll
      exact Reg.obl_free rfl (Reg.wp_eqv (Option.some_ne_none _) (by go_simp) rfl)
    · intro ax wx hx hs
      obtain ⟨e20, -⟩ := hs
      have g20 := Reg.ev (v := .pointer (some ⟨d, 0, none⟩)) e20
      exact Reg.obl_free rfl (Reg.wp_eqv (Option.some_ne_none _) (by go_simp) rfl)
    · intro ax wx hx hs
      obtain ⟨e21, -⟩ := hs
      have g21 := Reg.ev (v := .pointer (some ⟨d, 0, none⟩)) e21
      exact Reg.obl_free rfl (Reg.wp_eqv (Option.some_ne_none _) (by go_simp) rfl)
    · intro ax wx hx hs
      obtain ⟨e22, -⟩ := hs
      have g22 := Reg.ev (v := .pointer (some ⟨d, 4, none⟩)) e22
      have l0 := str10 (HI.out.box.next hx)
      have l1 := job3 (HJ.out.next hx) hll
      exact Reg.obl_free rfl (Reg.wp_eqv (Option.some_ne_none _) (by go_simp) rfl)
    · intro ax wx hx hs
      obtain ⟨e16, e23, -⟩ := hs
      have g16 := Reg.ev (v := .int .i64 no) e16
      have g23 := Reg.ev (v := .int .i64 (X.head)) e23
      refine Reg.obl_free rfl ?_
      exact Reg.wp_eqv (Option.some_ne_none _) (by go_simp; exact IntWalk.i64_in _ (by omega)) rfl
    · intro ax wx hx hs
      obtain ⟨e12, e24, -⟩ := hs
      have g12 := Reg.ev (v := .slice A n c) e12
      have g24 := Reg.ev (v := .int .i64 (k : Int)) e24
      refine Reg.obl_free rfl ?_
      have hq1 : (0 : Int) ≤ (k : Int) := by omega
      have hq2 : (k : Int) ≤ (c : Int) := by omega
      exact Reg.wp_eqv (Option.some_ne_none _) (by go_simp) rfl
    · intro ax wx hx hs
      obtain ⟨e5, -⟩ := hs
      have g5 := Reg.ev (v := .pointer (some ⟨d, 0, none⟩)) e5
      exact Reg.obl_free rfl (Reg.wp_eqv (Option.some_ne_none _) (by go_simp) rfl)
    · intro ax wx hx hs
      obtain ⟨e26, -⟩ := hs
      have g26 := Reg.ev (v := .pointer (some ⟨d, 0, none⟩)) e26
      exact Reg.obl_free rfl (Reg.wp_eqv (Option.some_ne_none _) (by go_simp) rfl)
  · intro W1 hwf
    simp only [Reg.Fin]
    rintro _ rfl _ rfl _ rfl _ rfl _ rfl _ rfl _ rfl _ rfl _ rfl _ rfl _ rfl _ rfl _ rfl _ rfl _ rfl _ rfl _ rfl _ rfl _ rfl _ rfl _ rfl _ rfl _ rfl _ rfl _ rfl _ rfl
    have hwf' : Below w.heap.size w W1 := hwf
    have hI1 := HI.out.at_ (fun b hm => hwf'.block b (HI.out.lt b hm))
    have hz := fun i => hI1.box.frozen i
    have f1 := str10 hI1.box
    have hl1 := hI1.box.lt
    obtain ⟨gb', hO1, hgb⟩ := hI1.log.cut 0 k c (Nat.zero_le _) hkn (by omega) (Nat.le_refl _)
    rw [Nat.sub_zero, List.drop_zero, Nat.sub_zero] at hO1
    have hg1 := grown_set (grown_refl W1 d) 2 (.slice (cutA A 0 c 1) k c)
    have hS2 := hI1.box.set 2 (.slice (cutA A 0 c 1) k c)
    have HJ1 := Lib.hid (HJ.out.next hwf')
    have HI1 := Lib.hid hI1
    have HO1 := Lib.hid hO1
    have HG1 := Lib.hid hg1
    have HS2 := Lib.hid hS2
    have HBW := Lib.hid hwf'
    have HGB := Lib.hid hgb
    clear hwf hwf' hI1 hO1 hg1 hS2 hgb
    refine Reg.Goal.mk ?_
    go_simp
    generalize hW2 : W1.setCell ⟨d, 2, none⟩ (.slice (cutA A 0 c 1) k c) = W2
    rw [hW2] at HG1 HS2
    clear hW2 hz f1
    have HO2 := Lib.hid (HO1.out.grown HG1.out (by intro e; rcases HGB.out with e1 | e1; exact HI.out.gb_ne (e1.symm.trans e); rw [e1] at e; cases e))
    have HJ2 := Lib.hid (HJ1.out.grown HG1.out HJD.out)
    have HK2 := Lib.hid ((Reg.KeepB.of (b0 := [d]) HBW.out).grown HG1.out HBW.out.size (.inr (by simp)))
    have hsz2 := HG1.out.size
    have hl2 : d < W2.heap.size := by omega
    have HS3 : Hid (Str W2 d (devC X.safe.length sb mb (cutA A 0 c 1) k c X)) := Lib.hid HS2.out
    have hjl2 : j < W2.heap.size := by have := HJ2.out.lt; omega
    clear HJ1 HO1 HS2
    go_wp2_with fail
    refine Reg.wp_region_tail (R := ext) (W := W2) [Reg.eqv (.pointer (some ⟨j, 0, none⟩)), Reg.eqv (.pointer (some ⟨j, 0, none⟩)), Reg.eqv (.pointer (some ⟨j, 0, none⟩)), Reg.eqv (.pointer (some ⟨d, 0, none⟩)), Reg.eqv (.pointer (some ⟨j, 0, none⟩)), Reg.eqv (.pointer (some ⟨j, 0, none⟩)), Reg.eqv (.pointer (some ⟨j, 0, none⟩)), Reg.eqv (.pointer (some ⟨d, 0, none⟩)), Reg.eqv (.pointer (some ⟨d, 0, none⟩)), Reg.eqv (.pointer (some ⟨d, 5, none⟩)), Reg.eqv (.int .i64 (X.sure)), Reg.eqv (.pointer (some ⟨j, 0, none⟩)), Reg.eqv (.pointer (some ⟨j, 0, none⟩)), Reg.eqv (.pointer (some ⟨j, 1, none⟩)), Reg.eqv (.int .i64 no), Reg.eqv (.int .i64 (min X.sure no)), Reg.eqv (.pointer (some ⟨d, 0, none⟩)), Reg.eqv (.pointer (some ⟨d, 5, none⟩))] 46 18 _ [[(0, none)], [(28, some 0)], [(29, some 1)], [(30, some 2)], [(0, none)], [(32, some 4)], [(33, some 5)], [(34, some 6)], [(35, some 7)], [(36, some 8)], [(37, some 9)], [(0, none)], [(39, some 11)], [(40, some 12)], [(41, some 13)], [(38, some 10), (42, some 14)], [(31, some 3)], [(44, some 16)]] rfl (by kernel_rfl) (by kernel_rfl) (by rfl) (by rfl) rfl (by kernel_rfl) ?_ [some 28, some 29, some 30, some 31, some 32, some 33, some 34, some 35, some 36, some 37, some 38, some 39, some 40, some 41, some 42, some 43, some 44, some 45] (by kernel_rfl) ?_
    · refine ⟨?_, ?_, ?_, ?_, ?_, ?_, ?_, ?_, ?_, ?_, ?_, ?_, ?_, ?_, ?_, ?_, ?_, ?_, trivial⟩
      · intro ax wx hx hs
        obtain ⟨e0, -⟩ := hs
        have g0 := Reg.ev (v := .pointer (some ⟨j, 0, none⟩)) e0
        exact Reg.obl_free rfl (Reg.wp_eqv (Option.some_ne_none _) (by go_simp) rfl)
      · intro ax wx hx hs
        obtain ⟨e28, -⟩ := hs
        have g28 := Reg.ev (v := .pointer (some ⟨j, 0, none⟩)) e28
        exact Reg.obl_free rfl (Reg.wp_eqv (Option.some_ne_none _) (by go_simp) rfl)
      · intro ax wx hx hs
        obtain ⟨e29, -⟩ := hs
        have g29 := Reg.ev (v := .pointer (some ⟨j, 0, none⟩)) e29
        exact Reg.obl_free rfl (Reg.wp_eqv (Option.some_ne_none _) (by go_simp) rfl)
      · intro ax wx hx hs
        obtain ⟨e30, -⟩ := hs
        have g30 := Reg.ev (v := .pointer (some ⟨j, 0, none⟩)) e30
        have l0 := str10 (HS3.out.next hx)
        have l1 := job3 (HJ2.out.next hx) hll
        exact Reg.obl_free rfl (Reg.wp_eqv (Option.some_ne_none _) (by go_simp) rfl)
      · intro ax wx hx hs
        obtain ⟨e0, -⟩ := hs
        have g0 := Reg.ev (v := .pointer (some ⟨j, 0, none⟩)) e0
        exact Reg.obl_free rfl (Reg.wp_eqv (Option.some_ne_none _) (by go_simp) rfl)
      · intro ax wx hx hs
        obtain ⟨e32, -⟩ := hs
        have g32 := Reg.ev (v := .pointer (some ⟨j, 0, none⟩)) e32
        exact Reg.obl_free rfl (Reg.wp_eqv (Option.some_ne_none _) (by go_simp) rfl)
      · intro ax wx hx hs
        obtain ⟨e33, -⟩ := hs
        have g33 := Reg.ev (v := .pointer (some ⟨j, 0, none⟩)) e33
        exact Reg.obl_free rfl (Reg.wp_eqv (Option.some_ne_none _) (by go_simp) rfl)
      · intro ax wx hx hs
        obtain ⟨e34, -⟩ := hs
        have g34 := Reg.ev (v := .pointer (some ⟨j, 0, none⟩)) e34
        have l0 := str10 (HS3.out.next hx)
        have l1 := job3 (HJ2.out.next hx) hll
        exact Reg.obl_free rfl (Reg.wp_eqv (Option.some_ne_none _) (by go_simp) rfl)
      · intro ax wx hx hs
        obtain ⟨e35, -⟩ := hs
        have g35 := Reg.ev (v := .pointer (some ⟨d, 0, none⟩)) e35
        exact Reg.obl_free rfl (Reg.wp_eqv (Option.some_ne_none _) (by go_simp) rfl)
      · intro ax wx hx hs
        obtain ⟨e36, -⟩ := hs
        have g36 := Reg.ev (v := .pointer (some ⟨d, 0, none⟩)) e36
        exact Reg.obl_free rfl (Reg.wp_eqv (Option.some_ne_none _) (by go_simp) rfl)
      · intro ax wx hx hs
        obtain ⟨e37, -⟩ := hs
        have g37 := Reg.ev (v := .pointer (some ⟨d, 5, none⟩)) e37
        have l0 := str10 (HS3.out.next hx)
        have l1 := job3 (HJ2.out.next hx) hll
        exact Reg.obl_free rfl (Reg.wp_eqv (Option.some_ne_none _) (by go_simp) rfl)
      · intro ax wx hx hs
        obtain ⟨e0, -⟩ := hs
        have g0 := Reg.ev (v := .pointer (some ⟨j, 0, none⟩)) e0
        exact Reg.obl_free rfl (Reg.wp_eqv (Option.some_ne_none _) (by go_simp) rfl)
      · intro ax wx hx hs
        obtain ⟨e39, -⟩ := hs
        have g39 := Reg.ev (v := .pointer (some ⟨j, 0, none⟩)) e39
        exact Reg.obl_free rfl (Reg.wp_eqv (Option.some_ne_none _) (by go_simp) rfl)
      · intro ax wx hx hs
        obtain ⟨e40, -⟩ := hs
        have g40 := Reg.ev (v := .pointer (some ⟨j, 0, none⟩)) e40
        exact Reg.obl_free rfl (Reg.wp_eqv (Option.some_ne_none _) (by go_simp) rfl)
      · intro ax wx hx hs
        obtain ⟨e41, -⟩ := hs
        have g41 := Reg.ev (v := .pointer (some ⟨j, 1, none⟩)) e41
        have l0 := str10 (HS3.out.next hx)
        have l1 := job3 (HJ2.out.next hx) hll
        exact Reg.obl_free rfl (Reg.wp_eqv (Option.some_ne_none _) (by go_simp) rfl)
      · intro ax wx hx hs
        obtain ⟨e38, e42, -⟩ := hs
        have g38 := Reg.ev (v := .int .i64 (X.sure)) e38
        have g42 := Reg.ev (v := .int .i64 no) e42
        refine Reg.obl_free rfl ?_
        exact Reg.wp_eqv (Option.some_ne_none _) (by go_simp; split <;> omega) rfl
      · intro ax wx hx hs
        obtain ⟨e31, -⟩ := hs
        have g31 := Reg.ev (v := .pointer (some ⟨d, 0, none⟩)) e31
        exact Reg.obl_free rfl (Reg.wp_eqv (Option.some_ne_none _) (by go_simp) rfl)
      · intro ax wx hx hs
        obtain ⟨e44, -⟩ := hs
        have g44 := Reg.ev (v := .pointer (some ⟨d, 0, none⟩)) e44
        exact Reg.obl_free rfl (Reg.wp_eqv (Option.some_ne_none _) (by go_simp) rfl)
    · intro W3 hwf
      simp only [Reg.Fin]
      rintro _ rfl _ rfl _ rfl _ rfl _ rfl _ rfl _ rfl _ rfl _ rfl _ rfl _ rfl _ rfl _ rfl _ rfl _ rfl _ rfl _ rfl _ rfl
      have hwf' : Below W2.heap.size W2 W3 := hwf
      have hS3 := HS3.out.next hwf'
      have hz := fun i => hS3.frozen i
      have f1 := str10 hS3
      have hl3 := hS3.lt
      have hg3 := grown_set (grown_refl W3 d) 5 (.int .i64 (min X.sure no))
      have HS4 := Lib.hid (hS3.set 5 (.int .i64 (min X.sure no)))
      have HO4 := Lib.hid ((HO2.out.next hwf').grown hg3 (by intro e; rcases HGB.out with e1 | e1; exact HI.out.gb_ne (e1.symm.trans e); rw [e1] at e; cases e))
      have HK4 := Lib.hid ((HK2.out.step hwf' HK2.out.size).grown hg3 (by have := HK2.out.size; have := hwf'.size; omega) (.inr (by simp)))
      clear hwf hwf' hS3 hg3
      refine Reg.Goal.mk ?_
      go_simp
      go_wp2
      go_end0
      have hk := HOK.out
      have hbp : ∀ b ∈ bp, (W3.setCell ⟨d, 5, none⟩ (.int .i64 (min X.sure no))).heap[b]? = w.heap[b]? := fun b hm => HK4.out.block b (HI.out.pages.lt b hm) (by have := HI.out.bp_ne b hm; simpa using this)
      have hok2 : DevP.Ok { X with log := X.log.take (no - X.head).toNat, sure := min X.sure no } := by
        rw [HKE.out]
        exact ⟨hk.n0, hk.n1, hk.nl, hk.h0, by show X.head ≤ min X.sure no; omega, by show min X.sure no ≤ X.head + ((X.log.take k).length : Nat); rw [List.length_take]; omega, hk.t0, hk.t1, hk.o0, hk.f0, hk.f1, hk.w0, hk.w1⟩
      obtain ⟨bs', hD', hn'⟩ := HI.out.relog (X' := { X with log := X.log.take (no - X.head).toNat, sure := min X.sure no }) hbp HS4.out (by rw [HKE.out]; exact HO4.out) (HGB.out.imp id .inl) rfl rfl (Nat.le_refl _) hok2
      exact ⟨rfl, bs', hD', HK4.out.more (fun b hb => by rw [List.mem_singleton] at hb; rw [hb]; exact HD.out.mem), fun b hb => by rw [HB.out]; exact hn' b hb, trivial⟩
end Go.Proofs.Ytiokcemlfdonnaa.DevW
end
