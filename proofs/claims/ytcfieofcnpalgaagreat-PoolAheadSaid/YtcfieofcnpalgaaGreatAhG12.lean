/-
  Parts of the proof of PoolAhead.
-/
import Derived.Test.YtcfieofcnpalgaaGreatAhG11
import Derived.Defers
import Derived.Recover
import Derived.Test.YtcfieofcnpalgaaGreatAhG5
import Derived.Deep.RegionWith
section
namespace Go.Proofs.YtcfieofcnpalgaaGreat
open Go.RowKit
set_option linter.unusedVariables false
set_option linter.unusedSimpArgs false
namespace PoolW
attribute [local go_sem ↓] app_fold cut_fold cl_fold cp_fold
theorem own_drew1 {w : World} {base n c : Nat} {A : Option Addr} {l : List Nat} (h : OwnE PtrE 73 w base A n c l) : OwnE PtrE 73 w.drew base A n c l := h.next ((bsame w).drew)
set_option maxRecDepth 100000 in
set_option maxHeartbeats 1000000 in
theorem delete_any (A : Option Addr) (n c base k : Nat) (l : List Nat) (w : World) (h : OwnE PtrE 73 w base A n c l) (hb : base ≤ w.heap.size) (hk : k < n) (hn : n ≤ 100000) :
    Calls Tryz.prog 54 #[.slice A n c, .int .i64 (k : Int), .int .i64 ((k + 1 : Nat) : Int)] w fun e w' => e = .returned (.slice A (n - 1) c) ∧ OwnE PtrE 73 w' base A (n - 1) c (l.eraseIdx k) ∧ ∃ a, A = some a ∧ w.grownBy w' (some a.block) := by
  obtain ⟨i0, hi, hz0, hz1, hz2⟩ := info_parts infoPF
  have hcap := h.elemsIn.cap
  obtain ⟨g, w1, rfl, hbg, hgl, hrun, hO1, hg1, hs1⟩ := (own_drew1 h).del (P := Tryz.prog) 70 70 i0 Tryz.underlying70 hi hz1 k hk
  obtain ⟨g', w2, e, hrun2, hO2, hg2, hs2⟩ := hO1.wipe (P := Tryz.prog) 70 0 i0 _ Tryz.underlying70 hi hz0 rfl (by intro v hv; simp only [Value.cells, List.mem_cons, List.not_mem_nil, or_false] at hv; subst hv; rfl) (by omega) (n - (n - 1)) (by omega)
  cases e
  have HO2 := Lib.hid hO2
  have HB2 : Hid (w.grownBy w2 (some g)) := Lib.hid (((⟨rfl, rfl, rfl, Nat.le_refl _, fun _ _ _ => rfl⟩ : w.grownBy w.drew (some g)).trans hg1).trans hg2)
  rw [show PtrE.size = 1 from rfl] at hrun hrun2
  have hcm := hcap.2
  have hcn := hcap.1
  unfold maxLen at hcm
  clear h hO1 hO2 hg1 hg2 hi hz0 hz1 hz2 hcap
  go_enter Tryz.func54, Tryz.ntmps54
  go_wp2
  go_region
  go_wp2
  go_ret
  exact ⟨rfl, HO2.out, _, rfl, HB2.out⟩
theorem place_at {L : List Nat} {i g : Nat} (h : L[i]? = some g) (hd : L.Nodup) : place L g = (i : Int) := by
  unfold place
  rw [List.findIdx?_eq_some_iff_getElem.2]
  obtain ⟨h1, h2⟩ := List.getElem?_eq_some_iff.1 h
  exact ⟨h1, by rw [h2]; simp, fun j hj => by
    have : L[j] ≠ g := fun e => by
      have := (List.getElem_inj hd (h₀ := by omega) (h₁ := h1)).1 (e.trans h2.symm)
      omega
    simpa using this⟩
theorem place_no {L : List Nat} {g : Nat} (h : g ∉ L) : place L g = -1 := by
  unfold place
  rw [List.findIdx?_eq_none_iff.2]
  intro x hx
  have : x ≠ g := fun e => h (e ▸ hx)
  simpa using this
/-- behind use: the box and its row -/
def Used (w : World) (p d lg : Nat) (n : Int) (A : Option Addr) (m : Nat) (L : List Nat) (w' : World) : Prop :=
  ∃ A' c', Str w' p (poolC d lg n A' m c') ∧ OwnE PtrE 73 w' 0 A' m c' L ∧ (A' = A ∨ ∃ a, A' = some a ∧ w.heap.size ≤ a.block) ∧ Reg.KeepB w.heap.size (p :: (A.map (·.block)).toList) w w'
theorem own_ne {w : World} {m c q : Nat} {A : Option Addr} {L : List Nat} (hq : q ∉ (A.map (·.block)).toList) : ∀ a, A = some a → (some q : Option Nat) ≠ some a.block := by
  intro a e h
  injection h with h
  exact hq (by rw [e, h]; simp)
set_option maxRecDepth 100000 in
set_option maxHeartbeats 1000000 in
theorem use_new (p d lg m c g : Nat) (n : Int) (A : Option Addr) (L : List Nat) (w : World) (hP : Str w p (poolC d lg n A m c)) (hR : OwnE PtrE 73 w 0 A m c L) (hq : p ∉ (A.map (·.block)).toList) (hm : m ≤ 100) {cg : Array Value} (hg : Str w g cg) (hS : ∀ x ∈ L, ∃ cs, Str w x cs) (hn : g ∉ L) :
    Calls Tryz.prog 33 #[.pointer (some ⟨p, 0, none⟩), .pointer (some ⟨g, 0, none⟩)] w fun e w' => e = .returned (.tuple #[]) ∧ Used w p d lg n A (m + 1) (L ++ [g]) w' := by
  have HP0 := Lib.hid hP
  have HQ := Lib.hid hq
  have HG := Lib.hid hg
  have HS := Lib.hid hS
  have HR0 := Lib.hid hR
  have hlen := hR.len
  have g0 := str4 (show Str w p #[.pointer (some ⟨d, 0, none⟩), .iface 32 (.pointer (some ⟨lg, 0, none⟩)), .int .i64 n, .slice A m c] from hP)
  have gf0 := fun j => hP.frozen j
  have hl0 := hP.lt
  clear hP hR hq hg hS
  have hpl := place_no hn
  go_enter Tryz.func33, Tryz.ntmps33
  go_wp2_with fail
  refine (index_any m c g A L w HR0.out hm HG.out HS.out).mono ?_
  rintro e w' ⟨rfl, rfl⟩
  rw [hpl]
  have HR := HR0
  have HP : Hid (Str w p #[.pointer (some ⟨d, 0, none⟩), .iface 32 (.pointer (some ⟨lg, 0, none⟩)), .int .i64 n, .slice A m c]) := HP0
  have HK : Hid (Reg.KeepB w.heap.size (p :: (A.map (·.block)).toList) w w) := Lib.hid (Reg.KeepB.of (bsame w))
  obtain ⟨i0, hi, hz0, hz1, hz2⟩ := info_parts infoPF
  obtain ⟨V, hV⟩ : ∃ V, w.alloc (.cells #[.pointer (some ⟨g, 0, none⟩)] 73) = V := ⟨_, rfl⟩
  have hbV : Below w.heap.size w V := by rw [← hV]; exact balloc (bsame _) _
  have hlit : Str V w.heap.size #[.pointer (some ⟨g, 0, none⟩)] := by rw [← hV]; exact Str.new _ _ _
  obtain ⟨A3, c3, W3, happ, hO3, -, hg3, hA3⟩ := (HR.out.next hbV).app (P := Tryz.prog) 70 70 i0 _ 8 Tryz.underlying70 hi hz0 hz1 hz2 rfl (PtrE.lit hlit) (by unfold maxLen; omega) (by omega) (by omega)
  have hVz : V.heap.size = w.heap.size + 1 := by rw [← hV]; simp
  rw [← hV] at happ
  have hob : (Value.slice A 0 0).ownBlock = A.map (·.block) ∨ (Value.slice A 0 0).ownBlock = none := by
    cases A with
    | none => exact .inr rfl
    | some a => exact .inl rfl
  have hP3 : Str W3 p #[.pointer (some ⟨d, 0, none⟩), .iface 32 (.pointer (some ⟨lg, 0, none⟩)), .int .i64 n, .slice A m c] := (HP.out.next hbV).grownO hg3 (fun h => by rcases hob with e | e <;> rw [e] at h <;> first | exact HQ.out (Option.mem_toList.2 h) | cases h)
  have hk3 : Reg.KeepB w.heap.size (p :: (A.map (·.block)).toList) w W3 := by
    have h1 := HK.out.step hbV HK.out.size
    refine ⟨hg3.os.trans h1.os, hg3.tape.trans h1.tape, hg3.output.trans h1.output, Nat.le_trans h1.size hg3.size, fun q hq hn => (hg3.block q (by have := h1.size; omega) (fun e => ?_)).trans (h1.block q hq hn)⟩
    rcases hob with e1 | e1
    · rw [e1] at e
      exact hn (List.mem_cons_of_mem _ (by first | (rw [← e]; simp) | (simp at e; simp [e])))
    · rw [e1] at e; cases e
  have HO3 := Lib.hid hO3
  have HK3 := Lib.hid hk3
  have HP3 := Lib.hid hP3
  have HA3 : Hid (A3 = A ∨ ∃ a, A3 = some a ∧ w.heap.size ≤ a.block) := Lib.hid (hA3.imp id fun ⟨a, e, h⟩ => ⟨a, e, by have := HK.out.size; omega⟩)
  have HG3 : Hid (p ∉ (A3.map (·.block)).toList) := Lib.hid (by
    rcases HA3.out with e | ⟨a, e, h⟩
    · rw [e]; exact HQ.out
    · rw [e]; intro hm; have := HP0.out.lt; simp at hm; omega)
  have g3 := str4 HP3.out
  have gf3 := fun j => HP3.out.frozen j
  have hl3 := HP3.out.lt
  clear hbV hlit hO3 hg3 hA3 hob hP3 hk3 hi hz0 hz1 hz2 hVz hV
  go_wp2_with fail
  go_end0
  have hg4 := grown_set (grown_refl W3 p) 3 (.slice A3 (m + 1) c3)
  refine ⟨rfl, A3, c3, ?_, HO3.out.grownP ptrE_pure hg4 (own_ne (w := W3) (m := 0) (c := 0) (L := []) HG3.out), HA3.out, HK3.out.grown hg4 HK3.out.size (.inr (List.mem_cons_self ..))⟩
  have := HP3.out.set 3 (.slice A3 (m + 1) c3)
  simpa [poolC] using this
set_option maxRecDepth 100000 in
set_option maxHeartbeats 1000000 in
theorem use_in (p d lg m c g : Nat) (n : Int) (A : Option Addr) (L : List Nat) (w : World) (hP : Str w p (poolC d lg n A m c)) (hR : OwnE PtrE 73 w 0 A m c L) (hq : p ∉ (A.map (·.block)).toList) (hm : m ≤ 100) {cg : Array Value} (hg : Str w g cg) (hS : ∀ x ∈ L, ∃ cs, Str w x cs) (i : Nat) (hi : L[i]? = some g) (hd : L.Nodup) :
    Calls Tryz.prog 33 #[.pointer (some ⟨p, 0, none⟩), .pointer (some ⟨g, 0, none⟩)] w fun e w' => e = .returned (.tuple #[]) ∧ Used w p d lg n A m (L.eraseIdx i ++ [g]) w' := by
  have HP0 := Lib.hid hP
  have HQ := Lib.hid hq
  have HG := Lib.hid hg
  have HS := Lib.hid hS
  have HR0 := Lib.hid hR
  have hlen := hR.len
  have g0 := str4 (show Str w p #[.pointer (some ⟨d, 0, none⟩), .iface 32 (.pointer (some ⟨lg, 0, none⟩)), .int .i64 n, .slice A m c] from hP)
  have gf0 := fun j => hP.frozen j
  have hl0 := hP.lt
  clear hP hR hq hg hS
  have hpl := place_at hi hd
  have him : i < m := by have := (List.getElem?_eq_some_iff.1 hi).1; omega
  clear hd hi
  go_enter Tryz.func33, Tryz.ntmps33
  go_wp2_with fail
  refine (index_any m c g A L w HR0.out hm HG.out HS.out).mono ?_
  rintro e w' ⟨rfl, rfl⟩
  rw [hpl]
  have hd0 : decide ((0 : Int) ≤ (i : Int)) = true := by simp
  go_wp2_with fail
  refine (delete_any A m c 0 i L w HR0.out (Nat.zero_le _) him (by omega)).mono ?_
  rintro e w1 ⟨rfl, hO1, a, rfl, hg1⟩
  have hP1 := HP0.out.grownO hg1 (fun e => HQ.out (by simpa using (Option.some.inj e).symm))
  have hg2 := grown_set (grown_refl w1 p) 3 (.slice (some a) (m - 1) c)
  have HR1 := Lib.hid hO1
  have HP1 := Lib.hid hP1
  have HK1 : Hid (Reg.KeepB w.heap.size (p :: [a.block]) w w1) := Lib.hid ((Reg.KeepB.of (bsame w)).grown hg1 (Nat.le_refl _) (.inr (by simp)))
  have g1 := str4 (show Str w1 p #[.pointer (some ⟨d, 0, none⟩), .iface 32 (.pointer (some ⟨lg, 0, none⟩)), .int .i64 n, .slice (some a) m c] from hP1)
  have gf1 := fun j => hP1.frozen j
  have hl1 := hP1.lt
  clear hO1 hg1 hP1 g0 gf0
  go_wp2_with fail
  obtain ⟨W2, hW2⟩ : ∃ W, w1.setCell ⟨p, 3, none⟩ (.slice (some a) (m - 1) c) = W := ⟨_, rfl⟩
  rw [hW2] at hg2
  have HR : Hid (OwnE PtrE 73 W2 0 (some a) (m - 1) c (L.eraseIdx i)) := Lib.hid (HR1.out.grownP ptrE_pure hg2 (own_ne (w := w1) (m := 0) (c := 0) (L := []) HQ.out))
  have HP : Hid (Str W2 p #[.pointer (some ⟨d, 0, none⟩), .iface 32 (.pointer (some ⟨lg, 0, none⟩)), .int .i64 n, .slice (some a) (m - 1) c]) := Lib.hid (by rw [← hW2]; have := HP1.out.set 3 (.slice (some a) (m - 1) c); simpa [poolC] using this)
  have HK : Hid (Reg.KeepB w.heap.size (p :: [a.block]) w W2) := Lib.hid (HK1.out.grown hg2 HK1.out.size (.inr (List.mem_cons_self ..)))
  have g0 := str4 HP.out
  have gf0 := fun j => HP.out.frozen j
  have hl0' := HP.out.lt
  have hzw : W2.heap.size = w1.heap.size := by rw [← hW2]; simp
  obtain ⟨i0, hi, hz0, hz1, hz2⟩ := info_parts infoPF
  obtain ⟨V, hV⟩ : ∃ V, W2.alloc (.cells #[.pointer (some ⟨g, 0, none⟩)] 73) = V := ⟨_, rfl⟩
  have hbV : Below W2.heap.size W2 V := by rw [← hV]; exact balloc (bsame _) _
  have hlit : Str V W2.heap.size #[.pointer (some ⟨g, 0, none⟩)] := by rw [← hV]; exact Str.new _ _ _
  obtain ⟨A3, c3, W3, happ, hO3, -, hg3, hA3⟩ := (HR.out.next hbV).app (P := Tryz.prog) 70 70 i0 _ 8 Tryz.underlying70 hi hz0 hz1 hz2 rfl (PtrE.lit hlit) (by unfold maxLen; omega) (by omega) (by omega)
  have hVz : V.heap.size = W2.heap.size + 1 := by rw [← hV]; simp
  rw [← hV] at happ
  rw [hzw, ← hW2] at happ
  rw [show m - 1 + 1 = m by omega] at happ hO3
  have hob : (Value.slice (some a) 0 0).ownBlock = (some a).map (·.block) ∨ (Value.slice (some a) 0 0).ownBlock = none := by
    exact .inl rfl
  have hP3 : Str W3 p #[.pointer (some ⟨d, 0, none⟩), .iface 32 (.pointer (some ⟨lg, 0, none⟩)), .int .i64 n, .slice (some a) (m - 1) c] := (HP.out.next hbV).grownO hg3 (fun h => by rcases hob with e | e <;> rw [e] at h <;> first | exact HQ.out (Option.mem_toList.2 h) | cases h)
  have hk3 : Reg.KeepB w.heap.size (p :: [a.block]) w W3 := by
    have h1 := HK.out.step hbV HK.out.size
    refine ⟨hg3.os.trans h1.os, hg3.tape.trans h1.tape, hg3.output.trans h1.output, Nat.le_trans h1.size hg3.size, fun q hq hn => (hg3.block q (by have := h1.size; omega) (fun e => ?_)).trans (h1.block q hq hn)⟩
    rcases hob with e1 | e1
    · rw [e1] at e
      exact hn (List.mem_cons_of_mem _ (by first | (rw [← e]; simp) | (simp at e; simp [e])))
    · rw [e1] at e; cases e
  have HO3 := Lib.hid hO3
  have HK3 := Lib.hid hk3
  have HP3 := Lib.hid hP3
  have HA3 : Hid (A3 = some a ∨ ∃ a, A3 = some a ∧ w.heap.size ≤ a.block) := Lib.hid (hA3.imp id fun ⟨a, e, h⟩ => ⟨a, e, by have := HK.out.size; omega⟩)
  have HG3 : Hid (p ∉ (A3.map (·.block)).toList) := Lib.hid (by
    rcases HA3.out with e | ⟨a, e, h⟩
    · rw [e]; exact HQ.out
    · rw [e]; intro hm; have := HP0.out.lt; simp at hm; omega)
  have g3 := str4 HP3.out
  have gf3 := fun j => HP3.out.frozen j
  have hl3 := HP3.out.lt
  clear hbV hlit hO3 hg3 hA3 hob hP3 hk3 hi hz0 hz1 hz2 hVz hV
  clear hW2 hzw
  go_simp
  go_wp2_with fail
  go_end0
  have hg4 := grown_set (grown_refl W3 p) 3 (.slice A3 m c3)
  refine ⟨rfl, A3, c3, ?_, HO3.out.grownP ptrE_pure hg4 (own_ne (w := W3) (m := 0) (c := 0) (L := []) HG3.out), HA3.out, HK3.out.grown hg4 HK3.out.size (.inr (List.mem_cons_self ..))⟩
  have := HP3.out.set 3 (.slice A3 m c3)
  simpa [poolC] using this
end PoolW
end Go.Proofs.YtcfieofcnpalgaaGreat
end
section
namespace Go.Proofs.YtcfieofcnpalgaaGreat
open Go.RowKit
set_option linter.unusedVariables false
set_option linter.unusedSimpArgs false
namespace PoolW
set_option maxRecDepth 100000 in
set_option maxHeartbeats 1000000 in
theorem logForce_any (lg : Nat) (far lsn : Int) (w : World) (hL : Str w lg #[.int .i64 far]) :
    Calls Tryz.prog 122 #[.pointer (some ⟨lg, 0, none⟩), .int .i64 lsn] w fun e w' => e = .returned (.int .i64 0) ∧ Str w' lg #[.int .i64 (PoolP.force far lsn)] ∧ Reg.KeepB w.heap.size [lg] w w' := by
  have g0 := str1 hL
  have gf := fun j => hL.frozen j
  have hl := hL.lt
  have HL := Lib.hid hL
  clear hL
  unfold PoolP.force
  by_cases h : far < lsn
  · have hd : decide (far < lsn) = true := by simpa using h
    rw [if_pos h]
    go_enter Tryz.func122, Tryz.ntmps122
    go_wp2
    go_ret
    have hg := grown_set (grown_refl w lg) 0 (.int .i64 lsn)
    exact ⟨rfl, by simpa using HL.out.set 0 (.int .i64 lsn), (Reg.KeepB.of (bsame w)).grown hg (Nat.le_refl _) (.inr (by simp))⟩
  · have hd : decide (far < lsn) = false := by simpa using h
    rw [if_neg h]
    go_enter Tryz.func122, Tryz.ntmps122
    go_wp2
    go_ret
    exact ⟨rfl, HL.out, Reg.KeepB.of (bsame w)⟩
theorem method_force (f : Nat) (a : Addr) (w : World) : (method (f + 1) 32 (.pointer (some a)) "Force").run Tryz.prog w = .ok (122, .pointer (some a)) w := by kernel_rfl
theorem catch_idle (p : Addr) (w : World) :
    CallsD Tryz.prog 71 #[.pointer (some p)] .returning w fun e u' w' => e = .returned (.tuple #[]) ∧ u' = .returning ∧ w' = w := by
  refine callsD_of_wpS Tryz.func71 rfl fun c₀ cs hu => ?_
  apply wpS_seq
  apply wpS_region
  simp [wpOpsS, go_sem, recoverD, hu, Tryz.ntmps71, Exit.thenS]
  refine wpS_cond (t := false) (by simp [Act.eval, Array.replicate]) ?_
  simp only [Bool.false_eq_true, if_false]
  refine wpS_of_wp (wp_skip ?_)
  cases c₀
  simp_all [bodyPostS, results, Tryz.results71]
set_option maxRecDepth 100000 in
set_option maxHeartbeats 1000000 in
theorem force_any (p d lg m c : Nat) (n : Int) (A : Option Addr) (far lsn : Int) (w : World) (hP : Str w p (poolC d lg n A m c)) (hL : Str w lg #[.int .i64 far]) :
    Calls Tryz.prog 61 #[.pointer (some ⟨p, 0, none⟩), .int .i64 lsn] w fun e w' => e = .returned (.int .i64 0) ∧ Str w' lg #[.int .i64 (PoolP.force far lsn)] ∧ Reg.KeepB w.heap.size [lg] w w' := by
  have hmf : ∀ (fn : Fn) (first cap : Array Value) (w : World), (Instr.makeFunc fn first cap).run Tryz.prog w = .ok (.func fn first cap) w := fun _ _ _ _ => rfl
  have g0 := str4 (show Str w p #[.pointer (some ⟨d, 0, none⟩), .iface 32 (.pointer (some ⟨lg, 0, none⟩)), .int .i64 n, .slice A m c] from hP)
  have hl := hP.lt
  have HP := Lib.hid hP
  have HL := Lib.hid hL
  clear hP hL
  go_enter_defers Tryz.func61, Tryz.ntmps61
  have hL0 : Str (w.alloc (.cells #[.int .i64 0] 43)) lg #[.int .i64 far] := HL.out.alloc _
  have hE0 := Str.new w #[.int .i64 0] 43
  go_wp2_with fail
  rw [method_force]
  go_simp
  go_wp2_with fail
  refine (logForce_any lg far lsn _ hL0).mono ?_
  rintro e w1 ⟨rfl, hL1, hk1⟩
  have hE1 := hE0.keepB hk1 (by intro hm; have := HL.out.lt; simp at hm; omega)
  have gE1 := str1 hE1
  have gfE := fun j => hE1.frozen j
  have HE1 := Lib.hid hE1
  have HL1 := Lib.hid hL1
  have HK1 := Lib.hid hk1
  clear hE0 hL0 hE1 hL1 hk1
  go_wp2_with fail
  have hgF := grown_set (grown_refl w1 w.heap.size) 0 (.int .i64 0)
  have hEF := HE1.out.set 0 (.int .i64 0)
  obtain ⟨WF, hWF⟩ : ∃ WF, w1.setCell ⟨w.heap.size, 0, none⟩ (.int .i64 0) = WF := ⟨_, rfl⟩
  rw [hWF] at hgF hEF ⊢
  have gF := str1 (show Str WF w.heap.size #[.int .i64 0] by simpa using hEF)
  refine leaves_cons (f := 71) (args := #[.pointer (some ⟨w.heap.size, 0, none⟩)]) (by simp) (by simp [go_sem]) ?_
  refine (catch_idle ⟨w.heap.size, 0, none⟩ _).mono ?_
  rintro e u' w'' ⟨rfl, rfl, rfl⟩
  have hba : Below w.heap.size w (w.alloc (.cells #[.int .i64 0] 43)) := balloc (bsame w) _
  have hkA := HK1.out
  rw [show (w.alloc (.cells #[.int .i64 0] 43)).heap.size = w.heap.size + 1 by simp] at hkA
  have hkF : Reg.KeepB w.heap.size [lg] w w'' := ((Reg.KeepB.of hba).trans (hkA.less (Nat.le_succ _)) (Nat.le_refl _)).grown hgF (by have := hkA.size; have := hba.size; simp at *; omega) (.inl (Nat.le_refl _))
  have hLF : Str w'' lg #[.int .i64 (PoolP.force far lsn)] := HL1.out.grownO hgF (by intro e; injection e with e; have := HL.out.lt; omega)
  refine ⟨.int .i64 0, ?_, rfl, hLF, hkF⟩
  simp [Leaves, settle, results, Tryz.results61, go_sem, gF]
end PoolW
end Go.Proofs.YtcfieofcnpalgaaGreat
end
section
namespace Go.Proofs.YtcfieofcnpalgaaGreat.CellPut
open Go.RowKit
attribute [local go_sem ↓] app_fold

/-- a slice in a box, which owns its bytes -/
def Out (w : World) (base B : Nat) (l : List UInt8) : Prop := ∃ v, Boxed w B 27 v ∧ w.ownsRow base 5 1 v l.length (l.map byteV) ∧ base ≤ B
def Added (w : World) (base B : Nat) (l : List UInt8) (e : Ending) (w' : World) : Prop := e = .returned (.tuple #[]) ∧ Out w' base B l ∧ Below base w w'

set_option maxHeartbeats 1000000 in
theorem add_any (base B width : Nat) (m : Int) (l : List UInt8) (w : World) (h : Out w base B l) (hw1 : 1 ≤ width) (hw8 : width ≤ 8) (hn : l.length + 8 ≤ 140737488355328) :
    Calls Tryz.prog 104 #[.int .i64 (width : Int), .int .i64 m, .pointer (some ⟨B, 0, none⟩)] w (Added w base B (l ++ BeP.parts width m)) := by
  obtain ⟨v, hbox, hown, hbase⟩ := h
  obtain ⟨i0, hi, hz0, hz1, hz2⟩ := info_parts Be.infoU8
  have hc := hbox.cell
  have hlt := hbox.lt
  have HBOX := Lib.hid hbox
  have HOWN := Lib.hid hown
  clear hbox hown
  have hpl := BeP.parts_length width m
  have HPL := Lib.hid hpl
  clear hpl
  go_enter Tryz.func104, Tryz.ntmps104
  go_wp2
  go_region_with ((go_at_call 64; refine (Be.put_wide none 0 0 0 [] width m _ (Bytes.none_ _ _) (Nat.zero_le _) hw1 hw8 (by omega)).mono ?_; rintro e w1 ⟨A1, n1, c1, rfl, hby, hb⟩; have hn1 : n1 = width := hby.len.symm.trans (by simp [HPL.out]); have hbs := hb.size; obtain ⟨v', w2, happ, hown2, hgrow2⟩ := run_append_bytes (P := Tryz.prog) w1 base 27 27 5 i0 _ Tryz.underlying27 hi hz0 hz1 hz2 rfl v l.length (l.map byteV) (own_next HOWN.out.drew hb) w1.heap.size A1 n1 c1 _ hby (by omega) (by simp at hbs; omega); obtain ⟨g', cap', hv', -, -⟩ := hown2.form (by omega); have hb1 : Boxed w1 B 27 v := (hb.block B hlt).trans HBOX.out; have hb2 : Boxed w2 B 27 v := hb1.kept hgrow2 (hb1.not_row (by decide) (own_next HOWN.out.drew hb)); have hc1 := hb1.cell; have hc2 := hb2.cell; have hf2 := hb2.frozen; subst hv'; have HBY := Lib.hid hby; have HB := Lib.hid hb; have HO2 := Lib.hid hown2; have HG2 := Lib.hid hgrow2; have HN1 := Lib.hid hn1; clear hby hb hown2 hgrow2 hn1))
  all_goals go_end0
  all_goals
    have h3 : base ≤ w.heap.size := by omega
    have hbw : Below base w w1 := (Below.refl base w).drew.trans (HB.out.mono (by simpa using h3))
    refine ⟨rfl, ⟨_, hb2.set _, ?_, hbase⟩, (hbw.grown HG2.out (by simp at hbs; omega) (fun k e => ?_)).setCell hbase _⟩
    · have hl1 := HN1.out
      have hl2 := HPL.out
      have hx : (l ++ BeP.parts width m).length = l.length + n1 := by simp; omega
      have hxs : (l ++ BeP.parts width m).map byteV = l.map byteV ++ ([] ++ BeP.parts width m).map byteV := by simp
      rw [hx, hxs]
      exact HO2.out.kept (grownBy_setCell' w2 B _) (.inr (hb2.not_row (by decide) HO2.out).symm)
    · rcases HOWN.out.2 with ⟨rfl, _⟩ | ⟨g, cap, cur, rfl, hg, _⟩
      · simp [Value.ownBlock] at e
      · obtain rfl : g = k := by simpa [Value.ownBlock] using e
        exact hg

theorem bytes_rec (c : Cell) (hr : CellP.right c = true) (hk : c.kind = 1) : CellP.bytes c = BeP.parts 1 c.kind ++ (BeP.parts 1 (c.data.length : Int) ++ c.data) := by
  have h32 : c.data.length ≤ 32 := by
    unfold CellP.right at hr
    rw [if_pos hk] at hr
    simp at hr
    exact hr.1
  unfold CellP.bytes
  rw [if_pos hr, if_pos hk, hk]
  have e1 : BeP.parts 1 1 = [1] := by decide
  have e2 : BeP.parts 1 (c.data.length : Int) = [UInt8.ofNat c.data.length] := by
    have : BeP.u64 (c.data.length : Int) = c.data.length := by unfold BeP.u64; omega
    simp [BeP.parts, BeP.part, this]
  rw [e1, e2]
  rfl
theorem bytes_cnt (c : Cell) (hr : CellP.right c = true) (hk : c.kind = 2) : CellP.bytes c = BeP.parts 1 c.kind ++ (BeP.parts 8 c.lo ++ (BeP.parts 8 c.hi ++ BeP.parts 8 c.val)) := by
  unfold CellP.bytes
  rw [if_pos hr, if_neg (by omega), hk]
  have e1 : BeP.parts 1 2 = [2] := by decide
  rw [e1]

set_option maxHeartbeats 1000000 in
theorem put_any (A A' : Option Addr) (n c n' cap' B B' : Nat) (l : List UInt8) (x : Cell) (w : World) (h : Bytes w B A n c l) (hB : B ≤ w.heap.size) (h' : Bytes w B' A' n' cap' x.data) (hB' : B' ≤ w.heap.size) (hn : n ≤ 100000000000000) :
    Calls Tryz.prog 100 #[.slice A n c, .agg #[.int .i64 x.kind, .slice A' n' cap', .int .i64 x.lo, .int .i64 x.hi, .int .i64 x.val]] w (GivesBytes w (l ++ CellP.bytes x)) := by
  obtain ⟨i0, hi, hz0, hz1, hz2⟩ := info_parts Be.infoU8
  have hln := h.len
  have hlx := h'.len
  have hmx := Nat.le_trans h'.2.1 h'.2.2.1
  have HLN := Lib.hid hln
  have hmk : ∀ W : World, (Instr.makeSlice 27 (.int .i64 0) (.int .i64 ((n : Int) + 2 + 32))).run Tryz.prog W = .ok (.slice (some ⟨W.heap.size, 0, none⟩) 0 (n + 34)) (W.alloc (.cells (zerosV (n + 34)).toArray 5)) := fun W => by
    have := Be.run_make_b 0 (n + 34) (by omega) (by omega) W
    have e : ((n + 34 : Nat) : Int) = (n : Int) + 2 + 32 := by omega
    rw [e] at this
    exact this
  obtain ⟨kind, data, lo, hi', val⟩ := x
  dsimp only at *
  -- the world behind make, and the append of b
  obtain ⟨W1, hW1⟩ : ∃ W1, w.alloc (.cells #[.int .i64 kind, .slice A' n' cap', .int .i64 lo, .int .i64 hi', .int .i64 val] 100) = W1 := ⟨_, rfl⟩
  have hz1' : W1.heap.size = w.heap.size + 1 := by rw [← hW1]; simp
  have hown0 : (W1.alloc (.cells (zerosV (n + 34)).toArray 5)).ownsRow (w.heap.size + 1) 5 1 (.slice (some ⟨W1.heap.size, 0, none⟩) 0 (n + 34)) 0 [] :=
    ⟨rfl, .inr ⟨_, _, _, rfl, by omega, heap_alloc_new W1 _, by omega, by unfold maxLen; omega, by simp [zerosV_length], by simp⟩⟩
  have hbyW : Bytes (W1.alloc (.cells (zerosV (n + 34)).toArray 5)) B A n c l := by
    rw [← hW1]
    exact (h.alloc hB _).alloc (by simp; omega) _
  obtain ⟨v', w3, happ, hown3, hgrow3⟩ := run_append_bytes (P := Tryz.prog) (W1.alloc (.cells (zerosV (n + 34)).toArray 5)) (w.heap.size + 1) 27 27 5 i0 _ Tryz.underlying27 hi hz0 hz1 hz2 rfl _ 0 [] hown0 B A n c l hbyW (by omega) (by simp; omega)
  simp only [Nat.zero_add, List.nil_append] at hown3
  obtain ⟨A3, c3, rfl⟩ := own_slice hown3
  have hb3 : Below (w.heap.size + 1) W1 w3 := ((Below.refl _ W1).alloc (by omega) _).grown hgrow3 (by simp; omega) (own_block hown0)
  have HO3 := Lib.hid hown3
  have HB3 := Lib.hid hb3
  rw [hz1'] at happ
  clear hown3 hb3 hgrow3 hown0 hbyW hz1'
  subst hW1
  have HLX := Lib.hid hlx
  have H' := Lib.hid h'
  clear hln hlx h h'
  have hs3 := HB3.out.size
  simp only [World.size_alloc] at hs3
  have k0 := HB3.out.cell (p := ⟨w.heap.size, 0, none⟩) (by simp)
  have k1 := HB3.out.cell (p := ⟨w.heap.size, 1, none⟩) (by simp)
  have k2 := HB3.out.cell (p := ⟨w.heap.size, 2, none⟩) (by simp)
  have k3 := HB3.out.cell (p := ⟨w.heap.size, 3, none⟩) (by simp)
  have k4 := HB3.out.cell (p := ⟨w.heap.size, 4, none⟩) (by simp)
  simp at k0 k1 k2 k3 k4
  have hs3' : w.heap.size < w3.heap.size := by omega
  have bO := Boxed.new w3 27 (.slice A3 n c3)
  have HBO := Lib.hid bO
  clear bO hs3
  cases hr : CellP.right ⟨kind, data, lo, hi', val⟩
  · have hc1 : CellP.code false = 1 := rfl
    go_enter Tryz.func100, Tryz.ntmps100
    go_wp2_with (go_at_call 97; refine (CellW.check_any A' n' cap' ⟨kind, data, lo, hi', val⟩ _ HLX.out hmx).mono ?_; rintro e w4 ⟨rfl, hb4⟩; rw [hr]; obtain ⟨hq4, hf4⟩ := bcell hb4)
    go_ret
    have hl : l ++ CellP.bytes ⟨kind, data, lo, hi', val⟩ = l := by simp [CellP.bytes, hr]
    rw [hl]
    have hbW : Below w.heap.size w w4 := (balloc (bsame w) _).trans ((HB3.out.mono (by omega)).trans (((Below.refl _ w3).alloc (by omega) _).trans (hb4.mono (by simp; omega))))
    obtain ⟨A9, n9, c9, e9, hby9⟩ := Bytes.of_own (own_next (HO3.out.alloc _) hb4)
    cases e9
    exact ⟨A3, n, c3, rfl, hby9, hbW⟩
  · have hc0 : CellP.code true = 0 := rfl
    have hb34 : Below w.heap.size w (w3.alloc (.cells #[.slice A3 n c3] 27)) := (balloc (bsame w) _).trans ((HB3.out.mono (by omega)).trans ((Below.refl _ w3).alloc (by omega) _))
    have HB34 := Lib.hid hb34
    clear hb34
    go_enter Tryz.func100, Tryz.ntmps100
    go_wp2_with (go_at_call 97; refine (CellW.check_any A' n' cap' ⟨kind, data, lo, hi', val⟩ _ HLX.out hmx).mono ?_; rintro e w4 ⟨rfl, hb4⟩; rw [hr]; obtain ⟨hq4, hf4⟩ := bcell hb4)
    have hO4 : Out w4 (w.heap.size + 1) w3.heap.size l := by
      refine ⟨_, (hb4.block _ (by simp)).trans HBO.out, ?_, by omega⟩
      rw [HLN.out]
      exact own_next (HO3.out.alloc _) hb4
    have hs4 := hb4.size
    simp only [World.size_alloc] at hs4
    have hB4 : Below w.heap.size w w4 := HB34.out.trans (hb4.mono (by simp; omega))
    have HB4 := Lib.hid hB4
    clear hB4
    refine (add_any (w.heap.size + 1) w3.heap.size 1 kind l w4 hO4 (by omega) (by omega) (by rw [HLN.out]; omega)).mono ?_
    rintro e w5 ⟨rfl, hO5, hb5⟩
    have hq5 := fun o => hb5.cell (p := ⟨w.heap.size, o, none⟩) (by simp)
    have HB5 := Lib.hid (HB4.out.trans (hb5.mono (by omega)))
    have HO5 := Lib.hid hO5
    have hs5 := hb5.size
    clear hO4 hO5 hb5
    have hp1 := BeP.parts_length 1 kind
    by_cases hk : kind = 1
    · have HBY := Lib.hid (bytes_rec ⟨kind, data, lo, hi', val⟩ hr hk)
      have hkb : (kind == 1) = true := by simpa using hk
      have h32 : n' ≤ 32 := by
        have := HLX.out
        unfold CellP.right at hr
        rw [if_pos hk] at hr
        simp at hr
        omega
      clear hk
      go_wp2_with fail
      have HLX' := HLX.out
      refine (add_any (w.heap.size + 1) w3.heap.size 1 (n' : Int) (l ++ BeP.parts 1 kind) w5 HO5.out (by omega) (by omega) (by simp [hp1, HLN.out]; omega)).mono ?_
      rintro e w6 ⟨rfl, hO6, hb6⟩
      have hq6 := fun o => hb6.cell (p := ⟨w.heap.size, o, none⟩) (by simp)
      have HB6 := Lib.hid (HB5.out.trans (hb6.mono (by omega)))
      have hs6 := hb6.size
      have hp2 := BeP.parts_length 1 (n' : Int)
      obtain ⟨v6, hbx6, hown6, -⟩ := hO6
      have hc6 := hbx6.cell
      obtain ⟨v7, w7, happ7, hown7, hgrow7⟩ := run_append_bytes (P := Tryz.prog) w6 (w.heap.size + 1) 27 27 5 i0 _ Tryz.underlying27 hi hz0 hz1 hz2 rfl v6 _ _ hown6 B' A' n' cap' data (H'.out.below (HB6.out.mono hB')) (by simp [hp1, hp2, HLN.out]; omega) (by omega)
      have hfin : Below w.heap.size w w7 := HB6.out.grown hgrow7 (by omega) (fun k e => by have := own_block hown6 k e; omega)
      obtain ⟨A9, n9, c9, rfl, hby9⟩ := Bytes.of_own (l := (l ++ BeP.parts 1 kind ++ BeP.parts 1 (n' : Int)) ++ data) (by simpa using hown7)
      have HF := Lib.hid hfin
      have HY := Lib.hid hby9
      clear hfin hby9 hown7 hgrow7 hbx6 hown6 hb6 hp1 hp2
      go_wp2_with fail
      go_ret
      rw [HBY.out]
      refine ⟨A9, n9, c9, rfl, ?_, HF.out⟩
      have := HY.out
      rw [← HLX'] at this
      simpa using this
    · have hk2 : kind = 2 := by
        unfold CellP.right at hr
        rw [if_neg hk] at hr
        simp at hr
        exact hr.1
      have HBY := Lib.hid (bytes_cnt ⟨kind, data, lo, hi', val⟩ hr hk2)
      have hkb : (kind == 1) = false := by simpa using hk
      clear hk hk2
      have hp2 := BeP.parts_length 8 lo
      have hp3 := BeP.parts_length 8 hi'
      go_wp2_with fail
      refine (add_any (w.heap.size + 1) w3.heap.size 8 lo (l ++ BeP.parts 1 kind) w5 HO5.out (by omega) (by omega) (by simp [hp1, HLN.out]; omega)).mono ?_
      rintro e w6 ⟨rfl, hO6, hb6⟩
      have hq6 := fun o => hb6.cell (p := ⟨w.heap.size, o, none⟩) (by simp)
      have HB6 := Lib.hid (HB5.out.trans (hb6.mono (by omega)))
      have HO6 := Lib.hid hO6
      have hs6 := hb6.size
      clear hO6 hb6
      go_wp2_with fail
      refine (add_any (w.heap.size + 1) w3.heap.size 8 hi' (l ++ BeP.parts 1 kind ++ BeP.parts 8 lo) w6 HO6.out (by omega) (by omega) (by simp [hp1, hp2, HLN.out]; omega)).mono ?_
      rintro e w7 ⟨rfl, hO7, hb7⟩
      have hq7 := fun o => hb7.cell (p := ⟨w.heap.size, o, none⟩) (by simp)
      have HB7 := Lib.hid (HB6.out.trans (hb7.mono (by omega)))
      have HO7 := Lib.hid hO7
      have hs7 := hb7.size
      clear hO7 hb7
      go_wp2_with fail
      refine (add_any (w.heap.size + 1) w3.heap.size 8 val (l ++ BeP.parts 1 kind ++ BeP.parts 8 lo ++ BeP.parts 8 hi') w7 HO7.out (by omega) (by omega) (by simp [hp1, hp2, hp3, HLN.out]; omega)).mono ?_
      rintro e w8 ⟨rfl, hO8, hb8⟩
      have HB8 := Lib.hid (HB7.out.trans (hb8.mono (by omega)))
      obtain ⟨v8, hbx8, hown8, -⟩ := hO8
      have hc8 := hbx8.cell
      obtain ⟨A9, n9, c9, rfl, hby9⟩ := Bytes.of_own hown8
      have HY := Lib.hid hby9
      clear hby9 hbx8 hown8 hb8 hp1 hp2 hp3
      go_wp2_with fail
      go_ret
      rw [HBY.out]
      refine ⟨A9, n9, c9, rfl, ?_, HB8.out⟩
      have := HY.out
      simpa using this
end Go.Proofs.YtcfieofcnpalgaaGreat.CellPut
end
