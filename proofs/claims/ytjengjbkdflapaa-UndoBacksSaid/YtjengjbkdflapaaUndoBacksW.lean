/-
  The walk of UndoBacks: the Go text returns true for every input, and writes nothing that was there.
-/
import Derived.Test.YtjengjbkdflapaaOpen3
import Derived.Test.YtjengjbkdflapaaLive17
import Derived.Test.YtjengjbkdflapaaUndoApply
import Derived.Test.YtjengjbkdflapaaRegX
import Derived.Test.YtjengjbkdflapaaRegP
namespace Go.Proofs.Ytjengjbkdflapaa.undoBacks
open Go.RowKit
set_option linter.unusedVariables false
theorem arr7 (cs : Array Value) (h : cs.size = 7) : ∃ c0 c1 c2 c3 c4 c5 c6, cs = #[c0, c1, c2, c3, c4, c5, c6] := by
  obtain ⟨l⟩ := cs
  match l, h with
  | [a, b, c, d, e, f, g], _ => exact ⟨a, b, c, d, e, f, g, rfl⟩
theorem set7 {w : World} {g : Nat} {c0 c1 c2 c3 c4 c5 c6 : Value} {t : TypeId} (a0 a1 a2 a3 a4 a5 a6 : Value) (h : w.heap[g]? = some (.cells #[c0, c1, c2, c3, c4, c5, c6] t (0, 0))) :
    (((((((w.setCell ⟨g, 0, none⟩ a0).setCell ⟨g, 1, none⟩ a1).setCell ⟨g, 2, none⟩ a2).setCell ⟨g, 3, none⟩ a3).setCell ⟨g, 4, none⟩ a4).setCell ⟨g, 5, none⟩ a5).setCell ⟨g, 6, none⟩ a6).heap[g]? = some (.cells #[a0, a1, a2, a3, a4, a5, a6] t (0, 0)) := by
  have := Reg.setStr_heap (Reg.setStr_heap (Reg.setStr_heap (Reg.setStr_heap (Reg.setStr_heap (Reg.setStr_heap (Reg.setStr_heap h 0 a0) 1 a1) 2 a2) 3 a3) 4 a4) 5 a5) 6 a6
  simpa using this

set_option maxRecDepth 100000 in
set_option maxHeartbeats 4000000 in
theorem way_s1k (Ax : Option Addr) (nx cx : Nat) (act : Int) (xda : List UInt8) (xlo xhi xn : Int) (Ap : Option Addr) (np cp : Nat) (pk : ByteArray) (pkd : Int) (pda : List UInt8) (plo phi pva : Int) (Aq : Option Addr) (nq cq : Nat) (qst : Int) (qk : ByteArray) (qkd : Int) (qda : List UInt8) (qlo qhi qva : Int) (w : World)
    (hp : Bytes w w.heap.size Ap np cp pda) (hpk : pk.size ≤ maxLen) (hq : Bytes w w.heap.size Aq nq cq qda) (hqk : qk.size ≤ maxLen) (hxk : pk.size ≤ maxLen) (hqv : In64 qva) (hql : In64 qlo) (hqh : In64 qhi) (ha1 : 1 ≤ act) (ha2 : act ≤ 3) :
    Calls Try.prog 13 #[.agg #[.int .i64 act, .string pk, .slice Ax nx cx, .int .i64 xlo, .int .i64 xhi, .int .i64 xn], .agg #[.int .i64 1, .string pk, .int .i64 pkd, .slice Ap np cp, .int .i64 plo, .int .i64 phi, .int .i64 pva], .agg #[.int .i64 qst, .string qk, .int .i64 qkd, .slice Aq nq cq, .int .i64 qlo, .int .i64 qhi, .int .i64 qva]] w fun e w' => e = .returned (.bool true) ∧ Below w.heap.size w w' := by
  have Hp := Lib.hid hp
  have Hq := Lib.hid hq
  have hp1 := Nat.le_trans hp.2.1 hp.2.2.1
  have hq1 := Nat.le_trans hq.2.1 hq.2.2.1
  clear hp hq
  go_enter Try.func13, Try.ntmps13
  go_wp2_with fail
  generalize hW0 : (((w).alloc (.cells #[.int .i64 act, .string pk, .slice Ax nx cx, .int .i64 xlo, .int .i64 xhi, .int .i64 xn] 77)).alloc (.cells #[.int .i64 1, .string pk, .int .i64 pkd, .slice Ap np cp, .int .i64 plo, .int .i64 phi, .int .i64 pva] 38)).alloc (.cells #[.int .i64 qst, .string qk, .int .i64 qkd, .slice Aq nq cq, .int .i64 qlo, .int .i64 qhi, .int .i64 qva] 38) = W0
  have HS0_0 : Hid (Str W0 (w.heap.size) #[.int .i64 act, .string pk, .slice Ax nx cx, .int .i64 xlo, .int .i64 xhi, .int .i64 xn]) := Lib.hid (by rw [← hW0]; have := ((Str.new (w) #[.int .i64 act, .string pk, .slice Ax nx cx, .int .i64 xlo, .int .i64 xhi, .int .i64 xn] 77).alloc (.cells #[.int .i64 1, .string pk, .int .i64 pkd, .slice Ap np cp, .int .i64 plo, .int .i64 phi, .int .i64 pva] 38)).alloc (.cells #[.int .i64 qst, .string qk, .int .i64 qkd, .slice Aq nq cq, .int .i64 qlo, .int .i64 qhi, .int .i64 qva] 38); simpa using this)
  have HS1_0 : Hid (Str W0 (w.heap.size + 1) #[.int .i64 1, .string pk, .int .i64 pkd, .slice Ap np cp, .int .i64 plo, .int .i64 phi, .int .i64 pva]) := Lib.hid (by rw [← hW0]; have := (Str.new ((w).alloc (.cells #[.int .i64 act, .string pk, .slice Ax nx cx, .int .i64 xlo, .int .i64 xhi, .int .i64 xn] 77)) #[.int .i64 1, .string pk, .int .i64 pkd, .slice Ap np cp, .int .i64 plo, .int .i64 phi, .int .i64 pva] 38).alloc (.cells #[.int .i64 qst, .string qk, .int .i64 qkd, .slice Aq nq cq, .int .i64 qlo, .int .i64 qhi, .int .i64 qva] 38); simpa using this)
  have HS2_0 : Hid (Str W0 (w.heap.size + 1 + 1) #[.int .i64 qst, .string qk, .int .i64 qkd, .slice Aq nq cq, .int .i64 qlo, .int .i64 qhi, .int .i64 qva]) := Lib.hid (by rw [← hW0]; have := Str.new (((w).alloc (.cells #[.int .i64 act, .string pk, .slice Ax nx cx, .int .i64 xlo, .int .i64 xhi, .int .i64 xn] 77)).alloc (.cells #[.int .i64 1, .string pk, .int .i64 pkd, .slice Ap np cp, .int .i64 plo, .int .i64 phi, .int .i64 pva] 38)) #[.int .i64 qst, .string qk, .int .i64 qkd, .slice Aq nq cq, .int .i64 qlo, .int .i64 qhi, .int .i64 qva] 38; simpa using this)
  have HB_0 : Hid (Below w.heap.size w W0) := Lib.hid (by rw [← hW0]; exact balloc (balloc (balloc (bsame w) _) _) _)
  have hw_0 := HB_0.out.size
  clear hW0
  obtain ⟨f0_0_0, f0_0_1, f0_0_2, f0_0_3, f0_0_4, f0_0_5⟩ := str6 HS0_0.out
  have hl0_0 := HS0_0.out.lt
  obtain ⟨f1_0_0, f1_0_1, f1_0_2, f1_0_3, f1_0_4, f1_0_5, f1_0_6⟩ := str7 HS1_0.out
  have hl1_0 := HS1_0.out.lt
  obtain ⟨f2_0_0, f2_0_1, f2_0_2, f2_0_3, f2_0_4, f2_0_5, f2_0_6⟩ := str7 HS2_0.out
  have hl2_0 := HS2_0.out.lt
  have hf2_0 := fun j => HS2_0.out.frozen j
  refine (Live17.big_any Ap np cp _ pk _ _ _ _ _ hpk hp1).mono ?_
  rintro e W1 ⟨rfl, hb1⟩
  have HS0_1 := Lib.hid (HS0_0.out.next hb1)
  have HS1_1 := Lib.hid (HS1_0.out.next hb1)
  have HS2_1 := Lib.hid (HS2_0.out.next hb1)
  have HB_1 := Lib.hid (bstep HB_0.out hb1)
  have hw_1 := HB_1.out.size
  have hws_1 := (hb1).size
  clear f0_0_0 f0_0_1 f0_0_2 f0_0_3 f0_0_4 f0_0_5 HS0_0 f1_0_0 f1_0_1 f1_0_2 f1_0_3 f1_0_4 f1_0_5 f1_0_6 HS1_0 f2_0_0 f2_0_1 f2_0_2 f2_0_3 f2_0_4 f2_0_5 f2_0_6 HS2_0 hf2_0
  clear hb1
  obtain ⟨f0_1_0, f0_1_1, f0_1_2, f0_1_3, f0_1_4, f0_1_5⟩ := str6 HS0_1.out
  have hl0_1 := HS0_1.out.lt
  obtain ⟨f1_1_0, f1_1_1, f1_1_2, f1_1_3, f1_1_4, f1_1_5, f1_1_6⟩ := str7 HS1_1.out
  have hl1_1 := HS1_1.out.lt
  obtain ⟨f2_1_0, f2_1_1, f2_1_2, f2_1_3, f2_1_4, f2_1_5, f2_1_6⟩ := str7 HS2_1.out
  have hl2_1 := HS2_1.out.lt
  have hf2_1 := fun j => HS2_1.out.frozen j
  cases hbp : Live17.big pk np
  case true =>
    go_wp2_with fail
    refine (Live17.live_any _).mono ?_
    rintro e W2 ⟨rfl, hb2⟩
    have HS0_2 := Lib.hid (HS0_1.out.next hb2)
    have HS1_2 := Lib.hid (HS1_1.out.next hb2)
    have HS2_2 := Lib.hid (HS2_1.out.next hb2)
    have HB_2 := Lib.hid (bstep HB_1.out hb2)
    have hw_2 := HB_2.out.size
    have hws_2 := (hb2).size
    clear f0_1_0 f0_1_1 f0_1_2 f0_1_3 f0_1_4 f0_1_5 HS0_1 f1_1_0 f1_1_1 f1_1_2 f1_1_3 f1_1_4 f1_1_5 f1_1_6 HS1_1 f2_1_0 f2_1_1 f2_1_2 f2_1_3 f2_1_4 f2_1_5 f2_1_6 HS2_1 hf2_1
    clear hb2
    obtain ⟨f0_2_0, f0_2_1, f0_2_2, f0_2_3, f0_2_4, f0_2_5⟩ := str6 HS0_2.out
    have hl0_2 := HS0_2.out.lt
    obtain ⟨f1_2_0, f1_2_1, f1_2_2, f1_2_3, f1_2_4, f1_2_5, f1_2_6⟩ := str7 HS1_2.out
    have hl1_2 := HS1_2.out.lt
    obtain ⟨f2_2_0, f2_2_1, f2_2_2, f2_2_3, f2_2_4, f2_2_5, f2_2_6⟩ := str7 HS2_2.out
    have hl2_2 := HS2_2.out.lt
    have hf2_2 := fun j => HS2_2.out.frozen j
    go_wp2_with fail
    go_ret
    exact ⟨rfl, HB_2.out⟩
  have hp3 : np ≤ 300 := by simp [Live17.big] at hbp; omega
  clear hbp
  go_wp2_with fail
  refine (Live17.big_any Aq nq cq _ qk _ _ _ _ _ hqk hq1).mono ?_
  rintro e W2 ⟨rfl, hb2⟩
  have HS0_2 := Lib.hid (HS0_1.out.next hb2)
  have HS1_2 := Lib.hid (HS1_1.out.next hb2)
  have HS2_2 := Lib.hid (HS2_1.out.next hb2)
  have HB_2 := Lib.hid (bstep HB_1.out hb2)
  have hw_2 := HB_2.out.size
  have hws_2 := (hb2).size
  clear f0_1_0 f0_1_1 f0_1_2 f0_1_3 f0_1_4 f0_1_5 HS0_1 f1_1_0 f1_1_1 f1_1_2 f1_1_3 f1_1_4 f1_1_5 f1_1_6 HS1_1 f2_1_0 f2_1_1 f2_1_2 f2_1_3 f2_1_4 f2_1_5 f2_1_6 HS2_1 hf2_1
  clear hb2
  obtain ⟨f0_2_0, f0_2_1, f0_2_2, f0_2_3, f0_2_4, f0_2_5⟩ := str6 HS0_2.out
  have hl0_2 := HS0_2.out.lt
  obtain ⟨f1_2_0, f1_2_1, f1_2_2, f1_2_3, f1_2_4, f1_2_5, f1_2_6⟩ := str7 HS1_2.out
  have hl1_2 := HS1_2.out.lt
  obtain ⟨f2_2_0, f2_2_1, f2_2_2, f2_2_3, f2_2_4, f2_2_5, f2_2_6⟩ := str7 HS2_2.out
  have hl2_2 := HS2_2.out.lt
  have hf2_2 := fun j => HS2_2.out.frozen j
  cases hbq : Live17.big qk nq
  case true =>
    go_wp2_with fail
    refine (Live17.live_any _).mono ?_
    rintro e W3 ⟨rfl, hb3⟩
    have HS0_3 := Lib.hid (HS0_2.out.next hb3)
    have HS1_3 := Lib.hid (HS1_2.out.next hb3)
    have HS2_3 := Lib.hid (HS2_2.out.next hb3)
    have HB_3 := Lib.hid (bstep HB_2.out hb3)
    have hw_3 := HB_3.out.size
    have hws_3 := (hb3).size
    clear f0_2_0 f0_2_1 f0_2_2 f0_2_3 f0_2_4 f0_2_5 HS0_2 f1_2_0 f1_2_1 f1_2_2 f1_2_3 f1_2_4 f1_2_5 f1_2_6 HS1_2 f2_2_0 f2_2_1 f2_2_2 f2_2_3 f2_2_4 f2_2_5 f2_2_6 HS2_2 hf2_2
    clear hb3
    obtain ⟨f0_3_0, f0_3_1, f0_3_2, f0_3_3, f0_3_4, f0_3_5⟩ := str6 HS0_3.out
    have hl0_3 := HS0_3.out.lt
    obtain ⟨f1_3_0, f1_3_1, f1_3_2, f1_3_3, f1_3_4, f1_3_5, f1_3_6⟩ := str7 HS1_3.out
    have hl1_3 := HS1_3.out.lt
    obtain ⟨f2_3_0, f2_3_1, f2_3_2, f2_3_3, f2_3_4, f2_3_5, f2_3_6⟩ := str7 HS2_3.out
    have hl2_3 := HS2_3.out.lt
    have hf2_3 := fun j => HS2_3.out.frozen j
    go_wp2_with fail
    go_ret
    exact ⟨rfl, HB_3.out⟩
  have hq3 : nq ≤ 300 := by simp [Live17.big] at hbq; omega
  clear hbq
  have hxk1 := hxk
  unfold maxLen at hxk1
  by_cases hk1 : 300 < pk.size
  case pos =>
    go_wp2_with fail
    refine (Live17.live_any _).mono ?_
    rintro e W3 ⟨rfl, hb3⟩
    have HS0_3 := Lib.hid (HS0_2.out.next hb3)
    have HS1_3 := Lib.hid (HS1_2.out.next hb3)
    have HS2_3 := Lib.hid (HS2_2.out.next hb3)
    have HB_3 := Lib.hid (bstep HB_2.out hb3)
    have hw_3 := HB_3.out.size
    have hws_3 := (hb3).size
    clear f0_2_0 f0_2_1 f0_2_2 f0_2_3 f0_2_4 f0_2_5 HS0_2 f1_2_0 f1_2_1 f1_2_2 f1_2_3 f1_2_4 f1_2_5 f1_2_6 HS1_2 f2_2_0 f2_2_1 f2_2_2 f2_2_3 f2_2_4 f2_2_5 f2_2_6 HS2_2 hf2_2
    clear hb3
    obtain ⟨f0_3_0, f0_3_1, f0_3_2, f0_3_3, f0_3_4, f0_3_5⟩ := str6 HS0_3.out
    have hl0_3 := HS0_3.out.lt
    obtain ⟨f1_3_0, f1_3_1, f1_3_2, f1_3_3, f1_3_4, f1_3_5, f1_3_6⟩ := str7 HS1_3.out
    have hl1_3 := HS1_3.out.lt
    obtain ⟨f2_3_0, f2_3_1, f2_3_2, f2_3_3, f2_3_4, f2_3_5, f2_3_6⟩ := str7 HS2_3.out
    have hl2_3 := HS2_3.out.lt
    have hf2_3 := fun j => HS2_3.out.frozen j
    go_wp2_with fail
    go_ret
    exact ⟨rfl, HB_3.out⟩
  go_wp2_with fail
  have HO : Hid (∀ W, Below w.heap.size w W → Calls Try.prog 70 #[.agg #[.int .i64 act, .string pk, .slice Ax nx cx, .int .i64 xlo, .int .i64 xhi, .int .i64 xn], .agg #[.int .i64 1, .string pk, .int .i64 pkd, .slice Ap np cp, .int .i64 plo, .int .i64 phi, .int .i64 pva], .agg #[.int .i64 qst, .string qk, .int .i64 qkd, .slice Aq nq cq, .int .i64 qlo, .int .i64 qhi, .int .i64 qva]] W (UndoW.GivesUndo W ⟨1, pk, ⟨1, pk, ⟨pkd, pda, plo, phi, pva⟩⟩, 0⟩)) := Lib.hid (fun W hbw => by have h := UndoW.of_any Ax nx cx act pk xda xlo xhi xn Ap np cp w.heap.size 1 pk pkd pda plo phi pva Aq nq cq w.heap.size qst qk qkd qda qlo qhi qva W (Hp.out.below hbw) hbw.size (by omega) (Hq.out.below hbw) hbw.size (by omega); rw [UndoP.of_was _ _ _ (by dsimp only; omega) ⟨.inl rfl, rfl⟩] at h; exact h)
  have HA : Hid (∀ (A : Option Addr) (n c : Nat) W, Bytes W W.heap.size A n c pda → n ≤ 300 → Below w.heap.size w W → Calls Try.prog 67 #[.agg #[.int .i64 1, .string pk, .int .i64 1, .string pk, .int .i64 pkd, .slice A n c, .int .i64 plo, .int .i64 phi, .int .i64 pva, .int .i64 0], .agg #[.int .i64 qst, .string qk, .int .i64 qkd, .slice Aq nq cq, .int .i64 qlo, .int .i64 qhi, .int .i64 qva]] W (SlotGet.GotItem W (⟨1, pk, ⟨pkd, pda, plo, phi, pva⟩⟩, 0))) := Lib.hid (fun A n c W hy hn hbw => by have h := UndoW.apply_any 1 pk 0 A n c W.heap.size 1 pk pkd pda plo phi pva Aq nq cq w.heap.size qst qk qkd qda qlo qhi qva W hy (Nat.le_refl _) (by omega) (Hq.out.below hbw) hbw.size (by omega) (by unfold In64; omega) hqv hql hqh; rw [UndoP.apply_item _ _ rfl] at h; exact h)
  have HLN := Lib.hid Hp.out.len
  refine Reg.wp_region_word (R := (Reg.boxW W2.heap.size)) (W := W2) (Reg.OneJ W2.heap.size 9 10 7 (fun A n c => #[.int .i64 1, .string pk, .int .i64 pkd, .slice A n c, .int .i64 plo, .int .i64 phi, .int .i64 pva]) pda) [Reg.eqv (.agg #[.int .i64 act, .string pk, .slice Ax nx cx, .int .i64 xlo, .int .i64 xhi, .int .i64 xn]), Reg.eqv (.agg #[.int .i64 1, .string pk, .int .i64 pkd, .slice Ap np cp, .int .i64 plo, .int .i64 phi, .int .i64 pva]), Reg.eqv (.agg #[.int .i64 qst, .string qk, .int .i64 qkd, .slice Aq nq cq, .int .i64 qlo, .int .i64 qhi, .int .i64 qva]), Reg.bytesX (fun A n c => .agg #[.int .i64 1, .string pk, .int .i64 1, .string pk, .int .i64 pkd, .slice A n c, .int .i64 plo, .int .i64 phi, .int .i64 pva, .int .i64 0]) pda, Reg.eqv (.agg #[.int .i64 qst, .string qk, .int .i64 qkd, .slice Aq nq cq, .int .i64 qlo, .int .i64 qhi, .int .i64 qva]), Reg.bytesX (fun A n c => .tuple #[.agg #[.int .i64 1, .string pk, .int .i64 pkd, .slice A n c, .int .i64 plo, .int .i64 phi, .int .i64 pva], .int .i64 0]) pda, Reg.bytesX (fun A n c => .tuple #[.agg #[.int .i64 1, .string pk, .int .i64 pkd, .slice A n c, .int .i64 plo, .int .i64 phi, .int .i64 pva], .int .i64 0]) pda, Reg.bytesX (fun A n c => .agg #[.int .i64 1, .string pk, .int .i64 pkd, .slice A n c, .int .i64 plo, .int .i64 phi, .int .i64 pva]) pda, Reg.eqv (.int .i64 0), Reg.boxX 7, Reg.any, Reg.eqv (.int .i64 0)] 72 [[(3, none)], [(4, none)], [(5, none)], [(33, some 0), (34, some 1), (35, some 2)], [(5, none)], [(36, some 3), (37, some 4)], [(38, some 5)], [(32, some 6)], [(32, some 6)], [], [(7, some 9), (39, some 7)], [(40, some 8)]] rfl (by kernel_rfl) (by kernel_rfl) (fun _ _ h => Reg.one_zero h) (by kernel_rfl) ?_ [some 33, some 34, some 35, some 36, some 37, some 38, some 32, some 39, some 40, some 7, none, some 8] (by kernel_rfl) ?_
  · refine ⟨?_, ?_, ?_, ?_, ?_, ?_, ?_, ?_, ?_, ?_, ?_, ?_, trivial⟩
    · refine Reg.oblX_ord rfl rfl (by decide) (by decide) ?_
      intro ax wx hx hs
      obtain ⟨e3, -⟩ := hs
      have g3 := Reg.ev (v := .pointer (some ⟨w.heap.size, 0, none⟩)) e3
      obtain ⟨hc, -⟩ := bcell hx.1
      exact (Reg.wp_eqvB (Option.some_ne_none _) (by go_simp) rfl)
    · refine Reg.oblX_ord rfl rfl (by decide) (by decide) ?_
      intro ax wx hx hs
      obtain ⟨e4, -⟩ := hs
      have g4 := Reg.ev (v := .pointer (some ⟨w.heap.size + 1, 0, none⟩)) e4
      obtain ⟨hc, -⟩ := bcell hx.1
      exact (Reg.wp_eqvB (Option.some_ne_none _) (by go_simp) rfl)
    · refine Reg.oblX_ord rfl rfl (by decide) (by decide) ?_
      intro ax wx hx hs
      obtain ⟨e5, -⟩ := hs
      have g5 := Reg.ev (v := .pointer (some ⟨w.heap.size + 1 + 1, 0, none⟩)) e5
      obtain ⟨hc, -⟩ := bcell hx.1
      exact (Reg.wp_eqvB (Option.some_ne_none _) (by go_simp) rfl)
    · refine Reg.oblX_ord rfl rfl (by decide) (by decide) ?_
      intro ax wx hx hs
      obtain ⟨e33, e34, e35, -⟩ := hs
      have g33 := Reg.ev (v := .agg #[.int .i64 act, .string pk, .slice Ax nx cx, .int .i64 xlo, .int .i64 xhi, .int .i64 xn]) e33
      have g34 := Reg.ev (v := .agg #[.int .i64 1, .string pk, .int .i64 pkd, .slice Ap np cp, .int .i64 plo, .int .i64 phi, .int .i64 pva]) e34
      have g35 := Reg.ev (v := .agg #[.int .i64 qst, .string qk, .int .i64 qkd, .slice Aq nq cq, .int .i64 qlo, .int .i64 qhi, .int .i64 qva]) e35
      have hx' := hx.1
      go_simp
      refine (HO.out _ (bstep HB_2.out hx')).mono ?_
      rintro e wy ⟨A1, n1, c1, rfl, hy1, hby⟩
      exact Reg.doneB (Option.some_ne_none _) ⟨A1, n1, c1, rfl, hy1⟩ hby
    · refine Reg.oblX_ord rfl rfl (by decide) (by decide) ?_
      intro ax wx hx hs
      obtain ⟨e5, -⟩ := hs
      have g5 := Reg.ev (v := .pointer (some ⟨w.heap.size + 1 + 1, 0, none⟩)) e5
      obtain ⟨hc, -⟩ := bcell hx.1
      exact (Reg.wp_eqvB (Option.some_ne_none _) (by go_simp) rfl)
    · refine Reg.oblX_ord rfl rfl (by decide) (by decide) ?_
      intro ax wx hx hs
      obtain ⟨e36, e37, -⟩ := hs
      have g37 := Reg.ev (v := .agg #[.int .i64 qst, .string qk, .int .i64 qkd, .slice Aq nq cq, .int .i64 qlo, .int .i64 qhi, .int .i64 qva]) e37
      have hx' := hx.1
      obtain ⟨A1, n1, c1, e36, hy1⟩ := e36
      have g36 := Reg.ev e36
      have hn1 : n1 ≤ 300 := by rw [← hy1.len, HLN.out]; omega
      go_simp
      refine (HA.out _ _ _ _ hy1 hn1 (bstep HB_2.out hx')).mono ?_
      rintro e wy ⟨A2, n2, c2, rfl, hy2, hby⟩
      exact Reg.doneB (Option.some_ne_none _) ⟨A2, n2, c2, rfl, hy2⟩ hby
    · refine Reg.oblX_ord rfl rfl (by decide) (by decide) ?_
      intro ax wx hx hs
      obtain ⟨e38, -⟩ := hs
      obtain ⟨A1, n1, c1, e38, hy1⟩ := e38
      have g38 := Reg.ev e38
      exact Reg.wp_eqvB (Option.some_ne_none _) (by go_simp) ⟨A1, n1, c1, rfl, hy1⟩
    · refine Reg.oblX_ord rfl rfl (by decide) (by decide) ?_
      intro ax wx hx hs
      obtain ⟨e32, -⟩ := hs
      obtain ⟨A1, n1, c1, e32, hy1⟩ := e32
      have g32 := Reg.ev e32
      exact Reg.wp_eqvB (Option.some_ne_none _) (by go_simp) ⟨A1, n1, c1, rfl, hy1⟩
    · refine Reg.oblX_ord rfl rfl (by decide) (by decide) ?_
      intro ax wx hx hs
      obtain ⟨e32, -⟩ := hs
      obtain ⟨A1, n1, c1, e32, hy1⟩ := e32
      have g32 := Reg.ev e32
      exact Reg.wp_eqvB (Option.some_ne_none _) (by go_simp) rfl
    · refine Reg.oblX_alloc rfl rfl rfl (by decide) ?_
      intro ax wx hx
      go_simp
      exact Reg.doneB (Option.some_ne_none _) ⟨wx.heap.size, _, rfl, hx.1.size, Str.new wx _ _, rfl, rfl⟩ (balloc (bsame wx) _)
    · refine Reg.oblX_store rfl rfl rfl (by kernel_rfl) (by show 10 < 12; decide) rfl (fun _ _ => trivial) ?_
      intro ax wx hx hs
      obtain ⟨e7, e39, -⟩ := hs
      obtain ⟨A1, n1, c1, e39, hy1⟩ := e39
      obtain ⟨g, cs, e7, hgN, hS, hnu, hz⟩ := e7
      have g39 := Reg.ev e39
      have g7 := Reg.ev e7
      obtain ⟨k0, k1, k2, k3, k4, k5, k6, rfl⟩ := arr7 cs hz
      obtain ⟨y0, y1, y2, y3, y4, y5, y6⟩ := str7 hS
      have hfz := fun j => hS.frozen j
      have hgr : wx.grownBy _ (some g) := grown_set (grown_set (grown_set (grown_set (grown_set (grown_set (grown_set (grown_refl wx g) 0 (.int .i64 1)) 1 (.string pk)) 2 (.int .i64 pkd)) 3 (.slice A1 n1 c1)) 4 (.int .i64 plo)) 5 (.int .i64 phi)) 6 (.int .i64 pva)
      have hst := fun t h => set7 (w := wx) (g := g) (c0 := k0) (c1 := k1) (c2 := k2) (c3 := k3) (c4 := k4) (c5 := k5) (c6 := k6) (t := t) (.int .i64 1) (.string pk) (.int .i64 pkd) (.slice A1 n1 c1) (.int .i64 plo) (.int .i64 phi) (.int .i64 pva) h
      have hrl := Reg.box_set (N := W2.heap.size) hS hnu hgN hgr hst rfl rfl
      have HRL := Lib.hid hrl
      have HST := Lib.hid hst
      clear hgr hst hrl
      go_simp
      obtain ⟨tS, hS'⟩ := hS
      exact ⟨⟨rfl, HRL.out, g, A1, n1, c1, e7, hgN, ⟨tS, HST.out tS hS'⟩, Reg.bytes_boxS hy1 HRL.out⟩⟩
    · refine Reg.oblX_ord rfl rfl (by decide) (by decide) ?_
      intro ax wx hx hs
      obtain ⟨e40, -⟩ := hs
      have g40 := Reg.ev (v := .int .i64 0) e40
      exact (Reg.wp_eqvB (Option.some_ne_none _) (by go_simp) rfl)
  · intro W3 listed hwf hall
    simp only [Reg.Fin]
    rintro _ rfl _ rfl _ rfl v36 h36 _ rfl v38 h38 v32 h32 v39 h39 _ rfl v7 h7 vn10 hn10 _ rfl
    intro hJ
    obtain ⟨-, gB, AB, nB, cB, eB, hgB, hSB, hYB⟩ := hJ (hall 10 (by show 10 < 12; decide))
    have ecB : v7 = .pointer (some ⟨gB, 0, none⟩) := by simpa [Act.eval, Act.put] using eB
    clear hJ hall eB h7
    subst ecB
    go_simp
    have hwf1 : Below W2.heap.size W2 W3 := hwf.1
    have HSB := Lib.hid hSB
    have HYB := Lib.hid hYB
    clear hwf hSB hYB h36 h38 h32 h39
    have HS0_3 := Lib.hid (HS0_2.out.next hwf1)
    have HS1_3 := Lib.hid (HS1_2.out.next hwf1)
    have HS2_3 := Lib.hid (HS2_2.out.next hwf1)
    have HB_3 := Lib.hid (bstep HB_2.out hwf1)
    have hw_3 := HB_3.out.size
    have hws_3 := (hwf1).size
    clear f0_2_0 f0_2_1 f0_2_2 f0_2_3 f0_2_4 f0_2_5 HS0_2 f1_2_0 f1_2_1 f1_2_2 f1_2_3 f1_2_4 f1_2_5 f1_2_6 HS1_2 f2_2_0 f2_2_1 f2_2_2 f2_2_3 f2_2_4 f2_2_5 f2_2_6 HS2_2 hf2_2
    clear hwf1
    obtain ⟨f0_3_0, f0_3_1, f0_3_2, f0_3_3, f0_3_4, f0_3_5⟩ := str6 HS0_3.out
    have hl0_3 := HS0_3.out.lt
    obtain ⟨f1_3_0, f1_3_1, f1_3_2, f1_3_3, f1_3_4, f1_3_5, f1_3_6⟩ := str7 HS1_3.out
    have hl1_3 := HS1_3.out.lt
    obtain ⟨f2_3_0, f2_3_1, f2_3_2, f2_3_3, f2_3_4, f2_3_5, f2_3_6⟩ := str7 HS2_3.out
    have hl2_3 := HS2_3.out.lt
    have hf2_3 := fun j => HS2_3.out.frozen j
    have HS3_3 := HSB
    obtain ⟨f3_3_0, f3_3_1, f3_3_2, f3_3_3, f3_3_4, f3_3_5, f3_3_6⟩ := str7 HS3_3.out
    have hl3_3 := HS3_3.out.lt
    have HYy_3 := Lib.hid (HYB.out)
    clear HYB HSB
    go_wp2_with fail
    refine (Live17.code_any _ _).mono ?_
    rintro e w_ ⟨rfl, rfl⟩
    go_wp2_with fail
    refine (SlotW.refSame_any AB Ap nB cB np cp W3.heap.size w.heap.size ⟨1, pk, ⟨pkd, pda, plo, phi, pva⟩⟩ ⟨1, pk, ⟨pkd, pda, plo, phi, pva⟩⟩ _ HYy_3.out (Hp.out.below HB_3.out) (Nat.le_refl _) HB_3.out.size).mono ?_
    rintro e W4 ⟨rfl, hb4⟩
    rw [SlotP.same_self]
    have HS0_4 := Lib.hid (HS0_3.out.next hb4)
    have HS1_4 := Lib.hid (HS1_3.out.next hb4)
    have HS2_4 := Lib.hid (HS2_3.out.next hb4)
    have HS3_4 := Lib.hid (HS3_3.out.next hb4)
    have HB_4 := Lib.hid (bstep HB_3.out hb4)
    have hw_4 := HB_4.out.size
    have hws_4 := (hb4).size
    have HYy_4 := Lib.hid (HYy_3.out.next hb4)
    clear HYy_3
    clear f0_3_0 f0_3_1 f0_3_2 f0_3_3 f0_3_4 f0_3_5 HS0_3 f1_3_0 f1_3_1 f1_3_2 f1_3_3 f1_3_4 f1_3_5 f1_3_6 HS1_3 f2_3_0 f2_3_1 f2_3_2 f2_3_3 f2_3_4 f2_3_5 f2_3_6 HS2_3 hf2_3 f3_3_0 f3_3_1 f3_3_2 f3_3_3 f3_3_4 f3_3_5 f3_3_6 HS3_3
    clear hb4
    obtain ⟨f0_4_0, f0_4_1, f0_4_2, f0_4_3, f0_4_4, f0_4_5⟩ := str6 HS0_4.out
    have hl0_4 := HS0_4.out.lt
    obtain ⟨f1_4_0, f1_4_1, f1_4_2, f1_4_3, f1_4_4, f1_4_5, f1_4_6⟩ := str7 HS1_4.out
    have hl1_4 := HS1_4.out.lt
    obtain ⟨f2_4_0, f2_4_1, f2_4_2, f2_4_3, f2_4_4, f2_4_5, f2_4_6⟩ := str7 HS2_4.out
    have hl2_4 := HS2_4.out.lt
    have hf2_4 := fun j => HS2_4.out.frozen j
    obtain ⟨f3_4_0, f3_4_1, f3_4_2, f3_4_3, f3_4_4, f3_4_5, f3_4_6⟩ := str7 HS3_4.out
    have hl3_4 := HS3_4.out.lt
    go_wp2_with fail
    refine (Live17.live_any _).mono ?_
    rintro e W5 ⟨rfl, hb5⟩
    have HS0_5 := Lib.hid (HS0_4.out.next hb5)
    have HS1_5 := Lib.hid (HS1_4.out.next hb5)
    have HS2_5 := Lib.hid (HS2_4.out.next hb5)
    have HS3_5 := Lib.hid (HS3_4.out.next hb5)
    have HB_5 := Lib.hid (bstep HB_4.out hb5)
    have hw_5 := HB_5.out.size
    have hws_5 := (hb5).size
    have HYy_5 := Lib.hid (HYy_4.out.next hb5)
    clear HYy_4
    clear f0_4_0 f0_4_1 f0_4_2 f0_4_3 f0_4_4 f0_4_5 HS0_4 f1_4_0 f1_4_1 f1_4_2 f1_4_3 f1_4_4 f1_4_5 f1_4_6 HS1_4 f2_4_0 f2_4_1 f2_4_2 f2_4_3 f2_4_4 f2_4_5 f2_4_6 HS2_4 hf2_4 f3_4_0 f3_4_1 f3_4_2 f3_4_3 f3_4_4 f3_4_5 f3_4_6 HS3_4
    clear hb5
    obtain ⟨f0_5_0, f0_5_1, f0_5_2, f0_5_3, f0_5_4, f0_5_5⟩ := str6 HS0_5.out
    have hl0_5 := HS0_5.out.lt
    obtain ⟨f1_5_0, f1_5_1, f1_5_2, f1_5_3, f1_5_4, f1_5_5, f1_5_6⟩ := str7 HS1_5.out
    have hl1_5 := HS1_5.out.lt
    obtain ⟨f2_5_0, f2_5_1, f2_5_2, f2_5_3, f2_5_4, f2_5_5, f2_5_6⟩ := str7 HS2_5.out
    have hl2_5 := HS2_5.out.lt
    have hf2_5 := fun j => HS2_5.out.frozen j
    obtain ⟨f3_5_0, f3_5_1, f3_5_2, f3_5_3, f3_5_4, f3_5_5, f3_5_6⟩ := str7 HS3_5.out
    have hl3_5 := HS3_5.out.lt
    go_wp2_with fail
    go_ret
    exact ⟨rfl, HB_5.out⟩

set_option maxRecDepth 100000 in
set_option maxHeartbeats 4000000 in
theorem way_s1n (Ax : Option Addr) (nx cx : Nat) (act : Int) (xk : ByteArray) (xda : List UInt8) (xlo xhi xn : Int) (Ap : Option Addr) (np cp : Nat) (pk : ByteArray) (pkd : Int) (pda : List UInt8) (plo phi pva : Int) (Aq : Option Addr) (nq cq : Nat) (qst : Int) (qk : ByteArray) (qkd : Int) (qda : List UInt8) (qlo qhi qva : Int) (w : World)
    (hp : Bytes w w.heap.size Ap np cp pda) (hpk : pk.size ≤ maxLen) (hq : Bytes w w.heap.size Aq nq cq qda) (hqk : qk.size ≤ maxLen) (hxk : xk.size ≤ maxLen) (hqv : In64 qva) (hql : In64 qlo) (hqh : In64 qhi) (ha1 : 1 ≤ act) (ha2 : act ≤ 3) (hk : ¬ pk = xk) :
    Calls Try.prog 13 #[.agg #[.int .i64 act, .string xk, .slice Ax nx cx, .int .i64 xlo, .int .i64 xhi, .int .i64 xn], .agg #[.int .i64 1, .string pk, .int .i64 pkd, .slice Ap np cp, .int .i64 plo, .int .i64 phi, .int .i64 pva], .agg #[.int .i64 qst, .string qk, .int .i64 qkd, .slice Aq nq cq, .int .i64 qlo, .int .i64 qhi, .int .i64 qva]] w fun e w' => e = .returned (.bool true) ∧ Below w.heap.size w w' := by
  have Hp := Lib.hid hp
  have Hq := Lib.hid hq
  have hp1 := Nat.le_trans hp.2.1 hp.2.2.1
  have hq1 := Nat.le_trans hq.2.1 hq.2.2.1
  clear hp hq
  have HK := Lib.hid hk
  replace hk := key_ne hk
  go_enter Try.func13, Try.ntmps13
  go_wp2_with fail
  generalize hW0 : (((w).alloc (.cells #[.int .i64 act, .string xk, .slice Ax nx cx, .int .i64 xlo, .int .i64 xhi, .int .i64 xn] 77)).alloc (.cells #[.int .i64 1, .string pk, .int .i64 pkd, .slice Ap np cp, .int .i64 plo, .int .i64 phi, .int .i64 pva] 38)).alloc (.cells #[.int .i64 qst, .string qk, .int .i64 qkd, .slice Aq nq cq, .int .i64 qlo, .int .i64 qhi, .int .i64 qva] 38) = W0
  have HS0_0 : Hid (Str W0 (w.heap.size) #[.int .i64 act, .string xk, .slice Ax nx cx, .int .i64 xlo, .int .i64 xhi, .int .i64 xn]) := Lib.hid (by rw [← hW0]; have := ((Str.new (w) #[.int .i64 act, .string xk, .slice Ax nx cx, .int .i64 xlo, .int .i64 xhi, .int .i64 xn] 77).alloc (.cells #[.int .i64 1, .string pk, .int .i64 pkd, .slice Ap np cp, .int .i64 plo, .int .i64 phi, .int .i64 pva] 38)).alloc (.cells #[.int .i64 qst, .string qk, .int .i64 qkd, .slice Aq nq cq, .int .i64 qlo, .int .i64 qhi, .int .i64 qva] 38); simpa using this)
  have HS1_0 : Hid (Str W0 (w.heap.size + 1) #[.int .i64 1, .string pk, .int .i64 pkd, .slice Ap np cp, .int .i64 plo, .int .i64 phi, .int .i64 pva]) := Lib.hid (by rw [← hW0]; have := (Str.new ((w).alloc (.cells #[.int .i64 act, .string xk, .slice Ax nx cx, .int .i64 xlo, .int .i64 xhi, .int .i64 xn] 77)) #[.int .i64 1, .string pk, .int .i64 pkd, .slice Ap np cp, .int .i64 plo, .int .i64 phi, .int .i64 pva] 38).alloc (.cells #[.int .i64 qst, .string qk, .int .i64 qkd, .slice Aq nq cq, .int .i64 qlo, .int .i64 qhi, .int .i64 qva] 38); simpa using this)
  have HS2_0 : Hid (Str W0 (w.heap.size + 1 + 1) #[.int .i64 qst, .string qk, .int .i64 qkd, .slice Aq nq cq, .int .i64 qlo, .int .i64 qhi, .int .i64 qva]) := Lib.hid (by rw [← hW0]; have := Str.new (((w).alloc (.cells #[.int .i64 act, .string xk, .slice Ax nx cx, .int .i64 xlo, .int .i64 xhi, .int .i64 xn] 77)).alloc (.cells #[.int .i64 1, .string pk, .int .i64 pkd, .slice Ap np cp, .int .i64 plo, .int .i64 phi, .int .i64 pva] 38)) #[.int .i64 qst, .string qk, .int .i64 qkd, .slice Aq nq cq, .int .i64 qlo, .int .i64 qhi, .int .i64 qva] 38; simpa using this)
  have HB_0 : Hid (Below w.heap.size w W0) := Lib.hid (by rw [← hW0]; exact balloc (balloc (balloc (bsame w) _) _) _)
  have hw_0 := HB_0.out.size
  clear hW0
  obtain ⟨f0_0_0, f0_0_1, f0_0_2, f0_0_3, f0_0_4, f0_0_5⟩ := str6 HS0_0.out
  have hl0_0 := HS0_0.out.lt
  obtain ⟨f1_0_0, f1_0_1, f1_0_2, f1_0_3, f1_0_4, f1_0_5, f1_0_6⟩ := str7 HS1_0.out
  have hl1_0 := HS1_0.out.lt
  obtain ⟨f2_0_0, f2_0_1, f2_0_2, f2_0_3, f2_0_4, f2_0_5, f2_0_6⟩ := str7 HS2_0.out
  have hl2_0 := HS2_0.out.lt
  have hf2_0 := fun j => HS2_0.out.frozen j
  refine (Live17.big_any Ap np cp _ pk _ _ _ _ _ hpk hp1).mono ?_
  rintro e W1 ⟨rfl, hb1⟩
  have HS0_1 := Lib.hid (HS0_0.out.next hb1)
  have HS1_1 := Lib.hid (HS1_0.out.next hb1)
  have HS2_1 := Lib.hid (HS2_0.out.next hb1)
  have HB_1 := Lib.hid (bstep HB_0.out hb1)
  have hw_1 := HB_1.out.size
  have hws_1 := (hb1).size
  clear f0_0_0 f0_0_1 f0_0_2 f0_0_3 f0_0_4 f0_0_5 HS0_0 f1_0_0 f1_0_1 f1_0_2 f1_0_3 f1_0_4 f1_0_5 f1_0_6 HS1_0 f2_0_0 f2_0_1 f2_0_2 f2_0_3 f2_0_4 f2_0_5 f2_0_6 HS2_0 hf2_0
  clear hb1
  obtain ⟨f0_1_0, f0_1_1, f0_1_2, f0_1_3, f0_1_4, f0_1_5⟩ := str6 HS0_1.out
  have hl0_1 := HS0_1.out.lt
  obtain ⟨f1_1_0, f1_1_1, f1_1_2, f1_1_3, f1_1_4, f1_1_5, f1_1_6⟩ := str7 HS1_1.out
  have hl1_1 := HS1_1.out.lt
  obtain ⟨f2_1_0, f2_1_1, f2_1_2, f2_1_3, f2_1_4, f2_1_5, f2_1_6⟩ := str7 HS2_1.out
  have hl2_1 := HS2_1.out.lt
  have hf2_1 := fun j => HS2_1.out.frozen j
  cases hbp : Live17.big pk np
  case true =>
    go_wp2_with fail
    refine (Live17.live_any _).mono ?_
    rintro e W2 ⟨rfl, hb2⟩
    have HS0_2 := Lib.hid (HS0_1.out.next hb2)
    have HS1_2 := Lib.hid (HS1_1.out.next hb2)
    have HS2_2 := Lib.hid (HS2_1.out.next hb2)
    have HB_2 := Lib.hid (bstep HB_1.out hb2)
    have hw_2 := HB_2.out.size
    have hws_2 := (hb2).size
    clear f0_1_0 f0_1_1 f0_1_2 f0_1_3 f0_1_4 f0_1_5 HS0_1 f1_1_0 f1_1_1 f1_1_2 f1_1_3 f1_1_4 f1_1_5 f1_1_6 HS1_1 f2_1_0 f2_1_1 f2_1_2 f2_1_3 f2_1_4 f2_1_5 f2_1_6 HS2_1 hf2_1
    clear hb2
    obtain ⟨f0_2_0, f0_2_1, f0_2_2, f0_2_3, f0_2_4, f0_2_5⟩ := str6 HS0_2.out
    have hl0_2 := HS0_2.out.lt
    obtain ⟨f1_2_0, f1_2_1, f1_2_2, f1_2_3, f1_2_4, f1_2_5, f1_2_6⟩ := str7 HS1_2.out
    have hl1_2 := HS1_2.out.lt
    obtain ⟨f2_2_0, f2_2_1, f2_2_2, f2_2_3, f2_2_4, f2_2_5, f2_2_6⟩ := str7 HS2_2.out
    have hl2_2 := HS2_2.out.lt
    have hf2_2 := fun j => HS2_2.out.frozen j
    go_wp2_with fail
    go_ret
    exact ⟨rfl, HB_2.out⟩
  have hp3 : np ≤ 300 := by simp [Live17.big] at hbp; omega
  clear hbp
  go_wp2_with fail
  refine (Live17.big_any Aq nq cq _ qk _ _ _ _ _ hqk hq1).mono ?_
  rintro e W2 ⟨rfl, hb2⟩
  have HS0_2 := Lib.hid (HS0_1.out.next hb2)
  have HS1_2 := Lib.hid (HS1_1.out.next hb2)
  have HS2_2 := Lib.hid (HS2_1.out.next hb2)
  have HB_2 := Lib.hid (bstep HB_1.out hb2)
  have hw_2 := HB_2.out.size
  have hws_2 := (hb2).size
  clear f0_1_0 f0_1_1 f0_1_2 f0_1_3 f0_1_4 f0_1_5 HS0_1 f1_1_0 f1_1_1 f1_1_2 f1_1_3 f1_1_4 f1_1_5 f1_1_6 HS1_1 f2_1_0 f2_1_1 f2_1_2 f2_1_3 f2_1_4 f2_1_5 f2_1_6 HS2_1 hf2_1
  clear hb2
  obtain ⟨f0_2_0, f0_2_1, f0_2_2, f0_2_3, f0_2_4, f0_2_5⟩ := str6 HS0_2.out
  have hl0_2 := HS0_2.out.lt
  obtain ⟨f1_2_0, f1_2_1, f1_2_2, f1_2_3, f1_2_4, f1_2_5, f1_2_6⟩ := str7 HS1_2.out
  have hl1_2 := HS1_2.out.lt
  obtain ⟨f2_2_0, f2_2_1, f2_2_2, f2_2_3, f2_2_4, f2_2_5, f2_2_6⟩ := str7 HS2_2.out
  have hl2_2 := HS2_2.out.lt
  have hf2_2 := fun j => HS2_2.out.frozen j
  cases hbq : Live17.big qk nq
  case true =>
    go_wp2_with fail
    refine (Live17.live_any _).mono ?_
    rintro e W3 ⟨rfl, hb3⟩
    have HS0_3 := Lib.hid (HS0_2.out.next hb3)
    have HS1_3 := Lib.hid (HS1_2.out.next hb3)
    have HS2_3 := Lib.hid (HS2_2.out.next hb3)
    have HB_3 := Lib.hid (bstep HB_2.out hb3)
    have hw_3 := HB_3.out.size
    have hws_3 := (hb3).size
    clear f0_2_0 f0_2_1 f0_2_2 f0_2_3 f0_2_4 f0_2_5 HS0_2 f1_2_0 f1_2_1 f1_2_2 f1_2_3 f1_2_4 f1_2_5 f1_2_6 HS1_2 f2_2_0 f2_2_1 f2_2_2 f2_2_3 f2_2_4 f2_2_5 f2_2_6 HS2_2 hf2_2
    clear hb3
    obtain ⟨f0_3_0, f0_3_1, f0_3_2, f0_3_3, f0_3_4, f0_3_5⟩ := str6 HS0_3.out
    have hl0_3 := HS0_3.out.lt
    obtain ⟨f1_3_0, f1_3_1, f1_3_2, f1_3_3, f1_3_4, f1_3_5, f1_3_6⟩ := str7 HS1_3.out
    have hl1_3 := HS1_3.out.lt
    obtain ⟨f2_3_0, f2_3_1, f2_3_2, f2_3_3, f2_3_4, f2_3_5, f2_3_6⟩ := str7 HS2_3.out
    have hl2_3 := HS2_3.out.lt
    have hf2_3 := fun j => HS2_3.out.frozen j
    go_wp2_with fail
    go_ret
    exact ⟨rfl, HB_3.out⟩
  have hq3 : nq ≤ 300 := by simp [Live17.big] at hbq; omega
  clear hbq
  have hxk1 := hxk
  unfold maxLen at hxk1
  by_cases hk1 : 300 < xk.size
  case pos =>
    go_wp2_with fail
    refine (Live17.live_any _).mono ?_
    rintro e W3 ⟨rfl, hb3⟩
    have HS0_3 := Lib.hid (HS0_2.out.next hb3)
    have HS1_3 := Lib.hid (HS1_2.out.next hb3)
    have HS2_3 := Lib.hid (HS2_2.out.next hb3)
    have HB_3 := Lib.hid (bstep HB_2.out hb3)
    have hw_3 := HB_3.out.size
    have hws_3 := (hb3).size
    clear f0_2_0 f0_2_1 f0_2_2 f0_2_3 f0_2_4 f0_2_5 HS0_2 f1_2_0 f1_2_1 f1_2_2 f1_2_3 f1_2_4 f1_2_5 f1_2_6 HS1_2 f2_2_0 f2_2_1 f2_2_2 f2_2_3 f2_2_4 f2_2_5 f2_2_6 HS2_2 hf2_2
    clear hb3
    obtain ⟨f0_3_0, f0_3_1, f0_3_2, f0_3_3, f0_3_4, f0_3_5⟩ := str6 HS0_3.out
    have hl0_3 := HS0_3.out.lt
    obtain ⟨f1_3_0, f1_3_1, f1_3_2, f1_3_3, f1_3_4, f1_3_5, f1_3_6⟩ := str7 HS1_3.out
    have hl1_3 := HS1_3.out.lt
    obtain ⟨f2_3_0, f2_3_1, f2_3_2, f2_3_3, f2_3_4, f2_3_5, f2_3_6⟩ := str7 HS2_3.out
    have hl2_3 := HS2_3.out.lt
    have hf2_3 := fun j => HS2_3.out.frozen j
    go_wp2_with fail
    go_ret
    exact ⟨rfl, HB_3.out⟩
  go_wp2_with fail
  have HO : Hid (∀ W, Below w.heap.size w W → Calls Try.prog 70 #[.agg #[.int .i64 act, .string xk, .slice Ax nx cx, .int .i64 xlo, .int .i64 xhi, .int .i64 xn], .agg #[.int .i64 1, .string pk, .int .i64 pkd, .slice Ap np cp, .int .i64 plo, .int .i64 phi, .int .i64 pva], .agg #[.int .i64 qst, .string qk, .int .i64 qkd, .slice Aq nq cq, .int .i64 qlo, .int .i64 qhi, .int .i64 qva]] W (UndoW.GivesUndo W ⟨1, xk, ⟨2, qk, ⟨qkd, qda, qlo, qhi, qva⟩⟩, 0⟩)) := Lib.hid (fun W hbw => by have h := UndoW.of_any Ax nx cx act xk xda xlo xhi xn Ap np cp w.heap.size 1 pk pkd pda plo phi pva Aq nq cq w.heap.size qst qk qkd qda qlo qhi qva W (Hp.out.below hbw) hbw.size (by omega) (Hq.out.below hbw) hbw.size (by omega); rw [UndoP.of_then _ _ _ (by dsimp only; omega) (fun h => HK.out h.2)] at h; exact h)
  have HA : Hid (∀ (A : Option Addr) (n c : Nat) W, Bytes W W.heap.size A n c qda → n ≤ 300 → Below w.heap.size w W → Calls Try.prog 67 #[.agg #[.int .i64 1, .string xk, .int .i64 2, .string qk, .int .i64 qkd, .slice A n c, .int .i64 qlo, .int .i64 qhi, .int .i64 qva, .int .i64 0], .agg #[.int .i64 qst, .string qk, .int .i64 qkd, .slice Aq nq cq, .int .i64 qlo, .int .i64 qhi, .int .i64 qva]] W (SlotGet.GotItem W (⟨2, qk, ⟨qkd, qda, qlo, qhi, qva⟩⟩, 0))) := Lib.hid (fun A n c W hy hn hbw => by have h := UndoW.apply_any 1 xk 0 A n c W.heap.size 2 qk qkd qda qlo qhi qva Aq nq cq w.heap.size qst qk qkd qda qlo qhi qva W hy (Nat.le_refl _) (by omega) (Hq.out.below hbw) hbw.size (by omega) (by unfold In64; omega) hqv hql hqh; rw [UndoP.apply_item _ _ rfl] at h; exact h)
  have HLN := Lib.hid Hq.out.len
  refine Reg.wp_region_word (R := (Reg.boxW W2.heap.size)) (W := W2) (Reg.OneJ W2.heap.size 9 10 7 (fun A n c => #[.int .i64 2, .string qk, .int .i64 qkd, .slice A n c, .int .i64 qlo, .int .i64 qhi, .int .i64 qva]) qda) [Reg.eqv (.agg #[.int .i64 act, .string xk, .slice Ax nx cx, .int .i64 xlo, .int .i64 xhi, .int .i64 xn]), Reg.eqv (.agg #[.int .i64 1, .string pk, .int .i64 pkd, .slice Ap np cp, .int .i64 plo, .int .i64 phi, .int .i64 pva]), Reg.eqv (.agg #[.int .i64 qst, .string qk, .int .i64 qkd, .slice Aq nq cq, .int .i64 qlo, .int .i64 qhi, .int .i64 qva]), Reg.bytesX (fun A n c => .agg #[.int .i64 1, .string xk, .int .i64 2, .string qk, .int .i64 qkd, .slice A n c, .int .i64 qlo, .int .i64 qhi, .int .i64 qva, .int .i64 0]) qda, Reg.eqv (.agg #[.int .i64 qst, .string qk, .int .i64 qkd, .slice Aq nq cq, .int .i64 qlo, .int .i64 qhi, .int .i64 qva]), Reg.bytesX (fun A n c => .tuple #[.agg #[.int .i64 2, .string qk, .int .i64 qkd, .slice A n c, .int .i64 qlo, .int .i64 qhi, .int .i64 qva], .int .i64 0]) qda, Reg.bytesX (fun A n c => .tuple #[.agg #[.int .i64 2, .string qk, .int .i64 qkd, .slice A n c, .int .i64 qlo, .int .i64 qhi, .int .i64 qva], .int .i64 0]) qda, Reg.bytesX (fun A n c => .agg #[.int .i64 2, .string qk, .int .i64 qkd, .slice A n c, .int .i64 qlo, .int .i64 qhi, .int .i64 qva]) qda, Reg.eqv (.int .i64 0), Reg.boxX 7, Reg.any, Reg.eqv (.int .i64 0)] 72 [[(3, none)], [(4, none)], [(5, none)], [(33, some 0), (34, some 1), (35, some 2)], [(5, none)], [(36, some 3), (37, some 4)], [(38, some 5)], [(32, some 6)], [(32, some 6)], [], [(7, some 9), (39, some 7)], [(40, some 8)]] rfl (by kernel_rfl) (by kernel_rfl) (fun _ _ h => Reg.one_zero h) (by kernel_rfl) ?_ [some 33, some 34, some 35, some 36, some 37, some 38, some 32, some 39, some 40, some 7, none, some 8] (by kernel_rfl) ?_
  · refine ⟨?_, ?_, ?_, ?_, ?_, ?_, ?_, ?_, ?_, ?_, ?_, ?_, trivial⟩
    · refine Reg.oblX_ord rfl rfl (by decide) (by decide) ?_
      intro ax wx hx hs
      obtain ⟨e3, -⟩ := hs
      have g3 := Reg.ev (v := .pointer (some ⟨w.heap.size, 0, none⟩)) e3
      obtain ⟨hc, -⟩ := bcell hx.1
      exact (Reg.wp_eqvB (Option.some_ne_none _) (by go_simp) rfl)
    · refine Reg.oblX_ord rfl rfl (by decide) (by decide) ?_
      intro ax wx hx hs
      obtain ⟨e4, -⟩ := hs
      have g4 := Reg.ev (v := .pointer (some ⟨w.heap.size + 1, 0, none⟩)) e4
      obtain ⟨hc, -⟩ := bcell hx.1
      exact (Reg.wp_eqvB (Option.some_ne_none _) (by go_simp) rfl)
    · refine Reg.oblX_ord rfl rfl (by decide) (by decide) ?_
      intro ax wx hx hs
      obtain ⟨e5, -⟩ := hs
      have g5 := Reg.ev (v := .pointer (some ⟨w.heap.size + 1 + 1, 0, none⟩)) e5
      obtain ⟨hc, -⟩ := bcell hx.1
      exact (Reg.wp_eqvB (Option.some_ne_none _) (by go_simp) rfl)
    · refine Reg.oblX_ord rfl rfl (by decide) (by decide) ?_
      intro ax wx hx hs
      obtain ⟨e33, e34, e35, -⟩ := hs
      have g33 := Reg.ev (v := .agg #[.int .i64 act, .string xk, .slice Ax nx cx, .int .i64 xlo, .int .i64 xhi, .int .i64 xn]) e33
      have g34 := Reg.ev (v := .agg #[.int .i64 1, .string pk, .int .i64 pkd, .slice Ap np cp, .int .i64 plo, .int .i64 phi, .int .i64 pva]) e34
      have g35 := Reg.ev (v := .agg #[.int .i64 qst, .string qk, .int .i64 qkd, .slice Aq nq cq, .int .i64 qlo, .int .i64 qhi, .int .i64 qva]) e35
      have hx' := hx.1
      go_simp
      refine (HO.out _ (bstep HB_2.out hx')).mono ?_
      rintro e wy ⟨A1, n1, c1, rfl, hy1, hby⟩
      exact Reg.doneB (Option.some_ne_none _) ⟨A1, n1, c1, rfl, hy1⟩ hby
    · refine Reg.oblX_ord rfl rfl (by decide) (by decide) ?_
      intro ax wx hx hs
      obtain ⟨e5, -⟩ := hs
      have g5 := Reg.ev (v := .pointer (some ⟨w.heap.size + 1 + 1, 0, none⟩)) e5
      obtain ⟨hc, -⟩ := bcell hx.1
      exact (Reg.wp_eqvB (Option.some_ne_none _) (by go_simp) rfl)
    · refine Reg.oblX_ord rfl rfl (by decide) (by decide) ?_
      intro ax wx hx hs
      obtain ⟨e36, e37, -⟩ := hs
      have g37 := Reg.ev (v := .agg #[.int .i64 qst, .string qk, .int .i64 qkd, .slice Aq nq cq, .int .i64 qlo, .int .i64 qhi, .int .i64 qva]) e37
      have hx' := hx.1
      obtain ⟨A1, n1, c1, e36, hy1⟩ := e36
      have g36 := Reg.ev e36
      have hn1 : n1 ≤ 300 := by rw [← hy1.len, HLN.out]; omega
      go_simp
      refine (HA.out _ _ _ _ hy1 hn1 (bstep HB_2.out hx')).mono ?_
      rintro e wy ⟨A2, n2, c2, rfl, hy2, hby⟩
      exact Reg.doneB (Option.some_ne_none _) ⟨A2, n2, c2, rfl, hy2⟩ hby
    · refine Reg.oblX_ord rfl rfl (by decide) (by decide) ?_
      intro ax wx hx hs
      obtain ⟨e38, -⟩ := hs
      obtain ⟨A1, n1, c1, e38, hy1⟩ := e38
      have g38 := Reg.ev e38
      exact Reg.wp_eqvB (Option.some_ne_none _) (by go_simp) ⟨A1, n1, c1, rfl, hy1⟩
    · refine Reg.oblX_ord rfl rfl (by decide) (by decide) ?_
      intro ax wx hx hs
      obtain ⟨e32, -⟩ := hs
      obtain ⟨A1, n1, c1, e32, hy1⟩ := e32
      have g32 := Reg.ev e32
      exact Reg.wp_eqvB (Option.some_ne_none _) (by go_simp) ⟨A1, n1, c1, rfl, hy1⟩
    · refine Reg.oblX_ord rfl rfl (by decide) (by decide) ?_
      intro ax wx hx hs
      obtain ⟨e32, -⟩ := hs
      obtain ⟨A1, n1, c1, e32, hy1⟩ := e32
      have g32 := Reg.ev e32
      exact Reg.wp_eqvB (Option.some_ne_none _) (by go_simp) rfl
    · refine Reg.oblX_alloc rfl rfl rfl (by decide) ?_
      intro ax wx hx
      go_simp
      exact Reg.doneB (Option.some_ne_none _) ⟨wx.heap.size, _, rfl, hx.1.size, Str.new wx _ _, rfl, rfl⟩ (balloc (bsame wx) _)
    · refine Reg.oblX_store rfl rfl rfl (by kernel_rfl) (by show 10 < 12; decide) rfl (fun _ _ => trivial) ?_
      intro ax wx hx hs
      obtain ⟨e7, e39, -⟩ := hs
      obtain ⟨A1, n1, c1, e39, hy1⟩ := e39
      obtain ⟨g, cs, e7, hgN, hS, hnu, hz⟩ := e7
      have g39 := Reg.ev e39
      have g7 := Reg.ev e7
      obtain ⟨k0, k1, k2, k3, k4, k5, k6, rfl⟩ := arr7 cs hz
      obtain ⟨y0, y1, y2, y3, y4, y5, y6⟩ := str7 hS
      have hfz := fun j => hS.frozen j
      have hgr : wx.grownBy _ (some g) := grown_set (grown_set (grown_set (grown_set (grown_set (grown_set (grown_set (grown_refl wx g) 0 (.int .i64 2)) 1 (.string qk)) 2 (.int .i64 qkd)) 3 (.slice A1 n1 c1)) 4 (.int .i64 qlo)) 5 (.int .i64 qhi)) 6 (.int .i64 qva)
      have hst := fun t h => set7 (w := wx) (g := g) (c0 := k0) (c1 := k1) (c2 := k2) (c3 := k3) (c4 := k4) (c5 := k5) (c6 := k6) (t := t) (.int .i64 2) (.string qk) (.int .i64 qkd) (.slice A1 n1 c1) (.int .i64 qlo) (.int .i64 qhi) (.int .i64 qva) h
      have hrl := Reg.box_set (N := W2.heap.size) hS hnu hgN hgr hst rfl rfl
      have HRL := Lib.hid hrl
      have HST := Lib.hid hst
      clear hgr hst hrl
      go_simp
      obtain ⟨tS, hS'⟩ := hS
      exact ⟨⟨rfl, HRL.out, g, A1, n1, c1, e7, hgN, ⟨tS, HST.out tS hS'⟩, Reg.bytes_boxS hy1 HRL.out⟩⟩
    · refine Reg.oblX_ord rfl rfl (by decide) (by decide) ?_
      intro ax wx hx hs
      obtain ⟨e40, -⟩ := hs
      have g40 := Reg.ev (v := .int .i64 0) e40
      exact (Reg.wp_eqvB (Option.some_ne_none _) (by go_simp) rfl)
  · intro W3 listed hwf hall
    simp only [Reg.Fin]
    rintro _ rfl _ rfl _ rfl v36 h36 _ rfl v38 h38 v32 h32 v39 h39 _ rfl v7 h7 vn10 hn10 _ rfl
    intro hJ
    obtain ⟨-, gB, AB, nB, cB, eB, hgB, hSB, hYB⟩ := hJ (hall 10 (by show 10 < 12; decide))
    have ecB : v7 = .pointer (some ⟨gB, 0, none⟩) := by simpa [Act.eval, Act.put] using eB
    clear hJ hall eB h7
    subst ecB
    go_simp
    have hwf1 : Below W2.heap.size W2 W3 := hwf.1
    have HSB := Lib.hid hSB
    have HYB := Lib.hid hYB
    clear hwf hSB hYB h36 h38 h32 h39
    have HS0_3 := Lib.hid (HS0_2.out.next hwf1)
    have HS1_3 := Lib.hid (HS1_2.out.next hwf1)
    have HS2_3 := Lib.hid (HS2_2.out.next hwf1)
    have HB_3 := Lib.hid (bstep HB_2.out hwf1)
    have hw_3 := HB_3.out.size
    have hws_3 := (hwf1).size
    clear f0_2_0 f0_2_1 f0_2_2 f0_2_3 f0_2_4 f0_2_5 HS0_2 f1_2_0 f1_2_1 f1_2_2 f1_2_3 f1_2_4 f1_2_5 f1_2_6 HS1_2 f2_2_0 f2_2_1 f2_2_2 f2_2_3 f2_2_4 f2_2_5 f2_2_6 HS2_2 hf2_2
    clear hwf1
    obtain ⟨f0_3_0, f0_3_1, f0_3_2, f0_3_3, f0_3_4, f0_3_5⟩ := str6 HS0_3.out
    have hl0_3 := HS0_3.out.lt
    obtain ⟨f1_3_0, f1_3_1, f1_3_2, f1_3_3, f1_3_4, f1_3_5, f1_3_6⟩ := str7 HS1_3.out
    have hl1_3 := HS1_3.out.lt
    obtain ⟨f2_3_0, f2_3_1, f2_3_2, f2_3_3, f2_3_4, f2_3_5, f2_3_6⟩ := str7 HS2_3.out
    have hl2_3 := HS2_3.out.lt
    have hf2_3 := fun j => HS2_3.out.frozen j
    have HS3_3 := HSB
    obtain ⟨f3_3_0, f3_3_1, f3_3_2, f3_3_3, f3_3_4, f3_3_5, f3_3_6⟩ := str7 HS3_3.out
    have hl3_3 := HS3_3.out.lt
    have HYy_3 := Lib.hid (HYB.out)
    clear HYB HSB
    go_wp2_with fail
    refine (Live17.code_any _ _).mono ?_
    rintro e w_ ⟨rfl, rfl⟩
    go_wp2_with fail
    generalize hW4 : (W3).setCell ⟨w.heap.size + 1 + 1, 0, none⟩ (.int .i64 2) = W4
    have HS0_4 : Hid (Str W4 (w.heap.size) #[.int .i64 act, .string xk, .slice Ax nx cx, .int .i64 xlo, .int .i64 xhi, .int .i64 xn]) := Lib.hid (by rw [← hW4]; exact (HS0_3.out).other 0 _ (by omega))
    have HS1_4 : Hid (Str W4 (w.heap.size + 1) #[.int .i64 1, .string pk, .int .i64 pkd, .slice Ap np cp, .int .i64 plo, .int .i64 phi, .int .i64 pva]) := Lib.hid (by rw [← hW4]; exact (HS1_3.out).other 0 _ (by omega))
    have HS2_4 : Hid (Str W4 (w.heap.size + 1 + 1) #[.int .i64 2, .string qk, .int .i64 qkd, .slice Aq nq cq, .int .i64 qlo, .int .i64 qhi, .int .i64 qva]) := Lib.hid (by rw [← hW4]; have := (HS2_3.out).set 0 (.int .i64 2); simpa using this)
    have HS3_4 : Hid (Str W4 (gB) #[.int .i64 2, .string qk, .int .i64 qkd, .slice AB nB cB, .int .i64 qlo, .int .i64 qhi, .int .i64 qva]) := Lib.hid (by rw [← hW4]; exact (HS3_3.out).other 0 _ (by omega))
    have hgr4 : W3.grownBy W4 (some (w.heap.size + 1 + 1)) := by rw [← hW4]; exact grown_set (grown_refl W3 (w.heap.size + 1 + 1)) 0 (.int .i64 2)
    have HB_4 := Lib.hid (below_grown HB_3.out hgr4 (by omega))
    have hw_4 := HB_4.out.size
    have hws_4 := hgr4.size
    have HYy_4 := Lib.hid ((Bytes.grown HYy_3.out (Nat.le_refl _) HS2_3.out rfl hgr4).more hws_4)
    clear HYy_3
    clear hW4
    clear f0_3_0 f0_3_1 f0_3_2 f0_3_3 f0_3_4 f0_3_5 HS0_3 f1_3_0 f1_3_1 f1_3_2 f1_3_3 f1_3_4 f1_3_5 f1_3_6 HS1_3 f2_3_0 f2_3_1 f2_3_2 f2_3_3 f2_3_4 f2_3_5 f2_3_6 HS2_3 hf2_3 f3_3_0 f3_3_1 f3_3_2 f3_3_3 f3_3_4 f3_3_5 f3_3_6 HS3_3
    clear hgr4
    obtain ⟨f0_4_0, f0_4_1, f0_4_2, f0_4_3, f0_4_4, f0_4_5⟩ := str6 HS0_4.out
    have hl0_4 := HS0_4.out.lt
    obtain ⟨f1_4_0, f1_4_1, f1_4_2, f1_4_3, f1_4_4, f1_4_5, f1_4_6⟩ := str7 HS1_4.out
    have hl1_4 := HS1_4.out.lt
    obtain ⟨f2_4_0, f2_4_1, f2_4_2, f2_4_3, f2_4_4, f2_4_5, f2_4_6⟩ := str7 HS2_4.out
    have hl2_4 := HS2_4.out.lt
    have hf2_4 := fun j => HS2_4.out.frozen j
    obtain ⟨f3_4_0, f3_4_1, f3_4_2, f3_4_3, f3_4_4, f3_4_5, f3_4_6⟩ := str7 HS3_4.out
    have hl3_4 := HS3_4.out.lt
    refine (SlotW.refSame_any AB Aq nB cB nq cq W4.heap.size w.heap.size ⟨2, qk, ⟨qkd, qda, qlo, qhi, qva⟩⟩ ⟨2, qk, ⟨qkd, qda, qlo, qhi, qva⟩⟩ _ HYy_4.out (Hq.out.below HB_4.out) (Nat.le_refl _) HB_4.out.size).mono ?_
    rintro e W5 ⟨rfl, hb5⟩
    rw [SlotP.same_self]
    have HS0_5 := Lib.hid (HS0_4.out.next hb5)
    have HS1_5 := Lib.hid (HS1_4.out.next hb5)
    have HS2_5 := Lib.hid (HS2_4.out.next hb5)
    have HS3_5 := Lib.hid (HS3_4.out.next hb5)
    have HB_5 := Lib.hid (bstep HB_4.out hb5)
    have hw_5 := HB_5.out.size
    have hws_5 := (hb5).size
    have HYy_5 := Lib.hid (HYy_4.out.next hb5)
    clear HYy_4
    clear f0_4_0 f0_4_1 f0_4_2 f0_4_3 f0_4_4 f0_4_5 HS0_4 f1_4_0 f1_4_1 f1_4_2 f1_4_3 f1_4_4 f1_4_5 f1_4_6 HS1_4 f2_4_0 f2_4_1 f2_4_2 f2_4_3 f2_4_4 f2_4_5 f2_4_6 HS2_4 hf2_4 f3_4_0 f3_4_1 f3_4_2 f3_4_3 f3_4_4 f3_4_5 f3_4_6 HS3_4
    clear hb5
    obtain ⟨f0_5_0, f0_5_1, f0_5_2, f0_5_3, f0_5_4, f0_5_5⟩ := str6 HS0_5.out
    have hl0_5 := HS0_5.out.lt
    obtain ⟨f1_5_0, f1_5_1, f1_5_2, f1_5_3, f1_5_4, f1_5_5, f1_5_6⟩ := str7 HS1_5.out
    have hl1_5 := HS1_5.out.lt
    obtain ⟨f2_5_0, f2_5_1, f2_5_2, f2_5_3, f2_5_4, f2_5_5, f2_5_6⟩ := str7 HS2_5.out
    have hl2_5 := HS2_5.out.lt
    have hf2_5 := fun j => HS2_5.out.frozen j
    obtain ⟨f3_5_0, f3_5_1, f3_5_2, f3_5_3, f3_5_4, f3_5_5, f3_5_6⟩ := str7 HS3_5.out
    have hl3_5 := HS3_5.out.lt
    go_wp2_with fail
    refine (Live17.live_any _).mono ?_
    rintro e W6 ⟨rfl, hb6⟩
    have HS0_6 := Lib.hid (HS0_5.out.next hb6)
    have HS1_6 := Lib.hid (HS1_5.out.next hb6)
    have HS2_6 := Lib.hid (HS2_5.out.next hb6)
    have HS3_6 := Lib.hid (HS3_5.out.next hb6)
    have HB_6 := Lib.hid (bstep HB_5.out hb6)
    have hw_6 := HB_6.out.size
    have hws_6 := (hb6).size
    have HYy_6 := Lib.hid (HYy_5.out.next hb6)
    clear HYy_5
    clear f0_5_0 f0_5_1 f0_5_2 f0_5_3 f0_5_4 f0_5_5 HS0_5 f1_5_0 f1_5_1 f1_5_2 f1_5_3 f1_5_4 f1_5_5 f1_5_6 HS1_5 f2_5_0 f2_5_1 f2_5_2 f2_5_3 f2_5_4 f2_5_5 f2_5_6 HS2_5 hf2_5 f3_5_0 f3_5_1 f3_5_2 f3_5_3 f3_5_4 f3_5_5 f3_5_6 HS3_5
    clear hb6
    obtain ⟨f0_6_0, f0_6_1, f0_6_2, f0_6_3, f0_6_4, f0_6_5⟩ := str6 HS0_6.out
    have hl0_6 := HS0_6.out.lt
    obtain ⟨f1_6_0, f1_6_1, f1_6_2, f1_6_3, f1_6_4, f1_6_5, f1_6_6⟩ := str7 HS1_6.out
    have hl1_6 := HS1_6.out.lt
    obtain ⟨f2_6_0, f2_6_1, f2_6_2, f2_6_3, f2_6_4, f2_6_5, f2_6_6⟩ := str7 HS2_6.out
    have hl2_6 := HS2_6.out.lt
    have hf2_6 := fun j => HS2_6.out.frozen j
    obtain ⟨f3_6_0, f3_6_1, f3_6_2, f3_6_3, f3_6_4, f3_6_5, f3_6_6⟩ := str7 HS3_6.out
    have hl3_6 := HS3_6.out.lt
    go_wp2_with fail
    go_ret
    exact ⟨rfl, HB_6.out⟩

set_option maxRecDepth 100000 in
set_option maxHeartbeats 4000000 in
theorem way_s2k (Ax : Option Addr) (nx cx : Nat) (act : Int) (xda : List UInt8) (xlo xhi xn : Int) (Ap : Option Addr) (np cp : Nat) (pk : ByteArray) (pkd : Int) (pda : List UInt8) (plo phi pva : Int) (Aq : Option Addr) (nq cq : Nat) (qst : Int) (qk : ByteArray) (qkd : Int) (qda : List UInt8) (qlo qhi qva : Int) (w : World)
    (hp : Bytes w w.heap.size Ap np cp pda) (hpk : pk.size ≤ maxLen) (hq : Bytes w w.heap.size Aq nq cq qda) (hqk : qk.size ≤ maxLen) (hxk : pk.size ≤ maxLen) (hqv : In64 qva) (hql : In64 qlo) (hqh : In64 qhi) (ha1 : 1 ≤ act) (ha2 : act ≤ 3) :
    Calls Try.prog 13 #[.agg #[.int .i64 act, .string pk, .slice Ax nx cx, .int .i64 xlo, .int .i64 xhi, .int .i64 xn], .agg #[.int .i64 2, .string pk, .int .i64 pkd, .slice Ap np cp, .int .i64 plo, .int .i64 phi, .int .i64 pva], .agg #[.int .i64 qst, .string qk, .int .i64 qkd, .slice Aq nq cq, .int .i64 qlo, .int .i64 qhi, .int .i64 qva]] w fun e w' => e = .returned (.bool true) ∧ Below w.heap.size w w' := by
  have Hp := Lib.hid hp
  have Hq := Lib.hid hq
  have hp1 := Nat.le_trans hp.2.1 hp.2.2.1
  have hq1 := Nat.le_trans hq.2.1 hq.2.2.1
  clear hp hq
  go_enter Try.func13, Try.ntmps13
  go_wp2_with fail
  generalize hW0 : (((w).alloc (.cells #[.int .i64 act, .string pk, .slice Ax nx cx, .int .i64 xlo, .int .i64 xhi, .int .i64 xn] 77)).alloc (.cells #[.int .i64 2, .string pk, .int .i64 pkd, .slice Ap np cp, .int .i64 plo, .int .i64 phi, .int .i64 pva] 38)).alloc (.cells #[.int .i64 qst, .string qk, .int .i64 qkd, .slice Aq nq cq, .int .i64 qlo, .int .i64 qhi, .int .i64 qva] 38) = W0
  have HS0_0 : Hid (Str W0 (w.heap.size) #[.int .i64 act, .string pk, .slice Ax nx cx, .int .i64 xlo, .int .i64 xhi, .int .i64 xn]) := Lib.hid (by rw [← hW0]; have := ((Str.new (w) #[.int .i64 act, .string pk, .slice Ax nx cx, .int .i64 xlo, .int .i64 xhi, .int .i64 xn] 77).alloc (.cells #[.int .i64 2, .string pk, .int .i64 pkd, .slice Ap np cp, .int .i64 plo, .int .i64 phi, .int .i64 pva] 38)).alloc (.cells #[.int .i64 qst, .string qk, .int .i64 qkd, .slice Aq nq cq, .int .i64 qlo, .int .i64 qhi, .int .i64 qva] 38); simpa using this)
  have HS1_0 : Hid (Str W0 (w.heap.size + 1) #[.int .i64 2, .string pk, .int .i64 pkd, .slice Ap np cp, .int .i64 plo, .int .i64 phi, .int .i64 pva]) := Lib.hid (by rw [← hW0]; have := (Str.new ((w).alloc (.cells #[.int .i64 act, .string pk, .slice Ax nx cx, .int .i64 xlo, .int .i64 xhi, .int .i64 xn] 77)) #[.int .i64 2, .string pk, .int .i64 pkd, .slice Ap np cp, .int .i64 plo, .int .i64 phi, .int .i64 pva] 38).alloc (.cells #[.int .i64 qst, .string qk, .int .i64 qkd, .slice Aq nq cq, .int .i64 qlo, .int .i64 qhi, .int .i64 qva] 38); simpa using this)
  have HS2_0 : Hid (Str W0 (w.heap.size + 1 + 1) #[.int .i64 qst, .string qk, .int .i64 qkd, .slice Aq nq cq, .int .i64 qlo, .int .i64 qhi, .int .i64 qva]) := Lib.hid (by rw [← hW0]; have := Str.new (((w).alloc (.cells #[.int .i64 act, .string pk, .slice Ax nx cx, .int .i64 xlo, .int .i64 xhi, .int .i64 xn] 77)).alloc (.cells #[.int .i64 2, .string pk, .int .i64 pkd, .slice Ap np cp, .int .i64 plo, .int .i64 phi, .int .i64 pva] 38)) #[.int .i64 qst, .string qk, .int .i64 qkd, .slice Aq nq cq, .int .i64 qlo, .int .i64 qhi, .int .i64 qva] 38; simpa using this)
  have HB_0 : Hid (Below w.heap.size w W0) := Lib.hid (by rw [← hW0]; exact balloc (balloc (balloc (bsame w) _) _) _)
  have hw_0 := HB_0.out.size
  clear hW0
  obtain ⟨f0_0_0, f0_0_1, f0_0_2, f0_0_3, f0_0_4, f0_0_5⟩ := str6 HS0_0.out
  have hl0_0 := HS0_0.out.lt
  obtain ⟨f1_0_0, f1_0_1, f1_0_2, f1_0_3, f1_0_4, f1_0_5, f1_0_6⟩ := str7 HS1_0.out
  have hl1_0 := HS1_0.out.lt
  obtain ⟨f2_0_0, f2_0_1, f2_0_2, f2_0_3, f2_0_4, f2_0_5, f2_0_6⟩ := str7 HS2_0.out
  have hl2_0 := HS2_0.out.lt
  have hf2_0 := fun j => HS2_0.out.frozen j
  refine (Live17.big_any Ap np cp _ pk _ _ _ _ _ hpk hp1).mono ?_
  rintro e W1 ⟨rfl, hb1⟩
  have HS0_1 := Lib.hid (HS0_0.out.next hb1)
  have HS1_1 := Lib.hid (HS1_0.out.next hb1)
  have HS2_1 := Lib.hid (HS2_0.out.next hb1)
  have HB_1 := Lib.hid (bstep HB_0.out hb1)
  have hw_1 := HB_1.out.size
  have hws_1 := (hb1).size
  clear f0_0_0 f0_0_1 f0_0_2 f0_0_3 f0_0_4 f0_0_5 HS0_0 f1_0_0 f1_0_1 f1_0_2 f1_0_3 f1_0_4 f1_0_5 f1_0_6 HS1_0 f2_0_0 f2_0_1 f2_0_2 f2_0_3 f2_0_4 f2_0_5 f2_0_6 HS2_0 hf2_0
  clear hb1
  obtain ⟨f0_1_0, f0_1_1, f0_1_2, f0_1_3, f0_1_4, f0_1_5⟩ := str6 HS0_1.out
  have hl0_1 := HS0_1.out.lt
  obtain ⟨f1_1_0, f1_1_1, f1_1_2, f1_1_3, f1_1_4, f1_1_5, f1_1_6⟩ := str7 HS1_1.out
  have hl1_1 := HS1_1.out.lt
  obtain ⟨f2_1_0, f2_1_1, f2_1_2, f2_1_3, f2_1_4, f2_1_5, f2_1_6⟩ := str7 HS2_1.out
  have hl2_1 := HS2_1.out.lt
  have hf2_1 := fun j => HS2_1.out.frozen j
  cases hbp : Live17.big pk np
  case true =>
    go_wp2_with fail
    refine (Live17.live_any _).mono ?_
    rintro e W2 ⟨rfl, hb2⟩
    have HS0_2 := Lib.hid (HS0_1.out.next hb2)
    have HS1_2 := Lib.hid (HS1_1.out.next hb2)
    have HS2_2 := Lib.hid (HS2_1.out.next hb2)
    have HB_2 := Lib.hid (bstep HB_1.out hb2)
    have hw_2 := HB_2.out.size
    have hws_2 := (hb2).size
    clear f0_1_0 f0_1_1 f0_1_2 f0_1_3 f0_1_4 f0_1_5 HS0_1 f1_1_0 f1_1_1 f1_1_2 f1_1_3 f1_1_4 f1_1_5 f1_1_6 HS1_1 f2_1_0 f2_1_1 f2_1_2 f2_1_3 f2_1_4 f2_1_5 f2_1_6 HS2_1 hf2_1
    clear hb2
    obtain ⟨f0_2_0, f0_2_1, f0_2_2, f0_2_3, f0_2_4, f0_2_5⟩ := str6 HS0_2.out
    have hl0_2 := HS0_2.out.lt
    obtain ⟨f1_2_0, f1_2_1, f1_2_2, f1_2_3, f1_2_4, f1_2_5, f1_2_6⟩ := str7 HS1_2.out
    have hl1_2 := HS1_2.out.lt
    obtain ⟨f2_2_0, f2_2_1, f2_2_2, f2_2_3, f2_2_4, f2_2_5, f2_2_6⟩ := str7 HS2_2.out
    have hl2_2 := HS2_2.out.lt
    have hf2_2 := fun j => HS2_2.out.frozen j
    go_wp2_with fail
    go_ret
    exact ⟨rfl, HB_2.out⟩
  have hp3 : np ≤ 300 := by simp [Live17.big] at hbp; omega
  clear hbp
  go_wp2_with fail
  refine (Live17.big_any Aq nq cq _ qk _ _ _ _ _ hqk hq1).mono ?_
  rintro e W2 ⟨rfl, hb2⟩
  have HS0_2 := Lib.hid (HS0_1.out.next hb2)
  have HS1_2 := Lib.hid (HS1_1.out.next hb2)
  have HS2_2 := Lib.hid (HS2_1.out.next hb2)
  have HB_2 := Lib.hid (bstep HB_1.out hb2)
  have hw_2 := HB_2.out.size
  have hws_2 := (hb2).size
  clear f0_1_0 f0_1_1 f0_1_2 f0_1_3 f0_1_4 f0_1_5 HS0_1 f1_1_0 f1_1_1 f1_1_2 f1_1_3 f1_1_4 f1_1_5 f1_1_6 HS1_1 f2_1_0 f2_1_1 f2_1_2 f2_1_3 f2_1_4 f2_1_5 f2_1_6 HS2_1 hf2_1
  clear hb2
  obtain ⟨f0_2_0, f0_2_1, f0_2_2, f0_2_3, f0_2_4, f0_2_5⟩ := str6 HS0_2.out
  have hl0_2 := HS0_2.out.lt
  obtain ⟨f1_2_0, f1_2_1, f1_2_2, f1_2_3, f1_2_4, f1_2_5, f1_2_6⟩ := str7 HS1_2.out
  have hl1_2 := HS1_2.out.lt
  obtain ⟨f2_2_0, f2_2_1, f2_2_2, f2_2_3, f2_2_4, f2_2_5, f2_2_6⟩ := str7 HS2_2.out
  have hl2_2 := HS2_2.out.lt
  have hf2_2 := fun j => HS2_2.out.frozen j
  cases hbq : Live17.big qk nq
  case true =>
    go_wp2_with fail
    refine (Live17.live_any _).mono ?_
    rintro e W3 ⟨rfl, hb3⟩
    have HS0_3 := Lib.hid (HS0_2.out.next hb3)
    have HS1_3 := Lib.hid (HS1_2.out.next hb3)
    have HS2_3 := Lib.hid (HS2_2.out.next hb3)
    have HB_3 := Lib.hid (bstep HB_2.out hb3)
    have hw_3 := HB_3.out.size
    have hws_3 := (hb3).size
    clear f0_2_0 f0_2_1 f0_2_2 f0_2_3 f0_2_4 f0_2_5 HS0_2 f1_2_0 f1_2_1 f1_2_2 f1_2_3 f1_2_4 f1_2_5 f1_2_6 HS1_2 f2_2_0 f2_2_1 f2_2_2 f2_2_3 f2_2_4 f2_2_5 f2_2_6 HS2_2 hf2_2
    clear hb3
    obtain ⟨f0_3_0, f0_3_1, f0_3_2, f0_3_3, f0_3_4, f0_3_5⟩ := str6 HS0_3.out
    have hl0_3 := HS0_3.out.lt
    obtain ⟨f1_3_0, f1_3_1, f1_3_2, f1_3_3, f1_3_4, f1_3_5, f1_3_6⟩ := str7 HS1_3.out
    have hl1_3 := HS1_3.out.lt
    obtain ⟨f2_3_0, f2_3_1, f2_3_2, f2_3_3, f2_3_4, f2_3_5, f2_3_6⟩ := str7 HS2_3.out
    have hl2_3 := HS2_3.out.lt
    have hf2_3 := fun j => HS2_3.out.frozen j
    go_wp2_with fail
    go_ret
    exact ⟨rfl, HB_3.out⟩
  have hq3 : nq ≤ 300 := by simp [Live17.big] at hbq; omega
  clear hbq
  have hxk1 := hxk
  unfold maxLen at hxk1
  by_cases hk1 : 300 < pk.size
  case pos =>
    go_wp2_with fail
    refine (Live17.live_any _).mono ?_
    rintro e W3 ⟨rfl, hb3⟩
    have HS0_3 := Lib.hid (HS0_2.out.next hb3)
    have HS1_3 := Lib.hid (HS1_2.out.next hb3)
    have HS2_3 := Lib.hid (HS2_2.out.next hb3)
    have HB_3 := Lib.hid (bstep HB_2.out hb3)
    have hw_3 := HB_3.out.size
    have hws_3 := (hb3).size
    clear f0_2_0 f0_2_1 f0_2_2 f0_2_3 f0_2_4 f0_2_5 HS0_2 f1_2_0 f1_2_1 f1_2_2 f1_2_3 f1_2_4 f1_2_5 f1_2_6 HS1_2 f2_2_0 f2_2_1 f2_2_2 f2_2_3 f2_2_4 f2_2_5 f2_2_6 HS2_2 hf2_2
    clear hb3
    obtain ⟨f0_3_0, f0_3_1, f0_3_2, f0_3_3, f0_3_4, f0_3_5⟩ := str6 HS0_3.out
    have hl0_3 := HS0_3.out.lt
    obtain ⟨f1_3_0, f1_3_1, f1_3_2, f1_3_3, f1_3_4, f1_3_5, f1_3_6⟩ := str7 HS1_3.out
    have hl1_3 := HS1_3.out.lt
    obtain ⟨f2_3_0, f2_3_1, f2_3_2, f2_3_3, f2_3_4, f2_3_5, f2_3_6⟩ := str7 HS2_3.out
    have hl2_3 := HS2_3.out.lt
    have hf2_3 := fun j => HS2_3.out.frozen j
    go_wp2_with fail
    go_ret
    exact ⟨rfl, HB_3.out⟩
  go_wp2_with fail
  have HO : Hid (∀ W, Below w.heap.size w W → Calls Try.prog 70 #[.agg #[.int .i64 act, .string pk, .slice Ax nx cx, .int .i64 xlo, .int .i64 xhi, .int .i64 xn], .agg #[.int .i64 2, .string pk, .int .i64 pkd, .slice Ap np cp, .int .i64 plo, .int .i64 phi, .int .i64 pva], .agg #[.int .i64 qst, .string qk, .int .i64 qkd, .slice Aq nq cq, .int .i64 qlo, .int .i64 qhi, .int .i64 qva]] W (UndoW.GivesUndo W ⟨1, pk, ⟨2, pk, ⟨pkd, pda, plo, phi, pva⟩⟩, 0⟩)) := Lib.hid (fun W hbw => by have h := UndoW.of_any Ax nx cx act pk xda xlo xhi xn Ap np cp w.heap.size 2 pk pkd pda plo phi pva Aq nq cq w.heap.size qst qk qkd qda qlo qhi qva W (Hp.out.below hbw) hbw.size (by omega) (Hq.out.below hbw) hbw.size (by omega); rw [UndoP.of_was _ _ _ (by dsimp only; omega) ⟨.inr rfl, rfl⟩] at h; exact h)
  have HA : Hid (∀ (A : Option Addr) (n c : Nat) W, Bytes W W.heap.size A n c pda → n ≤ 300 → Below w.heap.size w W → Calls Try.prog 67 #[.agg #[.int .i64 1, .string pk, .int .i64 2, .string pk, .int .i64 pkd, .slice A n c, .int .i64 plo, .int .i64 phi, .int .i64 pva, .int .i64 0], .agg #[.int .i64 qst, .string qk, .int .i64 qkd, .slice Aq nq cq, .int .i64 qlo, .int .i64 qhi, .int .i64 qva]] W (SlotGet.GotItem W (⟨2, pk, ⟨pkd, pda, plo, phi, pva⟩⟩, 0))) := Lib.hid (fun A n c W hy hn hbw => by have h := UndoW.apply_any 1 pk 0 A n c W.heap.size 2 pk pkd pda plo phi pva Aq nq cq w.heap.size qst qk qkd qda qlo qhi qva W hy (Nat.le_refl _) (by omega) (Hq.out.below hbw) hbw.size (by omega) (by unfold In64; omega) hqv hql hqh; rw [UndoP.apply_item _ _ rfl] at h; exact h)
  have HLN := Lib.hid Hp.out.len
  refine Reg.wp_region_word (R := (Reg.boxW W2.heap.size)) (W := W2) (Reg.OneJ W2.heap.size 9 10 7 (fun A n c => #[.int .i64 2, .string pk, .int .i64 pkd, .slice A n c, .int .i64 plo, .int .i64 phi, .int .i64 pva]) pda) [Reg.eqv (.agg #[.int .i64 act, .string pk, .slice Ax nx cx, .int .i64 xlo, .int .i64 xhi, .int .i64 xn]), Reg.eqv (.agg #[.int .i64 2, .string pk, .int .i64 pkd, .slice Ap np cp, .int .i64 plo, .int .i64 phi, .int .i64 pva]), Reg.eqv (.agg #[.int .i64 qst, .string qk, .int .i64 qkd, .slice Aq nq cq, .int .i64 qlo, .int .i64 qhi, .int .i64 qva]), Reg.bytesX (fun A n c => .agg #[.int .i64 1, .string pk, .int .i64 2, .string pk, .int .i64 pkd, .slice A n c, .int .i64 plo, .int .i64 phi, .int .i64 pva, .int .i64 0]) pda, Reg.eqv (.agg #[.int .i64 qst, .string qk, .int .i64 qkd, .slice Aq nq cq, .int .i64 qlo, .int .i64 qhi, .int .i64 qva]), Reg.bytesX (fun A n c => .tuple #[.agg #[.int .i64 2, .string pk, .int .i64 pkd, .slice A n c, .int .i64 plo, .int .i64 phi, .int .i64 pva], .int .i64 0]) pda, Reg.bytesX (fun A n c => .tuple #[.agg #[.int .i64 2, .string pk, .int .i64 pkd, .slice A n c, .int .i64 plo, .int .i64 phi, .int .i64 pva], .int .i64 0]) pda, Reg.bytesX (fun A n c => .agg #[.int .i64 2, .string pk, .int .i64 pkd, .slice A n c, .int .i64 plo, .int .i64 phi, .int .i64 pva]) pda, Reg.eqv (.int .i64 0), Reg.boxX 7, Reg.any, Reg.eqv (.int .i64 0)] 72 [[(3, none)], [(4, none)], [(5, none)], [(33, some 0), (34, some 1), (35, some 2)], [(5, none)], [(36, some 3), (37, some 4)], [(38, some 5)], [(32, some 6)], [(32, some 6)], [], [(7, some 9), (39, some 7)], [(40, some 8)]] rfl (by kernel_rfl) (by kernel_rfl) (fun _ _ h => Reg.one_zero h) (by kernel_rfl) ?_ [some 33, some 34, some 35, some 36, some 37, some 38, some 32, some 39, some 40, some 7, none, some 8] (by kernel_rfl) ?_
  · refine ⟨?_, ?_, ?_, ?_, ?_, ?_, ?_, ?_, ?_, ?_, ?_, ?_, trivial⟩
    · refine Reg.oblX_ord rfl rfl (by decide) (by decide) ?_
      intro ax wx hx hs
      obtain ⟨e3, -⟩ := hs
      have g3 := Reg.ev (v := .pointer (some ⟨w.heap.size, 0, none⟩)) e3
      obtain ⟨hc, -⟩ := bcell hx.1
      exact (Reg.wp_eqvB (Option.some_ne_none _) (by go_simp) rfl)
    · refine Reg.oblX_ord rfl rfl (by decide) (by decide) ?_
      intro ax wx hx hs
      obtain ⟨e4, -⟩ := hs
      have g4 := Reg.ev (v := .pointer (some ⟨w.heap.size + 1, 0, none⟩)) e4
      obtain ⟨hc, -⟩ := bcell hx.1
      exact (Reg.wp_eqvB (Option.some_ne_none _) (by go_simp) rfl)
    · refine Reg.oblX_ord rfl rfl (by decide) (by decide) ?_
      intro ax wx hx hs
      obtain ⟨e5, -⟩ := hs
      have g5 := Reg.ev (v := .pointer (some ⟨w.heap.size + 1 + 1, 0, none⟩)) e5
      obtain ⟨hc, -⟩ := bcell hx.1
      exact (Reg.wp_eqvB (Option.some_ne_none _) (by go_simp) rfl)
    · refine Reg.oblX_ord rfl rfl (by decide) (by decide) ?_
      intro ax wx hx hs
      obtain ⟨e33, e34, e35, -⟩ := hs
      have g33 := Reg.ev (v := .agg #[.int .i64 act, .string pk, .slice Ax nx cx, .int .i64 xlo, .int .i64 xhi, .int .i64 xn]) e33
      have g34 := Reg.ev (v := .agg #[.int .i64 2, .string pk, .int .i64 pkd, .slice Ap np cp, .int .i64 plo, .int .i64 phi, .int .i64 pva]) e34
      have g35 := Reg.ev (v := .agg #[.int .i64 qst, .string qk, .int .i64 qkd, .slice Aq nq cq, .int .i64 qlo, .int .i64 qhi, .int .i64 qva]) e35
      have hx' := hx.1
      go_simp
      refine (HO.out _ (bstep HB_2.out hx')).mono ?_
      rintro e wy ⟨A1, n1, c1, rfl, hy1, hby⟩
      exact Reg.doneB (Option.some_ne_none _) ⟨A1, n1, c1, rfl, hy1⟩ hby
    · refine Reg.oblX_ord rfl rfl (by decide) (by decide) ?_
      intro ax wx hx hs
      obtain ⟨e5, -⟩ := hs
      have g5 := Reg.ev (v := .pointer (some ⟨w.heap.size + 1 + 1, 0, none⟩)) e5
      obtain ⟨hc, -⟩ := bcell hx.1
      exact (Reg.wp_eqvB (Option.some_ne_none _) (by go_simp) rfl)
    · refine Reg.oblX_ord rfl rfl (by decide) (by decide) ?_
      intro ax wx hx hs
      obtain ⟨e36, e37, -⟩ := hs
      have g37 := Reg.ev (v := .agg #[.int .i64 qst, .string qk, .int .i64 qkd, .slice Aq nq cq, .int .i64 qlo, .int .i64 qhi, .int .i64 qva]) e37
      have hx' := hx.1
      obtain ⟨A1, n1, c1, e36, hy1⟩ := e36
      have g36 := Reg.ev e36
      have hn1 : n1 ≤ 300 := by rw [← hy1.len, HLN.out]; omega
      go_simp
      refine (HA.out _ _ _ _ hy1 hn1 (bstep HB_2.out hx')).mono ?_
      rintro e wy ⟨A2, n2, c2, rfl, hy2, hby⟩
      exact Reg.doneB (Option.some_ne_none _) ⟨A2, n2, c2, rfl, hy2⟩ hby
    · refine Reg.oblX_ord rfl rfl (by decide) (by decide) ?_
      intro ax wx hx hs
      obtain ⟨e38, -⟩ := hs
      obtain ⟨A1, n1, c1, e38, hy1⟩ := e38
      have g38 := Reg.ev e38
      exact Reg.wp_eqvB (Option.some_ne_none _) (by go_simp) ⟨A1, n1, c1, rfl, hy1⟩
    · refine Reg.oblX_ord rfl rfl (by decide) (by decide) ?_
      intro ax wx hx hs
      obtain ⟨e32, -⟩ := hs
      obtain ⟨A1, n1, c1, e32, hy1⟩ := e32
      have g32 := Reg.ev e32
      exact Reg.wp_eqvB (Option.some_ne_none _) (by go_simp) ⟨A1, n1, c1, rfl, hy1⟩
    · refine Reg.oblX_ord rfl rfl (by decide) (by decide) ?_
      intro ax wx hx hs
      obtain ⟨e32, -⟩ := hs
      obtain ⟨A1, n1, c1, e32, hy1⟩ := e32
      have g32 := Reg.ev e32
      exact Reg.wp_eqvB (Option.some_ne_none _) (by go_simp) rfl
    · refine Reg.oblX_alloc rfl rfl rfl (by decide) ?_
      intro ax wx hx
      go_simp
      exact Reg.doneB (Option.some_ne_none _) ⟨wx.heap.size, _, rfl, hx.1.size, Str.new wx _ _, rfl, rfl⟩ (balloc (bsame wx) _)
    · refine Reg.oblX_store rfl rfl rfl (by kernel_rfl) (by show 10 < 12; decide) rfl (fun _ _ => trivial) ?_
      intro ax wx hx hs
      obtain ⟨e7, e39, -⟩ := hs
      obtain ⟨A1, n1, c1, e39, hy1⟩ := e39
      obtain ⟨g, cs, e7, hgN, hS, hnu, hz⟩ := e7
      have g39 := Reg.ev e39
      have g7 := Reg.ev e7
      obtain ⟨k0, k1, k2, k3, k4, k5, k6, rfl⟩ := arr7 cs hz
      obtain ⟨y0, y1, y2, y3, y4, y5, y6⟩ := str7 hS
      have hfz := fun j => hS.frozen j
      have hgr : wx.grownBy _ (some g) := grown_set (grown_set (grown_set (grown_set (grown_set (grown_set (grown_set (grown_refl wx g) 0 (.int .i64 2)) 1 (.string pk)) 2 (.int .i64 pkd)) 3 (.slice A1 n1 c1)) 4 (.int .i64 plo)) 5 (.int .i64 phi)) 6 (.int .i64 pva)
      have hst := fun t h => set7 (w := wx) (g := g) (c0 := k0) (c1 := k1) (c2 := k2) (c3 := k3) (c4 := k4) (c5 := k5) (c6 := k6) (t := t) (.int .i64 2) (.string pk) (.int .i64 pkd) (.slice A1 n1 c1) (.int .i64 plo) (.int .i64 phi) (.int .i64 pva) h
      have hrl := Reg.box_set (N := W2.heap.size) hS hnu hgN hgr hst rfl rfl
      have HRL := Lib.hid hrl
      have HST := Lib.hid hst
      clear hgr hst hrl
      go_simp
      obtain ⟨tS, hS'⟩ := hS
      exact ⟨⟨rfl, HRL.out, g, A1, n1, c1, e7, hgN, ⟨tS, HST.out tS hS'⟩, Reg.bytes_boxS hy1 HRL.out⟩⟩
    · refine Reg.oblX_ord rfl rfl (by decide) (by decide) ?_
      intro ax wx hx hs
      obtain ⟨e40, -⟩ := hs
      have g40 := Reg.ev (v := .int .i64 0) e40
      exact (Reg.wp_eqvB (Option.some_ne_none _) (by go_simp) rfl)
  · intro W3 listed hwf hall
    simp only [Reg.Fin]
    rintro _ rfl _ rfl _ rfl v36 h36 _ rfl v38 h38 v32 h32 v39 h39 _ rfl v7 h7 vn10 hn10 _ rfl
    intro hJ
    obtain ⟨-, gB, AB, nB, cB, eB, hgB, hSB, hYB⟩ := hJ (hall 10 (by show 10 < 12; decide))
    have ecB : v7 = .pointer (some ⟨gB, 0, none⟩) := by simpa [Act.eval, Act.put] using eB
    clear hJ hall eB h7
    subst ecB
    go_simp
    have hwf1 : Below W2.heap.size W2 W3 := hwf.1
    have HSB := Lib.hid hSB
    have HYB := Lib.hid hYB
    clear hwf hSB hYB h36 h38 h32 h39
    have HS0_3 := Lib.hid (HS0_2.out.next hwf1)
    have HS1_3 := Lib.hid (HS1_2.out.next hwf1)
    have HS2_3 := Lib.hid (HS2_2.out.next hwf1)
    have HB_3 := Lib.hid (bstep HB_2.out hwf1)
    have hw_3 := HB_3.out.size
    have hws_3 := (hwf1).size
    clear f0_2_0 f0_2_1 f0_2_2 f0_2_3 f0_2_4 f0_2_5 HS0_2 f1_2_0 f1_2_1 f1_2_2 f1_2_3 f1_2_4 f1_2_5 f1_2_6 HS1_2 f2_2_0 f2_2_1 f2_2_2 f2_2_3 f2_2_4 f2_2_5 f2_2_6 HS2_2 hf2_2
    clear hwf1
    obtain ⟨f0_3_0, f0_3_1, f0_3_2, f0_3_3, f0_3_4, f0_3_5⟩ := str6 HS0_3.out
    have hl0_3 := HS0_3.out.lt
    obtain ⟨f1_3_0, f1_3_1, f1_3_2, f1_3_3, f1_3_4, f1_3_5, f1_3_6⟩ := str7 HS1_3.out
    have hl1_3 := HS1_3.out.lt
    obtain ⟨f2_3_0, f2_3_1, f2_3_2, f2_3_3, f2_3_4, f2_3_5, f2_3_6⟩ := str7 HS2_3.out
    have hl2_3 := HS2_3.out.lt
    have hf2_3 := fun j => HS2_3.out.frozen j
    have HS3_3 := HSB
    obtain ⟨f3_3_0, f3_3_1, f3_3_2, f3_3_3, f3_3_4, f3_3_5, f3_3_6⟩ := str7 HS3_3.out
    have hl3_3 := HS3_3.out.lt
    have HYy_3 := Lib.hid (HYB.out)
    clear HYB HSB
    go_wp2_with fail
    refine (Live17.code_any _ _).mono ?_
    rintro e w_ ⟨rfl, rfl⟩
    go_wp2_with fail
    refine (SlotW.refSame_any AB Ap nB cB np cp W3.heap.size w.heap.size ⟨2, pk, ⟨pkd, pda, plo, phi, pva⟩⟩ ⟨2, pk, ⟨pkd, pda, plo, phi, pva⟩⟩ _ HYy_3.out (Hp.out.below HB_3.out) (Nat.le_refl _) HB_3.out.size).mono ?_
    rintro e W4 ⟨rfl, hb4⟩
    rw [SlotP.same_self]
    have HS0_4 := Lib.hid (HS0_3.out.next hb4)
    have HS1_4 := Lib.hid (HS1_3.out.next hb4)
    have HS2_4 := Lib.hid (HS2_3.out.next hb4)
    have HS3_4 := Lib.hid (HS3_3.out.next hb4)
    have HB_4 := Lib.hid (bstep HB_3.out hb4)
    have hw_4 := HB_4.out.size
    have hws_4 := (hb4).size
    have HYy_4 := Lib.hid (HYy_3.out.next hb4)
    clear HYy_3
    clear f0_3_0 f0_3_1 f0_3_2 f0_3_3 f0_3_4 f0_3_5 HS0_3 f1_3_0 f1_3_1 f1_3_2 f1_3_3 f1_3_4 f1_3_5 f1_3_6 HS1_3 f2_3_0 f2_3_1 f2_3_2 f2_3_3 f2_3_4 f2_3_5 f2_3_6 HS2_3 hf2_3 f3_3_0 f3_3_1 f3_3_2 f3_3_3 f3_3_4 f3_3_5 f3_3_6 HS3_3
    clear hb4
    obtain ⟨f0_4_0, f0_4_1, f0_4_2, f0_4_3, f0_4_4, f0_4_5⟩ := str6 HS0_4.out
    have hl0_4 := HS0_4.out.lt
    obtain ⟨f1_4_0, f1_4_1, f1_4_2, f1_4_3, f1_4_4, f1_4_5, f1_4_6⟩ := str7 HS1_4.out
    have hl1_4 := HS1_4.out.lt
    obtain ⟨f2_4_0, f2_4_1, f2_4_2, f2_4_3, f2_4_4, f2_4_5, f2_4_6⟩ := str7 HS2_4.out
    have hl2_4 := HS2_4.out.lt
    have hf2_4 := fun j => HS2_4.out.frozen j
    obtain ⟨f3_4_0, f3_4_1, f3_4_2, f3_4_3, f3_4_4, f3_4_5, f3_4_6⟩ := str7 HS3_4.out
    have hl3_4 := HS3_4.out.lt
    go_wp2_with fail
    refine (Live17.live_any _).mono ?_
    rintro e W5 ⟨rfl, hb5⟩
    have HS0_5 := Lib.hid (HS0_4.out.next hb5)
    have HS1_5 := Lib.hid (HS1_4.out.next hb5)
    have HS2_5 := Lib.hid (HS2_4.out.next hb5)
    have HS3_5 := Lib.hid (HS3_4.out.next hb5)
    have HB_5 := Lib.hid (bstep HB_4.out hb5)
    have hw_5 := HB_5.out.size
    have hws_5 := (hb5).size
    have HYy_5 := Lib.hid (HYy_4.out.next hb5)
    clear HYy_4
    clear f0_4_0 f0_4_1 f0_4_2 f0_4_3 f0_4_4 f0_4_5 HS0_4 f1_4_0 f1_4_1 f1_4_2 f1_4_3 f1_4_4 f1_4_5 f1_4_6 HS1_4 f2_4_0 f2_4_1 f2_4_2 f2_4_3 f2_4_4 f2_4_5 f2_4_6 HS2_4 hf2_4 f3_4_0 f3_4_1 f3_4_2 f3_4_3 f3_4_4 f3_4_5 f3_4_6 HS3_4
    clear hb5
    obtain ⟨f0_5_0, f0_5_1, f0_5_2, f0_5_3, f0_5_4, f0_5_5⟩ := str6 HS0_5.out
    have hl0_5 := HS0_5.out.lt
    obtain ⟨f1_5_0, f1_5_1, f1_5_2, f1_5_3, f1_5_4, f1_5_5, f1_5_6⟩ := str7 HS1_5.out
    have hl1_5 := HS1_5.out.lt
    obtain ⟨f2_5_0, f2_5_1, f2_5_2, f2_5_3, f2_5_4, f2_5_5, f2_5_6⟩ := str7 HS2_5.out
    have hl2_5 := HS2_5.out.lt
    have hf2_5 := fun j => HS2_5.out.frozen j
    obtain ⟨f3_5_0, f3_5_1, f3_5_2, f3_5_3, f3_5_4, f3_5_5, f3_5_6⟩ := str7 HS3_5.out
    have hl3_5 := HS3_5.out.lt
    go_wp2_with fail
    go_ret
    exact ⟨rfl, HB_5.out⟩

set_option maxRecDepth 100000 in
set_option maxHeartbeats 4000000 in
theorem way_s2n (Ax : Option Addr) (nx cx : Nat) (act : Int) (xk : ByteArray) (xda : List UInt8) (xlo xhi xn : Int) (Ap : Option Addr) (np cp : Nat) (pk : ByteArray) (pkd : Int) (pda : List UInt8) (plo phi pva : Int) (Aq : Option Addr) (nq cq : Nat) (qst : Int) (qk : ByteArray) (qkd : Int) (qda : List UInt8) (qlo qhi qva : Int) (w : World)
    (hp : Bytes w w.heap.size Ap np cp pda) (hpk : pk.size ≤ maxLen) (hq : Bytes w w.heap.size Aq nq cq qda) (hqk : qk.size ≤ maxLen) (hxk : xk.size ≤ maxLen) (hqv : In64 qva) (hql : In64 qlo) (hqh : In64 qhi) (ha1 : 1 ≤ act) (ha2 : act ≤ 3) (hk : ¬ pk = xk) :
    Calls Try.prog 13 #[.agg #[.int .i64 act, .string xk, .slice Ax nx cx, .int .i64 xlo, .int .i64 xhi, .int .i64 xn], .agg #[.int .i64 2, .string pk, .int .i64 pkd, .slice Ap np cp, .int .i64 plo, .int .i64 phi, .int .i64 pva], .agg #[.int .i64 qst, .string qk, .int .i64 qkd, .slice Aq nq cq, .int .i64 qlo, .int .i64 qhi, .int .i64 qva]] w fun e w' => e = .returned (.bool true) ∧ Below w.heap.size w w' := by
  have Hp := Lib.hid hp
  have Hq := Lib.hid hq
  have hp1 := Nat.le_trans hp.2.1 hp.2.2.1
  have hq1 := Nat.le_trans hq.2.1 hq.2.2.1
  clear hp hq
  have HK := Lib.hid hk
  replace hk := key_ne hk
  go_enter Try.func13, Try.ntmps13
  go_wp2_with fail
  generalize hW0 : (((w).alloc (.cells #[.int .i64 act, .string xk, .slice Ax nx cx, .int .i64 xlo, .int .i64 xhi, .int .i64 xn] 77)).alloc (.cells #[.int .i64 2, .string pk, .int .i64 pkd, .slice Ap np cp, .int .i64 plo, .int .i64 phi, .int .i64 pva] 38)).alloc (.cells #[.int .i64 qst, .string qk, .int .i64 qkd, .slice Aq nq cq, .int .i64 qlo, .int .i64 qhi, .int .i64 qva] 38) = W0
  have HS0_0 : Hid (Str W0 (w.heap.size) #[.int .i64 act, .string xk, .slice Ax nx cx, .int .i64 xlo, .int .i64 xhi, .int .i64 xn]) := Lib.hid (by rw [← hW0]; have := ((Str.new (w) #[.int .i64 act, .string xk, .slice Ax nx cx, .int .i64 xlo, .int .i64 xhi, .int .i64 xn] 77).alloc (.cells #[.int .i64 2, .string pk, .int .i64 pkd, .slice Ap np cp, .int .i64 plo, .int .i64 phi, .int .i64 pva] 38)).alloc (.cells #[.int .i64 qst, .string qk, .int .i64 qkd, .slice Aq nq cq, .int .i64 qlo, .int .i64 qhi, .int .i64 qva] 38); simpa using this)
  have HS1_0 : Hid (Str W0 (w.heap.size + 1) #[.int .i64 2, .string pk, .int .i64 pkd, .slice Ap np cp, .int .i64 plo, .int .i64 phi, .int .i64 pva]) := Lib.hid (by rw [← hW0]; have := (Str.new ((w).alloc (.cells #[.int .i64 act, .string xk, .slice Ax nx cx, .int .i64 xlo, .int .i64 xhi, .int .i64 xn] 77)) #[.int .i64 2, .string pk, .int .i64 pkd, .slice Ap np cp, .int .i64 plo, .int .i64 phi, .int .i64 pva] 38).alloc (.cells #[.int .i64 qst, .string qk, .int .i64 qkd, .slice Aq nq cq, .int .i64 qlo, .int .i64 qhi, .int .i64 qva] 38); simpa using this)
  have HS2_0 : Hid (Str W0 (w.heap.size + 1 + 1) #[.int .i64 qst, .string qk, .int .i64 qkd, .slice Aq nq cq, .int .i64 qlo, .int .i64 qhi, .int .i64 qva]) := Lib.hid (by rw [← hW0]; have := Str.new (((w).alloc (.cells #[.int .i64 act, .string xk, .slice Ax nx cx, .int .i64 xlo, .int .i64 xhi, .int .i64 xn] 77)).alloc (.cells #[.int .i64 2, .string pk, .int .i64 pkd, .slice Ap np cp, .int .i64 plo, .int .i64 phi, .int .i64 pva] 38)) #[.int .i64 qst, .string qk, .int .i64 qkd, .slice Aq nq cq, .int .i64 qlo, .int .i64 qhi, .int .i64 qva] 38; simpa using this)
  have HB_0 : Hid (Below w.heap.size w W0) := Lib.hid (by rw [← hW0]; exact balloc (balloc (balloc (bsame w) _) _) _)
  have hw_0 := HB_0.out.size
  clear hW0
  obtain ⟨f0_0_0, f0_0_1, f0_0_2, f0_0_3, f0_0_4, f0_0_5⟩ := str6 HS0_0.out
  have hl0_0 := HS0_0.out.lt
  obtain ⟨f1_0_0, f1_0_1, f1_0_2, f1_0_3, f1_0_4, f1_0_5, f1_0_6⟩ := str7 HS1_0.out
  have hl1_0 := HS1_0.out.lt
  obtain ⟨f2_0_0, f2_0_1, f2_0_2, f2_0_3, f2_0_4, f2_0_5, f2_0_6⟩ := str7 HS2_0.out
  have hl2_0 := HS2_0.out.lt
  have hf2_0 := fun j => HS2_0.out.frozen j
  refine (Live17.big_any Ap np cp _ pk _ _ _ _ _ hpk hp1).mono ?_
  rintro e W1 ⟨rfl, hb1⟩
  have HS0_1 := Lib.hid (HS0_0.out.next hb1)
  have HS1_1 := Lib.hid (HS1_0.out.next hb1)
  have HS2_1 := Lib.hid (HS2_0.out.next hb1)
  have HB_1 := Lib.hid (bstep HB_0.out hb1)
  have hw_1 := HB_1.out.size
  have hws_1 := (hb1).size
  clear f0_0_0 f0_0_1 f0_0_2 f0_0_3 f0_0_4 f0_0_5 HS0_0 f1_0_0 f1_0_1 f1_0_2 f1_0_3 f1_0_4 f1_0_5 f1_0_6 HS1_0 f2_0_0 f2_0_1 f2_0_2 f2_0_3 f2_0_4 f2_0_5 f2_0_6 HS2_0 hf2_0
  clear hb1
  obtain ⟨f0_1_0, f0_1_1, f0_1_2, f0_1_3, f0_1_4, f0_1_5⟩ := str6 HS0_1.out
  have hl0_1 := HS0_1.out.lt
  obtain ⟨f1_1_0, f1_1_1, f1_1_2, f1_1_3, f1_1_4, f1_1_5, f1_1_6⟩ := str7 HS1_1.out
  have hl1_1 := HS1_1.out.lt
  obtain ⟨f2_1_0, f2_1_1, f2_1_2, f2_1_3, f2_1_4, f2_1_5, f2_1_6⟩ := str7 HS2_1.out
  have hl2_1 := HS2_1.out.lt
  have hf2_1 := fun j => HS2_1.out.frozen j
  cases hbp : Live17.big pk np
  case true =>
    go_wp2_with fail
    refine (Live17.live_any _).mono ?_
    rintro e W2 ⟨rfl, hb2⟩
    have HS0_2 := Lib.hid (HS0_1.out.next hb2)
    have HS1_2 := Lib.hid (HS1_1.out.next hb2)
    have HS2_2 := Lib.hid (HS2_1.out.next hb2)
    have HB_2 := Lib.hid (bstep HB_1.out hb2)
    have hw_2 := HB_2.out.size
    have hws_2 := (hb2).size
    clear f0_1_0 f0_1_1 f0_1_2 f0_1_3 f0_1_4 f0_1_5 HS0_1 f1_1_0 f1_1_1 f1_1_2 f1_1_3 f1_1_4 f1_1_5 f1_1_6 HS1_1 f2_1_0 f2_1_1 f2_1_2 f2_1_3 f2_1_4 f2_1_5 f2_1_6 HS2_1 hf2_1
    clear hb2
    obtain ⟨f0_2_0, f0_2_1, f0_2_2, f0_2_3, f0_2_4, f0_2_5⟩ := str6 HS0_2.out
    have hl0_2 := HS0_2.out.lt
    obtain ⟨f1_2_0, f1_2_1, f1_2_2, f1_2_3, f1_2_4, f1_2_5, f1_2_6⟩ := str7 HS1_2.out
    have hl1_2 := HS1_2.out.lt
    obtain ⟨f2_2_0, f2_2_1, f2_2_2, f2_2_3, f2_2_4, f2_2_5, f2_2_6⟩ := str7 HS2_2.out
    have hl2_2 := HS2_2.out.lt
    have hf2_2 := fun j => HS2_2.out.frozen j
    go_wp2_with fail
    go_ret
    exact ⟨rfl, HB_2.out⟩
  have hp3 : np ≤ 300 := by simp [Live17.big] at hbp; omega
  clear hbp
  go_wp2_with fail
  refine (Live17.big_any Aq nq cq _ qk _ _ _ _ _ hqk hq1).mono ?_
  rintro e W2 ⟨rfl, hb2⟩
  have HS0_2 := Lib.hid (HS0_1.out.next hb2)
  have HS1_2 := Lib.hid (HS1_1.out.next hb2)
  have HS2_2 := Lib.hid (HS2_1.out.next hb2)
  have HB_2 := Lib.hid (bstep HB_1.out hb2)
  have hw_2 := HB_2.out.size
  have hws_2 := (hb2).size
  clear f0_1_0 f0_1_1 f0_1_2 f0_1_3 f0_1_4 f0_1_5 HS0_1 f1_1_0 f1_1_1 f1_1_2 f1_1_3 f1_1_4 f1_1_5 f1_1_6 HS1_1 f2_1_0 f2_1_1 f2_1_2 f2_1_3 f2_1_4 f2_1_5 f2_1_6 HS2_1 hf2_1
  clear hb2
  obtain ⟨f0_2_0, f0_2_1, f0_2_2, f0_2_3, f0_2_4, f0_2_5⟩ := str6 HS0_2.out
  have hl0_2 := HS0_2.out.lt
  obtain ⟨f1_2_0, f1_2_1, f1_2_2, f1_2_3, f1_2_4, f1_2_5, f1_2_6⟩ := str7 HS1_2.out
  have hl1_2 := HS1_2.out.lt
  obtain ⟨f2_2_0, f2_2_1, f2_2_2, f2_2_3, f2_2_4, f2_2_5, f2_2_6⟩ := str7 HS2_2.out
  have hl2_2 := HS2_2.out.lt
  have hf2_2 := fun j => HS2_2.out.frozen j
  cases hbq : Live17.big qk nq
  case true =>
    go_wp2_with fail
    refine (Live17.live_any _).mono ?_
    rintro e W3 ⟨rfl, hb3⟩
    have HS0_3 := Lib.hid (HS0_2.out.next hb3)
    have HS1_3 := Lib.hid (HS1_2.out.next hb3)
    have HS2_3 := Lib.hid (HS2_2.out.next hb3)
    have HB_3 := Lib.hid (bstep HB_2.out hb3)
    have hw_3 := HB_3.out.size
    have hws_3 := (hb3).size
    clear f0_2_0 f0_2_1 f0_2_2 f0_2_3 f0_2_4 f0_2_5 HS0_2 f1_2_0 f1_2_1 f1_2_2 f1_2_3 f1_2_4 f1_2_5 f1_2_6 HS1_2 f2_2_0 f2_2_1 f2_2_2 f2_2_3 f2_2_4 f2_2_5 f2_2_6 HS2_2 hf2_2
    clear hb3
    obtain ⟨f0_3_0, f0_3_1, f0_3_2, f0_3_3, f0_3_4, f0_3_5⟩ := str6 HS0_3.out
    have hl0_3 := HS0_3.out.lt
    obtain ⟨f1_3_0, f1_3_1, f1_3_2, f1_3_3, f1_3_4, f1_3_5, f1_3_6⟩ := str7 HS1_3.out
    have hl1_3 := HS1_3.out.lt
    obtain ⟨f2_3_0, f2_3_1, f2_3_2, f2_3_3, f2_3_4, f2_3_5, f2_3_6⟩ := str7 HS2_3.out
    have hl2_3 := HS2_3.out.lt
    have hf2_3 := fun j => HS2_3.out.frozen j
    go_wp2_with fail
    go_ret
    exact ⟨rfl, HB_3.out⟩
  have hq3 : nq ≤ 300 := by simp [Live17.big] at hbq; omega
  clear hbq
  have hxk1 := hxk
  unfold maxLen at hxk1
  by_cases hk1 : 300 < xk.size
  case pos =>
    go_wp2_with fail
    refine (Live17.live_any _).mono ?_
    rintro e W3 ⟨rfl, hb3⟩
    have HS0_3 := Lib.hid (HS0_2.out.next hb3)
    have HS1_3 := Lib.hid (HS1_2.out.next hb3)
    have HS2_3 := Lib.hid (HS2_2.out.next hb3)
    have HB_3 := Lib.hid (bstep HB_2.out hb3)
    have hw_3 := HB_3.out.size
    have hws_3 := (hb3).size
    clear f0_2_0 f0_2_1 f0_2_2 f0_2_3 f0_2_4 f0_2_5 HS0_2 f1_2_0 f1_2_1 f1_2_2 f1_2_3 f1_2_4 f1_2_5 f1_2_6 HS1_2 f2_2_0 f2_2_1 f2_2_2 f2_2_3 f2_2_4 f2_2_5 f2_2_6 HS2_2 hf2_2
    clear hb3
    obtain ⟨f0_3_0, f0_3_1, f0_3_2, f0_3_3, f0_3_4, f0_3_5⟩ := str6 HS0_3.out
    have hl0_3 := HS0_3.out.lt
    obtain ⟨f1_3_0, f1_3_1, f1_3_2, f1_3_3, f1_3_4, f1_3_5, f1_3_6⟩ := str7 HS1_3.out
    have hl1_3 := HS1_3.out.lt
    obtain ⟨f2_3_0, f2_3_1, f2_3_2, f2_3_3, f2_3_4, f2_3_5, f2_3_6⟩ := str7 HS2_3.out
    have hl2_3 := HS2_3.out.lt
    have hf2_3 := fun j => HS2_3.out.frozen j
    go_wp2_with fail
    go_ret
    exact ⟨rfl, HB_3.out⟩
  go_wp2_with fail
  have HO : Hid (∀ W, Below w.heap.size w W → Calls Try.prog 70 #[.agg #[.int .i64 act, .string xk, .slice Ax nx cx, .int .i64 xlo, .int .i64 xhi, .int .i64 xn], .agg #[.int .i64 2, .string pk, .int .i64 pkd, .slice Ap np cp, .int .i64 plo, .int .i64 phi, .int .i64 pva], .agg #[.int .i64 qst, .string qk, .int .i64 qkd, .slice Aq nq cq, .int .i64 qlo, .int .i64 qhi, .int .i64 qva]] W (UndoW.GivesUndo W ⟨1, xk, ⟨2, qk, ⟨qkd, qda, qlo, qhi, qva⟩⟩, 0⟩)) := Lib.hid (fun W hbw => by have h := UndoW.of_any Ax nx cx act xk xda xlo xhi xn Ap np cp w.heap.size 2 pk pkd pda plo phi pva Aq nq cq w.heap.size qst qk qkd qda qlo qhi qva W (Hp.out.below hbw) hbw.size (by omega) (Hq.out.below hbw) hbw.size (by omega); rw [UndoP.of_then _ _ _ (by dsimp only; omega) (fun h => HK.out h.2)] at h; exact h)
  have HA : Hid (∀ (A : Option Addr) (n c : Nat) W, Bytes W W.heap.size A n c qda → n ≤ 300 → Below w.heap.size w W → Calls Try.prog 67 #[.agg #[.int .i64 1, .string xk, .int .i64 2, .string qk, .int .i64 qkd, .slice A n c, .int .i64 qlo, .int .i64 qhi, .int .i64 qva, .int .i64 0], .agg #[.int .i64 qst, .string qk, .int .i64 qkd, .slice Aq nq cq, .int .i64 qlo, .int .i64 qhi, .int .i64 qva]] W (SlotGet.GotItem W (⟨2, qk, ⟨qkd, qda, qlo, qhi, qva⟩⟩, 0))) := Lib.hid (fun A n c W hy hn hbw => by have h := UndoW.apply_any 1 xk 0 A n c W.heap.size 2 qk qkd qda qlo qhi qva Aq nq cq w.heap.size qst qk qkd qda qlo qhi qva W hy (Nat.le_refl _) (by omega) (Hq.out.below hbw) hbw.size (by omega) (by unfold In64; omega) hqv hql hqh; rw [UndoP.apply_item _ _ rfl] at h; exact h)
  have HLN := Lib.hid Hq.out.len
  refine Reg.wp_region_word (R := (Reg.boxW W2.heap.size)) (W := W2) (Reg.OneJ W2.heap.size 9 10 7 (fun A n c => #[.int .i64 2, .string qk, .int .i64 qkd, .slice A n c, .int .i64 qlo, .int .i64 qhi, .int .i64 qva]) qda) [Reg.eqv (.agg #[.int .i64 act, .string xk, .slice Ax nx cx, .int .i64 xlo, .int .i64 xhi, .int .i64 xn]), Reg.eqv (.agg #[.int .i64 2, .string pk, .int .i64 pkd, .slice Ap np cp, .int .i64 plo, .int .i64 phi, .int .i64 pva]), Reg.eqv (.agg #[.int .i64 qst, .string qk, .int .i64 qkd, .slice Aq nq cq, .int .i64 qlo, .int .i64 qhi, .int .i64 qva]), Reg.bytesX (fun A n c => .agg #[.int .i64 1, .string xk, .int .i64 2, .string qk, .int .i64 qkd, .slice A n c, .int .i64 qlo, .int .i64 qhi, .int .i64 qva, .int .i64 0]) qda, Reg.eqv (.agg #[.int .i64 qst, .string qk, .int .i64 qkd, .slice Aq nq cq, .int .i64 qlo, .int .i64 qhi, .int .i64 qva]), Reg.bytesX (fun A n c => .tuple #[.agg #[.int .i64 2, .string qk, .int .i64 qkd, .slice A n c, .int .i64 qlo, .int .i64 qhi, .int .i64 qva], .int .i64 0]) qda, Reg.bytesX (fun A n c => .tuple #[.agg #[.int .i64 2, .string qk, .int .i64 qkd, .slice A n c, .int .i64 qlo, .int .i64 qhi, .int .i64 qva], .int .i64 0]) qda, Reg.bytesX (fun A n c => .agg #[.int .i64 2, .string qk, .int .i64 qkd, .slice A n c, .int .i64 qlo, .int .i64 qhi, .int .i64 qva]) qda, Reg.eqv (.int .i64 0), Reg.boxX 7, Reg.any, Reg.eqv (.int .i64 0)] 72 [[(3, none)], [(4, none)], [(5, none)], [(33, some 0), (34, some 1), (35, some 2)], [(5, none)], [(36, some 3), (37, some 4)], [(38, some 5)], [(32, some 6)], [(32, some 6)], [], [(7, some 9), (39, some 7)], [(40, some 8)]] rfl (by kernel_rfl) (by kernel_rfl) (fun _ _ h => Reg.one_zero h) (by kernel_rfl) ?_ [some 33, some 34, some 35, some 36, some 37, some 38, some 32, some 39, some 40, some 7, none, some 8] (by kernel_rfl) ?_
  · refine ⟨?_, ?_, ?_, ?_, ?_, ?_, ?_, ?_, ?_, ?_, ?_, ?_, trivial⟩
    · refine Reg.oblX_ord rfl rfl (by decide) (by decide) ?_
      intro ax wx hx hs
      obtain ⟨e3, -⟩ := hs
      have g3 := Reg.ev (v := .pointer (some ⟨w.heap.size, 0, none⟩)) e3
      obtain ⟨hc, -⟩ := bcell hx.1
      exact (Reg.wp_eqvB (Option.some_ne_none _) (by go_simp) rfl)
    · refine Reg.oblX_ord rfl rfl (by decide) (by decide) ?_
      intro ax wx hx hs
      obtain ⟨e4, -⟩ := hs
      have g4 := Reg.ev (v := .pointer (some ⟨w.heap.size + 1, 0, none⟩)) e4
      obtain ⟨hc, -⟩ := bcell hx.1
      exact (Reg.wp_eqvB (Option.some_ne_none _) (by go_simp) rfl)
    · refine Reg.oblX_ord rfl rfl (by decide) (by decide) ?_
      intro ax wx hx hs
      obtain ⟨e5, -⟩ := hs
      have g5 := Reg.ev (v := .pointer (some ⟨w.heap.size + 1 + 1, 0, none⟩)) e5
      obtain ⟨hc, -⟩ := bcell hx.1
      exact (Reg.wp_eqvB (Option.some_ne_none _) (by go_simp) rfl)
    · refine Reg.oblX_ord rfl rfl (by decide) (by decide) ?_
      intro ax wx hx hs
      obtain ⟨e33, e34, e35, -⟩ := hs
      have g33 := Reg.ev (v := .agg #[.int .i64 act, .string xk, .slice Ax nx cx, .int .i64 xlo, .int .i64 xhi, .int .i64 xn]) e33
      have g34 := Reg.ev (v := .agg #[.int .i64 2, .string pk, .int .i64 pkd, .slice Ap np cp, .int .i64 plo, .int .i64 phi, .int .i64 pva]) e34
      have g35 := Reg.ev (v := .agg #[.int .i64 qst, .string qk, .int .i64 qkd, .slice Aq nq cq, .int .i64 qlo, .int .i64 qhi, .int .i64 qva]) e35
      have hx' := hx.1
      go_simp
      refine (HO.out _ (bstep HB_2.out hx')).mono ?_
      rintro e wy ⟨A1, n1, c1, rfl, hy1, hby⟩
      exact Reg.doneB (Option.some_ne_none _) ⟨A1, n1, c1, rfl, hy1⟩ hby
    · refine Reg.oblX_ord rfl rfl (by decide) (by decide) ?_
      intro ax wx hx hs
      obtain ⟨e5, -⟩ := hs
      have g5 := Reg.ev (v := .pointer (some ⟨w.heap.size + 1 + 1, 0, none⟩)) e5
      obtain ⟨hc, -⟩ := bcell hx.1
      exact (Reg.wp_eqvB (Option.some_ne_none _) (by go_simp) rfl)
    · refine Reg.oblX_ord rfl rfl (by decide) (by decide) ?_
      intro ax wx hx hs
      obtain ⟨e36, e37, -⟩ := hs
      have g37 := Reg.ev (v := .agg #[.int .i64 qst, .string qk, .int .i64 qkd, .slice Aq nq cq, .int .i64 qlo, .int .i64 qhi, .int .i64 qva]) e37
      have hx' := hx.1
      obtain ⟨A1, n1, c1, e36, hy1⟩ := e36
      have g36 := Reg.ev e36
      have hn1 : n1 ≤ 300 := by rw [← hy1.len, HLN.out]; omega
      go_simp
      refine (HA.out _ _ _ _ hy1 hn1 (bstep HB_2.out hx')).mono ?_
      rintro e wy ⟨A2, n2, c2, rfl, hy2, hby⟩
      exact Reg.doneB (Option.some_ne_none _) ⟨A2, n2, c2, rfl, hy2⟩ hby
    · refine Reg.oblX_ord rfl rfl (by decide) (by decide) ?_
      intro ax wx hx hs
      obtain ⟨e38, -⟩ := hs
      obtain ⟨A1, n1, c1, e38, hy1⟩ := e38
      have g38 := Reg.ev e38
      exact Reg.wp_eqvB (Option.some_ne_none _) (by go_simp) ⟨A1, n1, c1, rfl, hy1⟩
    · refine Reg.oblX_ord rfl rfl (by decide) (by decide) ?_
      intro ax wx hx hs
      obtain ⟨e32, -⟩ := hs
      obtain ⟨A1, n1, c1, e32, hy1⟩ := e32
      have g32 := Reg.ev e32
      exact Reg.wp_eqvB (Option.some_ne_none _) (by go_simp) ⟨A1, n1, c1, rfl, hy1⟩
    · refine Reg.oblX_ord rfl rfl (by decide) (by decide) ?_
      intro ax wx hx hs
      obtain ⟨e32, -⟩ := hs
      obtain ⟨A1, n1, c1, e32, hy1⟩ := e32
      have g32 := Reg.ev e32
      exact Reg.wp_eqvB (Option.some_ne_none _) (by go_simp) rfl
    · refine Reg.oblX_alloc rfl rfl rfl (by decide) ?_
      intro ax wx hx
      go_simp
      exact Reg.doneB (Option.some_ne_none _) ⟨wx.heap.size, _, rfl, hx.1.size, Str.new wx _ _, rfl, rfl⟩ (balloc (bsame wx) _)
    · refine Reg.oblX_store rfl rfl rfl (by kernel_rfl) (by show 10 < 12; decide) rfl (fun _ _ => trivial) ?_
      intro ax wx hx hs
      obtain ⟨e7, e39, -⟩ := hs
      obtain ⟨A1, n1, c1, e39, hy1⟩ := e39
      obtain ⟨g, cs, e7, hgN, hS, hnu, hz⟩ := e7
      have g39 := Reg.ev e39
      have g7 := Reg.ev e7
      obtain ⟨k0, k1, k2, k3, k4, k5, k6, rfl⟩ := arr7 cs hz
      obtain ⟨y0, y1, y2, y3, y4, y5, y6⟩ := str7 hS
      have hfz := fun j => hS.frozen j
      have hgr : wx.grownBy _ (some g) := grown_set (grown_set (grown_set (grown_set (grown_set (grown_set (grown_set (grown_refl wx g) 0 (.int .i64 2)) 1 (.string qk)) 2 (.int .i64 qkd)) 3 (.slice A1 n1 c1)) 4 (.int .i64 qlo)) 5 (.int .i64 qhi)) 6 (.int .i64 qva)
      have hst := fun t h => set7 (w := wx) (g := g) (c0 := k0) (c1 := k1) (c2 := k2) (c3 := k3) (c4 := k4) (c5 := k5) (c6 := k6) (t := t) (.int .i64 2) (.string qk) (.int .i64 qkd) (.slice A1 n1 c1) (.int .i64 qlo) (.int .i64 qhi) (.int .i64 qva) h
      have hrl := Reg.box_set (N := W2.heap.size) hS hnu hgN hgr hst rfl rfl
      have HRL := Lib.hid hrl
      have HST := Lib.hid hst
      clear hgr hst hrl
      go_simp
      obtain ⟨tS, hS'⟩ := hS
      exact ⟨⟨rfl, HRL.out, g, A1, n1, c1, e7, hgN, ⟨tS, HST.out tS hS'⟩, Reg.bytes_boxS hy1 HRL.out⟩⟩
    · refine Reg.oblX_ord rfl rfl (by decide) (by decide) ?_
      intro ax wx hx hs
      obtain ⟨e40, -⟩ := hs
      have g40 := Reg.ev (v := .int .i64 0) e40
      exact (Reg.wp_eqvB (Option.some_ne_none _) (by go_simp) rfl)
  · intro W3 listed hwf hall
    simp only [Reg.Fin]
    rintro _ rfl _ rfl _ rfl v36 h36 _ rfl v38 h38 v32 h32 v39 h39 _ rfl v7 h7 vn10 hn10 _ rfl
    intro hJ
    obtain ⟨-, gB, AB, nB, cB, eB, hgB, hSB, hYB⟩ := hJ (hall 10 (by show 10 < 12; decide))
    have ecB : v7 = .pointer (some ⟨gB, 0, none⟩) := by simpa [Act.eval, Act.put] using eB
    clear hJ hall eB h7
    subst ecB
    go_simp
    have hwf1 : Below W2.heap.size W2 W3 := hwf.1
    have HSB := Lib.hid hSB
    have HYB := Lib.hid hYB
    clear hwf hSB hYB h36 h38 h32 h39
    have HS0_3 := Lib.hid (HS0_2.out.next hwf1)
    have HS1_3 := Lib.hid (HS1_2.out.next hwf1)
    have HS2_3 := Lib.hid (HS2_2.out.next hwf1)
    have HB_3 := Lib.hid (bstep HB_2.out hwf1)
    have hw_3 := HB_3.out.size
    have hws_3 := (hwf1).size
    clear f0_2_0 f0_2_1 f0_2_2 f0_2_3 f0_2_4 f0_2_5 HS0_2 f1_2_0 f1_2_1 f1_2_2 f1_2_3 f1_2_4 f1_2_5 f1_2_6 HS1_2 f2_2_0 f2_2_1 f2_2_2 f2_2_3 f2_2_4 f2_2_5 f2_2_6 HS2_2 hf2_2
    clear hwf1
    obtain ⟨f0_3_0, f0_3_1, f0_3_2, f0_3_3, f0_3_4, f0_3_5⟩ := str6 HS0_3.out
    have hl0_3 := HS0_3.out.lt
    obtain ⟨f1_3_0, f1_3_1, f1_3_2, f1_3_3, f1_3_4, f1_3_5, f1_3_6⟩ := str7 HS1_3.out
    have hl1_3 := HS1_3.out.lt
    obtain ⟨f2_3_0, f2_3_1, f2_3_2, f2_3_3, f2_3_4, f2_3_5, f2_3_6⟩ := str7 HS2_3.out
    have hl2_3 := HS2_3.out.lt
    have hf2_3 := fun j => HS2_3.out.frozen j
    have HS3_3 := HSB
    obtain ⟨f3_3_0, f3_3_1, f3_3_2, f3_3_3, f3_3_4, f3_3_5, f3_3_6⟩ := str7 HS3_3.out
    have hl3_3 := HS3_3.out.lt
    have HYy_3 := Lib.hid (HYB.out)
    clear HYB HSB
    go_wp2_with fail
    refine (Live17.code_any _ _).mono ?_
    rintro e w_ ⟨rfl, rfl⟩
    go_wp2_with fail
    generalize hW4 : (W3).setCell ⟨w.heap.size + 1 + 1, 0, none⟩ (.int .i64 2) = W4
    have HS0_4 : Hid (Str W4 (w.heap.size) #[.int .i64 act, .string xk, .slice Ax nx cx, .int .i64 xlo, .int .i64 xhi, .int .i64 xn]) := Lib.hid (by rw [← hW4]; exact (HS0_3.out).other 0 _ (by omega))
    have HS1_4 : Hid (Str W4 (w.heap.size + 1) #[.int .i64 2, .string pk, .int .i64 pkd, .slice Ap np cp, .int .i64 plo, .int .i64 phi, .int .i64 pva]) := Lib.hid (by rw [← hW4]; exact (HS1_3.out).other 0 _ (by omega))
    have HS2_4 : Hid (Str W4 (w.heap.size + 1 + 1) #[.int .i64 2, .string qk, .int .i64 qkd, .slice Aq nq cq, .int .i64 qlo, .int .i64 qhi, .int .i64 qva]) := Lib.hid (by rw [← hW4]; have := (HS2_3.out).set 0 (.int .i64 2); simpa using this)
    have HS3_4 : Hid (Str W4 (gB) #[.int .i64 2, .string qk, .int .i64 qkd, .slice AB nB cB, .int .i64 qlo, .int .i64 qhi, .int .i64 qva]) := Lib.hid (by rw [← hW4]; exact (HS3_3.out).other 0 _ (by omega))
    have hgr4 : W3.grownBy W4 (some (w.heap.size + 1 + 1)) := by rw [← hW4]; exact grown_set (grown_refl W3 (w.heap.size + 1 + 1)) 0 (.int .i64 2)
    have HB_4 := Lib.hid (below_grown HB_3.out hgr4 (by omega))
    have hw_4 := HB_4.out.size
    have hws_4 := hgr4.size
    have HYy_4 := Lib.hid ((Bytes.grown HYy_3.out (Nat.le_refl _) HS2_3.out rfl hgr4).more hws_4)
    clear HYy_3
    clear hW4
    clear f0_3_0 f0_3_1 f0_3_2 f0_3_3 f0_3_4 f0_3_5 HS0_3 f1_3_0 f1_3_1 f1_3_2 f1_3_3 f1_3_4 f1_3_5 f1_3_6 HS1_3 f2_3_0 f2_3_1 f2_3_2 f2_3_3 f2_3_4 f2_3_5 f2_3_6 HS2_3 hf2_3 f3_3_0 f3_3_1 f3_3_2 f3_3_3 f3_3_4 f3_3_5 f3_3_6 HS3_3
    clear hgr4
    obtain ⟨f0_4_0, f0_4_1, f0_4_2, f0_4_3, f0_4_4, f0_4_5⟩ := str6 HS0_4.out
    have hl0_4 := HS0_4.out.lt
    obtain ⟨f1_4_0, f1_4_1, f1_4_2, f1_4_3, f1_4_4, f1_4_5, f1_4_6⟩ := str7 HS1_4.out
    have hl1_4 := HS1_4.out.lt
    obtain ⟨f2_4_0, f2_4_1, f2_4_2, f2_4_3, f2_4_4, f2_4_5, f2_4_6⟩ := str7 HS2_4.out
    have hl2_4 := HS2_4.out.lt
    have hf2_4 := fun j => HS2_4.out.frozen j
    obtain ⟨f3_4_0, f3_4_1, f3_4_2, f3_4_3, f3_4_4, f3_4_5, f3_4_6⟩ := str7 HS3_4.out
    have hl3_4 := HS3_4.out.lt
    refine (SlotW.refSame_any AB Aq nB cB nq cq W4.heap.size w.heap.size ⟨2, qk, ⟨qkd, qda, qlo, qhi, qva⟩⟩ ⟨2, qk, ⟨qkd, qda, qlo, qhi, qva⟩⟩ _ HYy_4.out (Hq.out.below HB_4.out) (Nat.le_refl _) HB_4.out.size).mono ?_
    rintro e W5 ⟨rfl, hb5⟩
    rw [SlotP.same_self]
    have HS0_5 := Lib.hid (HS0_4.out.next hb5)
    have HS1_5 := Lib.hid (HS1_4.out.next hb5)
    have HS2_5 := Lib.hid (HS2_4.out.next hb5)
    have HS3_5 := Lib.hid (HS3_4.out.next hb5)
    have HB_5 := Lib.hid (bstep HB_4.out hb5)
    have hw_5 := HB_5.out.size
    have hws_5 := (hb5).size
    have HYy_5 := Lib.hid (HYy_4.out.next hb5)
    clear HYy_4
    clear f0_4_0 f0_4_1 f0_4_2 f0_4_3 f0_4_4 f0_4_5 HS0_4 f1_4_0 f1_4_1 f1_4_2 f1_4_3 f1_4_4 f1_4_5 f1_4_6 HS1_4 f2_4_0 f2_4_1 f2_4_2 f2_4_3 f2_4_4 f2_4_5 f2_4_6 HS2_4 hf2_4 f3_4_0 f3_4_1 f3_4_2 f3_4_3 f3_4_4 f3_4_5 f3_4_6 HS3_4
    clear hb5
    obtain ⟨f0_5_0, f0_5_1, f0_5_2, f0_5_3, f0_5_4, f0_5_5⟩ := str6 HS0_5.out
    have hl0_5 := HS0_5.out.lt
    obtain ⟨f1_5_0, f1_5_1, f1_5_2, f1_5_3, f1_5_4, f1_5_5, f1_5_6⟩ := str7 HS1_5.out
    have hl1_5 := HS1_5.out.lt
    obtain ⟨f2_5_0, f2_5_1, f2_5_2, f2_5_3, f2_5_4, f2_5_5, f2_5_6⟩ := str7 HS2_5.out
    have hl2_5 := HS2_5.out.lt
    have hf2_5 := fun j => HS2_5.out.frozen j
    obtain ⟨f3_5_0, f3_5_1, f3_5_2, f3_5_3, f3_5_4, f3_5_5, f3_5_6⟩ := str7 HS3_5.out
    have hl3_5 := HS3_5.out.lt
    go_wp2_with fail
    refine (Live17.live_any _).mono ?_
    rintro e W6 ⟨rfl, hb6⟩
    have HS0_6 := Lib.hid (HS0_5.out.next hb6)
    have HS1_6 := Lib.hid (HS1_5.out.next hb6)
    have HS2_6 := Lib.hid (HS2_5.out.next hb6)
    have HS3_6 := Lib.hid (HS3_5.out.next hb6)
    have HB_6 := Lib.hid (bstep HB_5.out hb6)
    have hw_6 := HB_6.out.size
    have hws_6 := (hb6).size
    have HYy_6 := Lib.hid (HYy_5.out.next hb6)
    clear HYy_5
    clear f0_5_0 f0_5_1 f0_5_2 f0_5_3 f0_5_4 f0_5_5 HS0_5 f1_5_0 f1_5_1 f1_5_2 f1_5_3 f1_5_4 f1_5_5 f1_5_6 HS1_5 f2_5_0 f2_5_1 f2_5_2 f2_5_3 f2_5_4 f2_5_5 f2_5_6 HS2_5 hf2_5 f3_5_0 f3_5_1 f3_5_2 f3_5_3 f3_5_4 f3_5_5 f3_5_6 HS3_5
    clear hb6
    obtain ⟨f0_6_0, f0_6_1, f0_6_2, f0_6_3, f0_6_4, f0_6_5⟩ := str6 HS0_6.out
    have hl0_6 := HS0_6.out.lt
    obtain ⟨f1_6_0, f1_6_1, f1_6_2, f1_6_3, f1_6_4, f1_6_5, f1_6_6⟩ := str7 HS1_6.out
    have hl1_6 := HS1_6.out.lt
    obtain ⟨f2_6_0, f2_6_1, f2_6_2, f2_6_3, f2_6_4, f2_6_5, f2_6_6⟩ := str7 HS2_6.out
    have hl2_6 := HS2_6.out.lt
    have hf2_6 := fun j => HS2_6.out.frozen j
    obtain ⟨f3_6_0, f3_6_1, f3_6_2, f3_6_3, f3_6_4, f3_6_5, f3_6_6⟩ := str7 HS3_6.out
    have hl3_6 := HS3_6.out.lt
    go_wp2_with fail
    go_ret
    exact ⟨rfl, HB_6.out⟩

set_option maxRecDepth 100000 in
set_option maxHeartbeats 4000000 in
theorem way_no (Ax : Option Addr) (nx cx : Nat) (act : Int) (xk : ByteArray) (xda : List UInt8) (xlo xhi xn : Int) (Ap : Option Addr) (np cp : Nat) (pst : Int) (pk : ByteArray) (pkd : Int) (pda : List UInt8) (plo phi pva : Int) (Aq : Option Addr) (nq cq : Nat) (qst : Int) (qk : ByteArray) (qkd : Int) (qda : List UInt8) (qlo qhi qva : Int) (w : World)
    (hp : Bytes w w.heap.size Ap np cp pda) (hpk : pk.size ≤ maxLen) (hq : Bytes w w.heap.size Aq nq cq qda) (hqk : qk.size ≤ maxLen) (hxk : xk.size ≤ maxLen) (hqv : In64 qva) (hql : In64 qlo) (hqh : In64 qhi) (ha1 : 1 ≤ act) (ha2 : act ≤ 3) (hs1 : ¬ pst = 1) (hs2 : ¬ pst = 2) :
    Calls Try.prog 13 #[.agg #[.int .i64 act, .string xk, .slice Ax nx cx, .int .i64 xlo, .int .i64 xhi, .int .i64 xn], .agg #[.int .i64 pst, .string pk, .int .i64 pkd, .slice Ap np cp, .int .i64 plo, .int .i64 phi, .int .i64 pva], .agg #[.int .i64 qst, .string qk, .int .i64 qkd, .slice Aq nq cq, .int .i64 qlo, .int .i64 qhi, .int .i64 qva]] w fun e w' => e = .returned (.bool true) ∧ Below w.heap.size w w' := by
  have Hp := Lib.hid hp
  have Hq := Lib.hid hq
  have hp1 := Nat.le_trans hp.2.1 hp.2.2.1
  have hq1 := Nat.le_trans hq.2.1 hq.2.2.1
  clear hp hq
  go_enter Try.func13, Try.ntmps13
  go_wp2_with fail
  generalize hW0 : (((w).alloc (.cells #[.int .i64 act, .string xk, .slice Ax nx cx, .int .i64 xlo, .int .i64 xhi, .int .i64 xn] 77)).alloc (.cells #[.int .i64 pst, .string pk, .int .i64 pkd, .slice Ap np cp, .int .i64 plo, .int .i64 phi, .int .i64 pva] 38)).alloc (.cells #[.int .i64 qst, .string qk, .int .i64 qkd, .slice Aq nq cq, .int .i64 qlo, .int .i64 qhi, .int .i64 qva] 38) = W0
  have HS0_0 : Hid (Str W0 (w.heap.size) #[.int .i64 act, .string xk, .slice Ax nx cx, .int .i64 xlo, .int .i64 xhi, .int .i64 xn]) := Lib.hid (by rw [← hW0]; have := ((Str.new (w) #[.int .i64 act, .string xk, .slice Ax nx cx, .int .i64 xlo, .int .i64 xhi, .int .i64 xn] 77).alloc (.cells #[.int .i64 pst, .string pk, .int .i64 pkd, .slice Ap np cp, .int .i64 plo, .int .i64 phi, .int .i64 pva] 38)).alloc (.cells #[.int .i64 qst, .string qk, .int .i64 qkd, .slice Aq nq cq, .int .i64 qlo, .int .i64 qhi, .int .i64 qva] 38); simpa using this)
  have HS1_0 : Hid (Str W0 (w.heap.size + 1) #[.int .i64 pst, .string pk, .int .i64 pkd, .slice Ap np cp, .int .i64 plo, .int .i64 phi, .int .i64 pva]) := Lib.hid (by rw [← hW0]; have := (Str.new ((w).alloc (.cells #[.int .i64 act, .string xk, .slice Ax nx cx, .int .i64 xlo, .int .i64 xhi, .int .i64 xn] 77)) #[.int .i64 pst, .string pk, .int .i64 pkd, .slice Ap np cp, .int .i64 plo, .int .i64 phi, .int .i64 pva] 38).alloc (.cells #[.int .i64 qst, .string qk, .int .i64 qkd, .slice Aq nq cq, .int .i64 qlo, .int .i64 qhi, .int .i64 qva] 38); simpa using this)
  have HS2_0 : Hid (Str W0 (w.heap.size + 1 + 1) #[.int .i64 qst, .string qk, .int .i64 qkd, .slice Aq nq cq, .int .i64 qlo, .int .i64 qhi, .int .i64 qva]) := Lib.hid (by rw [← hW0]; have := Str.new (((w).alloc (.cells #[.int .i64 act, .string xk, .slice Ax nx cx, .int .i64 xlo, .int .i64 xhi, .int .i64 xn] 77)).alloc (.cells #[.int .i64 pst, .string pk, .int .i64 pkd, .slice Ap np cp, .int .i64 plo, .int .i64 phi, .int .i64 pva] 38)) #[.int .i64 qst, .string qk, .int .i64 qkd, .slice Aq nq cq, .int .i64 qlo, .int .i64 qhi, .int .i64 qva] 38; simpa using this)
  have HB_0 : Hid (Below w.heap.size w W0) := Lib.hid (by rw [← hW0]; exact balloc (balloc (balloc (bsame w) _) _) _)
  have hw_0 := HB_0.out.size
  clear hW0
  obtain ⟨f0_0_0, f0_0_1, f0_0_2, f0_0_3, f0_0_4, f0_0_5⟩ := str6 HS0_0.out
  have hl0_0 := HS0_0.out.lt
  obtain ⟨f1_0_0, f1_0_1, f1_0_2, f1_0_3, f1_0_4, f1_0_5, f1_0_6⟩ := str7 HS1_0.out
  have hl1_0 := HS1_0.out.lt
  obtain ⟨f2_0_0, f2_0_1, f2_0_2, f2_0_3, f2_0_4, f2_0_5, f2_0_6⟩ := str7 HS2_0.out
  have hl2_0 := HS2_0.out.lt
  have hf2_0 := fun j => HS2_0.out.frozen j
  refine (Live17.big_any Ap np cp _ pk _ _ _ _ _ hpk hp1).mono ?_
  rintro e W1 ⟨rfl, hb1⟩
  have HS0_1 := Lib.hid (HS0_0.out.next hb1)
  have HS1_1 := Lib.hid (HS1_0.out.next hb1)
  have HS2_1 := Lib.hid (HS2_0.out.next hb1)
  have HB_1 := Lib.hid (bstep HB_0.out hb1)
  have hw_1 := HB_1.out.size
  have hws_1 := (hb1).size
  clear f0_0_0 f0_0_1 f0_0_2 f0_0_3 f0_0_4 f0_0_5 HS0_0 f1_0_0 f1_0_1 f1_0_2 f1_0_3 f1_0_4 f1_0_5 f1_0_6 HS1_0 f2_0_0 f2_0_1 f2_0_2 f2_0_3 f2_0_4 f2_0_5 f2_0_6 HS2_0 hf2_0
  clear hb1
  obtain ⟨f0_1_0, f0_1_1, f0_1_2, f0_1_3, f0_1_4, f0_1_5⟩ := str6 HS0_1.out
  have hl0_1 := HS0_1.out.lt
  obtain ⟨f1_1_0, f1_1_1, f1_1_2, f1_1_3, f1_1_4, f1_1_5, f1_1_6⟩ := str7 HS1_1.out
  have hl1_1 := HS1_1.out.lt
  obtain ⟨f2_1_0, f2_1_1, f2_1_2, f2_1_3, f2_1_4, f2_1_5, f2_1_6⟩ := str7 HS2_1.out
  have hl2_1 := HS2_1.out.lt
  have hf2_1 := fun j => HS2_1.out.frozen j
  cases hbp : Live17.big pk np
  case true =>
    go_wp2_with fail
    refine (Live17.live_any _).mono ?_
    rintro e W2 ⟨rfl, hb2⟩
    have HS0_2 := Lib.hid (HS0_1.out.next hb2)
    have HS1_2 := Lib.hid (HS1_1.out.next hb2)
    have HS2_2 := Lib.hid (HS2_1.out.next hb2)
    have HB_2 := Lib.hid (bstep HB_1.out hb2)
    have hw_2 := HB_2.out.size
    have hws_2 := (hb2).size
    clear f0_1_0 f0_1_1 f0_1_2 f0_1_3 f0_1_4 f0_1_5 HS0_1 f1_1_0 f1_1_1 f1_1_2 f1_1_3 f1_1_4 f1_1_5 f1_1_6 HS1_1 f2_1_0 f2_1_1 f2_1_2 f2_1_3 f2_1_4 f2_1_5 f2_1_6 HS2_1 hf2_1
    clear hb2
    obtain ⟨f0_2_0, f0_2_1, f0_2_2, f0_2_3, f0_2_4, f0_2_5⟩ := str6 HS0_2.out
    have hl0_2 := HS0_2.out.lt
    obtain ⟨f1_2_0, f1_2_1, f1_2_2, f1_2_3, f1_2_4, f1_2_5, f1_2_6⟩ := str7 HS1_2.out
    have hl1_2 := HS1_2.out.lt
    obtain ⟨f2_2_0, f2_2_1, f2_2_2, f2_2_3, f2_2_4, f2_2_5, f2_2_6⟩ := str7 HS2_2.out
    have hl2_2 := HS2_2.out.lt
    have hf2_2 := fun j => HS2_2.out.frozen j
    go_wp2_with fail
    go_ret
    exact ⟨rfl, HB_2.out⟩
  have hp3 : np ≤ 300 := by simp [Live17.big] at hbp; omega
  clear hbp
  go_wp2_with fail
  refine (Live17.big_any Aq nq cq _ qk _ _ _ _ _ hqk hq1).mono ?_
  rintro e W2 ⟨rfl, hb2⟩
  have HS0_2 := Lib.hid (HS0_1.out.next hb2)
  have HS1_2 := Lib.hid (HS1_1.out.next hb2)
  have HS2_2 := Lib.hid (HS2_1.out.next hb2)
  have HB_2 := Lib.hid (bstep HB_1.out hb2)
  have hw_2 := HB_2.out.size
  have hws_2 := (hb2).size
  clear f0_1_0 f0_1_1 f0_1_2 f0_1_3 f0_1_4 f0_1_5 HS0_1 f1_1_0 f1_1_1 f1_1_2 f1_1_3 f1_1_4 f1_1_5 f1_1_6 HS1_1 f2_1_0 f2_1_1 f2_1_2 f2_1_3 f2_1_4 f2_1_5 f2_1_6 HS2_1 hf2_1
  clear hb2
  obtain ⟨f0_2_0, f0_2_1, f0_2_2, f0_2_3, f0_2_4, f0_2_5⟩ := str6 HS0_2.out
  have hl0_2 := HS0_2.out.lt
  obtain ⟨f1_2_0, f1_2_1, f1_2_2, f1_2_3, f1_2_4, f1_2_5, f1_2_6⟩ := str7 HS1_2.out
  have hl1_2 := HS1_2.out.lt
  obtain ⟨f2_2_0, f2_2_1, f2_2_2, f2_2_3, f2_2_4, f2_2_5, f2_2_6⟩ := str7 HS2_2.out
  have hl2_2 := HS2_2.out.lt
  have hf2_2 := fun j => HS2_2.out.frozen j
  cases hbq : Live17.big qk nq
  case true =>
    go_wp2_with fail
    refine (Live17.live_any _).mono ?_
    rintro e W3 ⟨rfl, hb3⟩
    have HS0_3 := Lib.hid (HS0_2.out.next hb3)
    have HS1_3 := Lib.hid (HS1_2.out.next hb3)
    have HS2_3 := Lib.hid (HS2_2.out.next hb3)
    have HB_3 := Lib.hid (bstep HB_2.out hb3)
    have hw_3 := HB_3.out.size
    have hws_3 := (hb3).size
    clear f0_2_0 f0_2_1 f0_2_2 f0_2_3 f0_2_4 f0_2_5 HS0_2 f1_2_0 f1_2_1 f1_2_2 f1_2_3 f1_2_4 f1_2_5 f1_2_6 HS1_2 f2_2_0 f2_2_1 f2_2_2 f2_2_3 f2_2_4 f2_2_5 f2_2_6 HS2_2 hf2_2
    clear hb3
    obtain ⟨f0_3_0, f0_3_1, f0_3_2, f0_3_3, f0_3_4, f0_3_5⟩ := str6 HS0_3.out
    have hl0_3 := HS0_3.out.lt
    obtain ⟨f1_3_0, f1_3_1, f1_3_2, f1_3_3, f1_3_4, f1_3_5, f1_3_6⟩ := str7 HS1_3.out
    have hl1_3 := HS1_3.out.lt
    obtain ⟨f2_3_0, f2_3_1, f2_3_2, f2_3_3, f2_3_4, f2_3_5, f2_3_6⟩ := str7 HS2_3.out
    have hl2_3 := HS2_3.out.lt
    have hf2_3 := fun j => HS2_3.out.frozen j
    go_wp2_with fail
    go_ret
    exact ⟨rfl, HB_3.out⟩
  have hq3 : nq ≤ 300 := by simp [Live17.big] at hbq; omega
  clear hbq
  have hxk1 := hxk
  unfold maxLen at hxk1
  by_cases hk1 : 300 < xk.size
  case pos =>
    go_wp2_with fail
    refine (Live17.live_any _).mono ?_
    rintro e W3 ⟨rfl, hb3⟩
    have HS0_3 := Lib.hid (HS0_2.out.next hb3)
    have HS1_3 := Lib.hid (HS1_2.out.next hb3)
    have HS2_3 := Lib.hid (HS2_2.out.next hb3)
    have HB_3 := Lib.hid (bstep HB_2.out hb3)
    have hw_3 := HB_3.out.size
    have hws_3 := (hb3).size
    clear f0_2_0 f0_2_1 f0_2_2 f0_2_3 f0_2_4 f0_2_5 HS0_2 f1_2_0 f1_2_1 f1_2_2 f1_2_3 f1_2_4 f1_2_5 f1_2_6 HS1_2 f2_2_0 f2_2_1 f2_2_2 f2_2_3 f2_2_4 f2_2_5 f2_2_6 HS2_2 hf2_2
    clear hb3
    obtain ⟨f0_3_0, f0_3_1, f0_3_2, f0_3_3, f0_3_4, f0_3_5⟩ := str6 HS0_3.out
    have hl0_3 := HS0_3.out.lt
    obtain ⟨f1_3_0, f1_3_1, f1_3_2, f1_3_3, f1_3_4, f1_3_5, f1_3_6⟩ := str7 HS1_3.out
    have hl1_3 := HS1_3.out.lt
    obtain ⟨f2_3_0, f2_3_1, f2_3_2, f2_3_3, f2_3_4, f2_3_5, f2_3_6⟩ := str7 HS2_3.out
    have hl2_3 := HS2_3.out.lt
    have hf2_3 := fun j => HS2_3.out.frozen j
    go_wp2_with fail
    go_ret
    exact ⟨rfl, HB_3.out⟩
  go_wp2_with fail
  have HO : Hid (∀ W, Below w.heap.size w W → Calls Try.prog 70 #[.agg #[.int .i64 act, .string xk, .slice Ax nx cx, .int .i64 xlo, .int .i64 xhi, .int .i64 xn], .agg #[.int .i64 pst, .string pk, .int .i64 pkd, .slice Ap np cp, .int .i64 plo, .int .i64 phi, .int .i64 pva], .agg #[.int .i64 qst, .string qk, .int .i64 qkd, .slice Aq nq cq, .int .i64 qlo, .int .i64 qhi, .int .i64 qva]] W (UndoW.GivesUndo W ⟨1, xk, ⟨2, qk, ⟨qkd, qda, qlo, qhi, qva⟩⟩, 0⟩)) := Lib.hid (fun W hbw => by have h := UndoW.of_any Ax nx cx act xk xda xlo xhi xn Ap np cp w.heap.size pst pk pkd pda plo phi pva Aq nq cq w.heap.size qst qk qkd qda qlo qhi qva W (Hp.out.below hbw) hbw.size (by omega) (Hq.out.below hbw) hbw.size (by omega); rw [UndoP.of_then _ _ _ (by dsimp only; omega) (fun h => h.1.elim hs1 hs2)] at h; exact h)
  have HA : Hid (∀ (A : Option Addr) (n c : Nat) W, Bytes W W.heap.size A n c qda → n ≤ 300 → Below w.heap.size w W → Calls Try.prog 67 #[.agg #[.int .i64 1, .string xk, .int .i64 2, .string qk, .int .i64 qkd, .slice A n c, .int .i64 qlo, .int .i64 qhi, .int .i64 qva, .int .i64 0], .agg #[.int .i64 qst, .string qk, .int .i64 qkd, .slice Aq nq cq, .int .i64 qlo, .int .i64 qhi, .int .i64 qva]] W (SlotGet.GotItem W (⟨2, qk, ⟨qkd, qda, qlo, qhi, qva⟩⟩, 0))) := Lib.hid (fun A n c W hy hn hbw => by have h := UndoW.apply_any 1 xk 0 A n c W.heap.size 2 qk qkd qda qlo qhi qva Aq nq cq w.heap.size qst qk qkd qda qlo qhi qva W hy (Nat.le_refl _) (by omega) (Hq.out.below hbw) hbw.size (by omega) (by unfold In64; omega) hqv hql hqh; rw [UndoP.apply_item _ _ rfl] at h; exact h)
  have HLN := Lib.hid Hq.out.len
  refine Reg.wp_region_word (R := (Reg.boxW W2.heap.size)) (W := W2) (Reg.OneJ W2.heap.size 9 10 7 (fun A n c => #[.int .i64 2, .string qk, .int .i64 qkd, .slice A n c, .int .i64 qlo, .int .i64 qhi, .int .i64 qva]) qda) [Reg.eqv (.agg #[.int .i64 act, .string xk, .slice Ax nx cx, .int .i64 xlo, .int .i64 xhi, .int .i64 xn]), Reg.eqv (.agg #[.int .i64 pst, .string pk, .int .i64 pkd, .slice Ap np cp, .int .i64 plo, .int .i64 phi, .int .i64 pva]), Reg.eqv (.agg #[.int .i64 qst, .string qk, .int .i64 qkd, .slice Aq nq cq, .int .i64 qlo, .int .i64 qhi, .int .i64 qva]), Reg.bytesX (fun A n c => .agg #[.int .i64 1, .string xk, .int .i64 2, .string qk, .int .i64 qkd, .slice A n c, .int .i64 qlo, .int .i64 qhi, .int .i64 qva, .int .i64 0]) qda, Reg.eqv (.agg #[.int .i64 qst, .string qk, .int .i64 qkd, .slice Aq nq cq, .int .i64 qlo, .int .i64 qhi, .int .i64 qva]), Reg.bytesX (fun A n c => .tuple #[.agg #[.int .i64 2, .string qk, .int .i64 qkd, .slice A n c, .int .i64 qlo, .int .i64 qhi, .int .i64 qva], .int .i64 0]) qda, Reg.bytesX (fun A n c => .tuple #[.agg #[.int .i64 2, .string qk, .int .i64 qkd, .slice A n c, .int .i64 qlo, .int .i64 qhi, .int .i64 qva], .int .i64 0]) qda, Reg.bytesX (fun A n c => .agg #[.int .i64 2, .string qk, .int .i64 qkd, .slice A n c, .int .i64 qlo, .int .i64 qhi, .int .i64 qva]) qda, Reg.eqv (.int .i64 0), Reg.boxX 7, Reg.any, Reg.eqv (.int .i64 0)] 72 [[(3, none)], [(4, none)], [(5, none)], [(33, some 0), (34, some 1), (35, some 2)], [(5, none)], [(36, some 3), (37, some 4)], [(38, some 5)], [(32, some 6)], [(32, some 6)], [], [(7, some 9), (39, some 7)], [(40, some 8)]] rfl (by kernel_rfl) (by kernel_rfl) (fun _ _ h => Reg.one_zero h) (by kernel_rfl) ?_ [some 33, some 34, some 35, some 36, some 37, some 38, some 32, some 39, some 40, some 7, none, some 8] (by kernel_rfl) ?_
  · refine ⟨?_, ?_, ?_, ?_, ?_, ?_, ?_, ?_, ?_, ?_, ?_, ?_, trivial⟩
    · refine Reg.oblX_ord rfl rfl (by decide) (by decide) ?_
      intro ax wx hx hs
      obtain ⟨e3, -⟩ := hs
      have g3 := Reg.ev (v := .pointer (some ⟨w.heap.size, 0, none⟩)) e3
      obtain ⟨hc, -⟩ := bcell hx.1
      exact (Reg.wp_eqvB (Option.some_ne_none _) (by go_simp) rfl)
    · refine Reg.oblX_ord rfl rfl (by decide) (by decide) ?_
      intro ax wx hx hs
      obtain ⟨e4, -⟩ := hs
      have g4 := Reg.ev (v := .pointer (some ⟨w.heap.size + 1, 0, none⟩)) e4
      obtain ⟨hc, -⟩ := bcell hx.1
      exact (Reg.wp_eqvB (Option.some_ne_none _) (by go_simp) rfl)
    · refine Reg.oblX_ord rfl rfl (by decide) (by decide) ?_
      intro ax wx hx hs
      obtain ⟨e5, -⟩ := hs
      have g5 := Reg.ev (v := .pointer (some ⟨w.heap.size + 1 + 1, 0, none⟩)) e5
      obtain ⟨hc, -⟩ := bcell hx.1
      exact (Reg.wp_eqvB (Option.some_ne_none _) (by go_simp) rfl)
    · refine Reg.oblX_ord rfl rfl (by decide) (by decide) ?_
      intro ax wx hx hs
      obtain ⟨e33, e34, e35, -⟩ := hs
      have g33 := Reg.ev (v := .agg #[.int .i64 act, .string xk, .slice Ax nx cx, .int .i64 xlo, .int .i64 xhi, .int .i64 xn]) e33
      have g34 := Reg.ev (v := .agg #[.int .i64 pst, .string pk, .int .i64 pkd, .slice Ap np cp, .int .i64 plo, .int .i64 phi, .int .i64 pva]) e34
      have g35 := Reg.ev (v := .agg #[.int .i64 qst, .string qk, .int .i64 qkd, .slice Aq nq cq, .int .i64 qlo, .int .i64 qhi, .int .i64 qva]) e35
      have hx' := hx.1
      go_simp
      refine (HO.out _ (bstep HB_2.out hx')).mono ?_
      rintro e wy ⟨A1, n1, c1, rfl, hy1, hby⟩
      exact Reg.doneB (Option.some_ne_none _) ⟨A1, n1, c1, rfl, hy1⟩ hby
    · refine Reg.oblX_ord rfl rfl (by decide) (by decide) ?_
      intro ax wx hx hs
      obtain ⟨e5, -⟩ := hs
      have g5 := Reg.ev (v := .pointer (some ⟨w.heap.size + 1 + 1, 0, none⟩)) e5
      obtain ⟨hc, -⟩ := bcell hx.1
      exact (Reg.wp_eqvB (Option.some_ne_none _) (by go_simp) rfl)
    · refine Reg.oblX_ord rfl rfl (by decide) (by decide) ?_
      intro ax wx hx hs
      obtain ⟨e36, e37, -⟩ := hs
      have g37 := Reg.ev (v := .agg #[.int .i64 qst, .string qk, .int .i64 qkd, .slice Aq nq cq, .int .i64 qlo, .int .i64 qhi, .int .i64 qva]) e37
      have hx' := hx.1
      obtain ⟨A1, n1, c1, e36, hy1⟩ := e36
      have g36 := Reg.ev e36
      have hn1 : n1 ≤ 300 := by rw [← hy1.len, HLN.out]; omega
      go_simp
      refine (HA.out _ _ _ _ hy1 hn1 (bstep HB_2.out hx')).mono ?_
      rintro e wy ⟨A2, n2, c2, rfl, hy2, hby⟩
      exact Reg.doneB (Option.some_ne_none _) ⟨A2, n2, c2, rfl, hy2⟩ hby
    · refine Reg.oblX_ord rfl rfl (by decide) (by decide) ?_
      intro ax wx hx hs
      obtain ⟨e38, -⟩ := hs
      obtain ⟨A1, n1, c1, e38, hy1⟩ := e38
      have g38 := Reg.ev e38
      exact Reg.wp_eqvB (Option.some_ne_none _) (by go_simp) ⟨A1, n1, c1, rfl, hy1⟩
    · refine Reg.oblX_ord rfl rfl (by decide) (by decide) ?_
      intro ax wx hx hs
      obtain ⟨e32, -⟩ := hs
      obtain ⟨A1, n1, c1, e32, hy1⟩ := e32
      have g32 := Reg.ev e32
      exact Reg.wp_eqvB (Option.some_ne_none _) (by go_simp) ⟨A1, n1, c1, rfl, hy1⟩
    · refine Reg.oblX_ord rfl rfl (by decide) (by decide) ?_
      intro ax wx hx hs
      obtain ⟨e32, -⟩ := hs
      obtain ⟨A1, n1, c1, e32, hy1⟩ := e32
      have g32 := Reg.ev e32
      exact Reg.wp_eqvB (Option.some_ne_none _) (by go_simp) rfl
    · refine Reg.oblX_alloc rfl rfl rfl (by decide) ?_
      intro ax wx hx
      go_simp
      exact Reg.doneB (Option.some_ne_none _) ⟨wx.heap.size, _, rfl, hx.1.size, Str.new wx _ _, rfl, rfl⟩ (balloc (bsame wx) _)
    · refine Reg.oblX_store rfl rfl rfl (by kernel_rfl) (by show 10 < 12; decide) rfl (fun _ _ => trivial) ?_
      intro ax wx hx hs
      obtain ⟨e7, e39, -⟩ := hs
      obtain ⟨A1, n1, c1, e39, hy1⟩ := e39
      obtain ⟨g, cs, e7, hgN, hS, hnu, hz⟩ := e7
      have g39 := Reg.ev e39
      have g7 := Reg.ev e7
      obtain ⟨k0, k1, k2, k3, k4, k5, k6, rfl⟩ := arr7 cs hz
      obtain ⟨y0, y1, y2, y3, y4, y5, y6⟩ := str7 hS
      have hfz := fun j => hS.frozen j
      have hgr : wx.grownBy _ (some g) := grown_set (grown_set (grown_set (grown_set (grown_set (grown_set (grown_set (grown_refl wx g) 0 (.int .i64 2)) 1 (.string qk)) 2 (.int .i64 qkd)) 3 (.slice A1 n1 c1)) 4 (.int .i64 qlo)) 5 (.int .i64 qhi)) 6 (.int .i64 qva)
      have hst := fun t h => set7 (w := wx) (g := g) (c0 := k0) (c1 := k1) (c2 := k2) (c3 := k3) (c4 := k4) (c5 := k5) (c6 := k6) (t := t) (.int .i64 2) (.string qk) (.int .i64 qkd) (.slice A1 n1 c1) (.int .i64 qlo) (.int .i64 qhi) (.int .i64 qva) h
      have hrl := Reg.box_set (N := W2.heap.size) hS hnu hgN hgr hst rfl rfl
      have HRL := Lib.hid hrl
      have HST := Lib.hid hst
      clear hgr hst hrl
      go_simp
      obtain ⟨tS, hS'⟩ := hS
      exact ⟨⟨rfl, HRL.out, g, A1, n1, c1, e7, hgN, ⟨tS, HST.out tS hS'⟩, Reg.bytes_boxS hy1 HRL.out⟩⟩
    · refine Reg.oblX_ord rfl rfl (by decide) (by decide) ?_
      intro ax wx hx hs
      obtain ⟨e40, -⟩ := hs
      have g40 := Reg.ev (v := .int .i64 0) e40
      exact (Reg.wp_eqvB (Option.some_ne_none _) (by go_simp) rfl)
  · intro W3 listed hwf hall
    simp only [Reg.Fin]
    rintro _ rfl _ rfl _ rfl v36 h36 _ rfl v38 h38 v32 h32 v39 h39 _ rfl v7 h7 vn10 hn10 _ rfl
    intro hJ
    obtain ⟨-, gB, AB, nB, cB, eB, hgB, hSB, hYB⟩ := hJ (hall 10 (by show 10 < 12; decide))
    have ecB : v7 = .pointer (some ⟨gB, 0, none⟩) := by simpa [Act.eval, Act.put] using eB
    clear hJ hall eB h7
    subst ecB
    go_simp
    have hwf1 : Below W2.heap.size W2 W3 := hwf.1
    have HSB := Lib.hid hSB
    have HYB := Lib.hid hYB
    clear hwf hSB hYB h36 h38 h32 h39
    have HS0_3 := Lib.hid (HS0_2.out.next hwf1)
    have HS1_3 := Lib.hid (HS1_2.out.next hwf1)
    have HS2_3 := Lib.hid (HS2_2.out.next hwf1)
    have HB_3 := Lib.hid (bstep HB_2.out hwf1)
    have hw_3 := HB_3.out.size
    have hws_3 := (hwf1).size
    clear f0_2_0 f0_2_1 f0_2_2 f0_2_3 f0_2_4 f0_2_5 HS0_2 f1_2_0 f1_2_1 f1_2_2 f1_2_3 f1_2_4 f1_2_5 f1_2_6 HS1_2 f2_2_0 f2_2_1 f2_2_2 f2_2_3 f2_2_4 f2_2_5 f2_2_6 HS2_2 hf2_2
    clear hwf1
    obtain ⟨f0_3_0, f0_3_1, f0_3_2, f0_3_3, f0_3_4, f0_3_5⟩ := str6 HS0_3.out
    have hl0_3 := HS0_3.out.lt
    obtain ⟨f1_3_0, f1_3_1, f1_3_2, f1_3_3, f1_3_4, f1_3_5, f1_3_6⟩ := str7 HS1_3.out
    have hl1_3 := HS1_3.out.lt
    obtain ⟨f2_3_0, f2_3_1, f2_3_2, f2_3_3, f2_3_4, f2_3_5, f2_3_6⟩ := str7 HS2_3.out
    have hl2_3 := HS2_3.out.lt
    have hf2_3 := fun j => HS2_3.out.frozen j
    have HS3_3 := HSB
    obtain ⟨f3_3_0, f3_3_1, f3_3_2, f3_3_3, f3_3_4, f3_3_5, f3_3_6⟩ := str7 HS3_3.out
    have hl3_3 := HS3_3.out.lt
    have HYy_3 := Lib.hid (HYB.out)
    clear HYB HSB
    go_wp2_with fail
    refine (Live17.code_any _ _).mono ?_
    rintro e w_ ⟨rfl, rfl⟩
    go_wp2_with fail
    generalize hW4 : (W3).setCell ⟨w.heap.size + 1 + 1, 0, none⟩ (.int .i64 2) = W4
    have HS0_4 : Hid (Str W4 (w.heap.size) #[.int .i64 act, .string xk, .slice Ax nx cx, .int .i64 xlo, .int .i64 xhi, .int .i64 xn]) := Lib.hid (by rw [← hW4]; exact (HS0_3.out).other 0 _ (by omega))
    have HS1_4 : Hid (Str W4 (w.heap.size + 1) #[.int .i64 pst, .string pk, .int .i64 pkd, .slice Ap np cp, .int .i64 plo, .int .i64 phi, .int .i64 pva]) := Lib.hid (by rw [← hW4]; exact (HS1_3.out).other 0 _ (by omega))
    have HS2_4 : Hid (Str W4 (w.heap.size + 1 + 1) #[.int .i64 2, .string qk, .int .i64 qkd, .slice Aq nq cq, .int .i64 qlo, .int .i64 qhi, .int .i64 qva]) := Lib.hid (by rw [← hW4]; have := (HS2_3.out).set 0 (.int .i64 2); simpa using this)
    have HS3_4 : Hid (Str W4 (gB) #[.int .i64 2, .string qk, .int .i64 qkd, .slice AB nB cB, .int .i64 qlo, .int .i64 qhi, .int .i64 qva]) := Lib.hid (by rw [← hW4]; exact (HS3_3.out).other 0 _ (by omega))
    have hgr4 : W3.grownBy W4 (some (w.heap.size + 1 + 1)) := by rw [← hW4]; exact grown_set (grown_refl W3 (w.heap.size + 1 + 1)) 0 (.int .i64 2)
    have HB_4 := Lib.hid (below_grown HB_3.out hgr4 (by omega))
    have hw_4 := HB_4.out.size
    have hws_4 := hgr4.size
    have HYy_4 := Lib.hid ((Bytes.grown HYy_3.out (Nat.le_refl _) HS2_3.out rfl hgr4).more hws_4)
    clear HYy_3
    clear hW4
    clear f0_3_0 f0_3_1 f0_3_2 f0_3_3 f0_3_4 f0_3_5 HS0_3 f1_3_0 f1_3_1 f1_3_2 f1_3_3 f1_3_4 f1_3_5 f1_3_6 HS1_3 f2_3_0 f2_3_1 f2_3_2 f2_3_3 f2_3_4 f2_3_5 f2_3_6 HS2_3 hf2_3 f3_3_0 f3_3_1 f3_3_2 f3_3_3 f3_3_4 f3_3_5 f3_3_6 HS3_3
    clear hgr4
    obtain ⟨f0_4_0, f0_4_1, f0_4_2, f0_4_3, f0_4_4, f0_4_5⟩ := str6 HS0_4.out
    have hl0_4 := HS0_4.out.lt
    obtain ⟨f1_4_0, f1_4_1, f1_4_2, f1_4_3, f1_4_4, f1_4_5, f1_4_6⟩ := str7 HS1_4.out
    have hl1_4 := HS1_4.out.lt
    obtain ⟨f2_4_0, f2_4_1, f2_4_2, f2_4_3, f2_4_4, f2_4_5, f2_4_6⟩ := str7 HS2_4.out
    have hl2_4 := HS2_4.out.lt
    have hf2_4 := fun j => HS2_4.out.frozen j
    obtain ⟨f3_4_0, f3_4_1, f3_4_2, f3_4_3, f3_4_4, f3_4_5, f3_4_6⟩ := str7 HS3_4.out
    have hl3_4 := HS3_4.out.lt
    refine (SlotW.refSame_any AB Aq nB cB nq cq W4.heap.size w.heap.size ⟨2, qk, ⟨qkd, qda, qlo, qhi, qva⟩⟩ ⟨2, qk, ⟨qkd, qda, qlo, qhi, qva⟩⟩ _ HYy_4.out (Hq.out.below HB_4.out) (Nat.le_refl _) HB_4.out.size).mono ?_
    rintro e W5 ⟨rfl, hb5⟩
    rw [SlotP.same_self]
    have HS0_5 := Lib.hid (HS0_4.out.next hb5)
    have HS1_5 := Lib.hid (HS1_4.out.next hb5)
    have HS2_5 := Lib.hid (HS2_4.out.next hb5)
    have HS3_5 := Lib.hid (HS3_4.out.next hb5)
    have HB_5 := Lib.hid (bstep HB_4.out hb5)
    have hw_5 := HB_5.out.size
    have hws_5 := (hb5).size
    have HYy_5 := Lib.hid (HYy_4.out.next hb5)
    clear HYy_4
    clear f0_4_0 f0_4_1 f0_4_2 f0_4_3 f0_4_4 f0_4_5 HS0_4 f1_4_0 f1_4_1 f1_4_2 f1_4_3 f1_4_4 f1_4_5 f1_4_6 HS1_4 f2_4_0 f2_4_1 f2_4_2 f2_4_3 f2_4_4 f2_4_5 f2_4_6 HS2_4 hf2_4 f3_4_0 f3_4_1 f3_4_2 f3_4_3 f3_4_4 f3_4_5 f3_4_6 HS3_4
    clear hb5
    obtain ⟨f0_5_0, f0_5_1, f0_5_2, f0_5_3, f0_5_4, f0_5_5⟩ := str6 HS0_5.out
    have hl0_5 := HS0_5.out.lt
    obtain ⟨f1_5_0, f1_5_1, f1_5_2, f1_5_3, f1_5_4, f1_5_5, f1_5_6⟩ := str7 HS1_5.out
    have hl1_5 := HS1_5.out.lt
    obtain ⟨f2_5_0, f2_5_1, f2_5_2, f2_5_3, f2_5_4, f2_5_5, f2_5_6⟩ := str7 HS2_5.out
    have hl2_5 := HS2_5.out.lt
    have hf2_5 := fun j => HS2_5.out.frozen j
    obtain ⟨f3_5_0, f3_5_1, f3_5_2, f3_5_3, f3_5_4, f3_5_5, f3_5_6⟩ := str7 HS3_5.out
    have hl3_5 := HS3_5.out.lt
    go_wp2_with fail
    refine (Live17.live_any _).mono ?_
    rintro e W6 ⟨rfl, hb6⟩
    have HS0_6 := Lib.hid (HS0_5.out.next hb6)
    have HS1_6 := Lib.hid (HS1_5.out.next hb6)
    have HS2_6 := Lib.hid (HS2_5.out.next hb6)
    have HS3_6 := Lib.hid (HS3_5.out.next hb6)
    have HB_6 := Lib.hid (bstep HB_5.out hb6)
    have hw_6 := HB_6.out.size
    have hws_6 := (hb6).size
    have HYy_6 := Lib.hid (HYy_5.out.next hb6)
    clear HYy_5
    clear f0_5_0 f0_5_1 f0_5_2 f0_5_3 f0_5_4 f0_5_5 HS0_5 f1_5_0 f1_5_1 f1_5_2 f1_5_3 f1_5_4 f1_5_5 f1_5_6 HS1_5 f2_5_0 f2_5_1 f2_5_2 f2_5_3 f2_5_4 f2_5_5 f2_5_6 HS2_5 hf2_5 f3_5_0 f3_5_1 f3_5_2 f3_5_3 f3_5_4 f3_5_5 f3_5_6 HS3_5
    clear hb6
    obtain ⟨f0_6_0, f0_6_1, f0_6_2, f0_6_3, f0_6_4, f0_6_5⟩ := str6 HS0_6.out
    have hl0_6 := HS0_6.out.lt
    obtain ⟨f1_6_0, f1_6_1, f1_6_2, f1_6_3, f1_6_4, f1_6_5, f1_6_6⟩ := str7 HS1_6.out
    have hl1_6 := HS1_6.out.lt
    obtain ⟨f2_6_0, f2_6_1, f2_6_2, f2_6_3, f2_6_4, f2_6_5, f2_6_6⟩ := str7 HS2_6.out
    have hl2_6 := HS2_6.out.lt
    have hf2_6 := fun j => HS2_6.out.frozen j
    obtain ⟨f3_6_0, f3_6_1, f3_6_2, f3_6_3, f3_6_4, f3_6_5, f3_6_6⟩ := str7 HS3_6.out
    have hl3_6 := HS3_6.out.lt
    go_wp2_with fail
    go_ret
    exact ⟨rfl, HB_6.out⟩

set_option maxRecDepth 100000 in
set_option maxHeartbeats 4000000 in
theorem way_low (Ax : Option Addr) (nx cx : Nat) (act : Int) (xk : ByteArray) (xda : List UInt8) (xlo xhi xn : Int) (Ap : Option Addr) (np cp : Nat) (pst : Int) (pk : ByteArray) (pkd : Int) (pda : List UInt8) (plo phi pva : Int) (Aq : Option Addr) (nq cq : Nat) (qst : Int) (qk : ByteArray) (qkd : Int) (qda : List UInt8) (qlo qhi qva : Int) (w : World)
    (hp : Bytes w w.heap.size Ap np cp pda) (hpk : pk.size ≤ maxLen) (hq : Bytes w w.heap.size Aq nq cq qda) (hqk : qk.size ≤ maxLen) (hxk : xk.size ≤ maxLen) (hqv : In64 qva) (hql : In64 qlo) (hqh : In64 qhi) (ha : act < 1) :
    Calls Try.prog 13 #[.agg #[.int .i64 act, .string xk, .slice Ax nx cx, .int .i64 xlo, .int .i64 xhi, .int .i64 xn], .agg #[.int .i64 pst, .string pk, .int .i64 pkd, .slice Ap np cp, .int .i64 plo, .int .i64 phi, .int .i64 pva], .agg #[.int .i64 qst, .string qk, .int .i64 qkd, .slice Aq nq cq, .int .i64 qlo, .int .i64 qhi, .int .i64 qva]] w fun e w' => e = .returned (.bool true) ∧ Below w.heap.size w w' := by
  have Hp := Lib.hid hp
  have Hq := Lib.hid hq
  have hp1 := Nat.le_trans hp.2.1 hp.2.2.1
  have hq1 := Nat.le_trans hq.2.1 hq.2.2.1
  clear hp hq
  go_enter Try.func13, Try.ntmps13
  go_wp2_with fail
  generalize hW0 : (((w).alloc (.cells #[.int .i64 act, .string xk, .slice Ax nx cx, .int .i64 xlo, .int .i64 xhi, .int .i64 xn] 77)).alloc (.cells #[.int .i64 pst, .string pk, .int .i64 pkd, .slice Ap np cp, .int .i64 plo, .int .i64 phi, .int .i64 pva] 38)).alloc (.cells #[.int .i64 qst, .string qk, .int .i64 qkd, .slice Aq nq cq, .int .i64 qlo, .int .i64 qhi, .int .i64 qva] 38) = W0
  have HS0_0 : Hid (Str W0 (w.heap.size) #[.int .i64 act, .string xk, .slice Ax nx cx, .int .i64 xlo, .int .i64 xhi, .int .i64 xn]) := Lib.hid (by rw [← hW0]; have := ((Str.new (w) #[.int .i64 act, .string xk, .slice Ax nx cx, .int .i64 xlo, .int .i64 xhi, .int .i64 xn] 77).alloc (.cells #[.int .i64 pst, .string pk, .int .i64 pkd, .slice Ap np cp, .int .i64 plo, .int .i64 phi, .int .i64 pva] 38)).alloc (.cells #[.int .i64 qst, .string qk, .int .i64 qkd, .slice Aq nq cq, .int .i64 qlo, .int .i64 qhi, .int .i64 qva] 38); simpa using this)
  have HS1_0 : Hid (Str W0 (w.heap.size + 1) #[.int .i64 pst, .string pk, .int .i64 pkd, .slice Ap np cp, .int .i64 plo, .int .i64 phi, .int .i64 pva]) := Lib.hid (by rw [← hW0]; have := (Str.new ((w).alloc (.cells #[.int .i64 act, .string xk, .slice Ax nx cx, .int .i64 xlo, .int .i64 xhi, .int .i64 xn] 77)) #[.int .i64 pst, .string pk, .int .i64 pkd, .slice Ap np cp, .int .i64 plo, .int .i64 phi, .int .i64 pva] 38).alloc (.cells #[.int .i64 qst, .string qk, .int .i64 qkd, .slice Aq nq cq, .int .i64 qlo, .int .i64 qhi, .int .i64 qva] 38); simpa using this)
  have HS2_0 : Hid (Str W0 (w.heap.size + 1 + 1) #[.int .i64 qst, .string qk, .int .i64 qkd, .slice Aq nq cq, .int .i64 qlo, .int .i64 qhi, .int .i64 qva]) := Lib.hid (by rw [← hW0]; have := Str.new (((w).alloc (.cells #[.int .i64 act, .string xk, .slice Ax nx cx, .int .i64 xlo, .int .i64 xhi, .int .i64 xn] 77)).alloc (.cells #[.int .i64 pst, .string pk, .int .i64 pkd, .slice Ap np cp, .int .i64 plo, .int .i64 phi, .int .i64 pva] 38)) #[.int .i64 qst, .string qk, .int .i64 qkd, .slice Aq nq cq, .int .i64 qlo, .int .i64 qhi, .int .i64 qva] 38; simpa using this)
  have HB_0 : Hid (Below w.heap.size w W0) := Lib.hid (by rw [← hW0]; exact balloc (balloc (balloc (bsame w) _) _) _)
  have hw_0 := HB_0.out.size
  clear hW0
  obtain ⟨f0_0_0, f0_0_1, f0_0_2, f0_0_3, f0_0_4, f0_0_5⟩ := str6 HS0_0.out
  have hl0_0 := HS0_0.out.lt
  obtain ⟨f1_0_0, f1_0_1, f1_0_2, f1_0_3, f1_0_4, f1_0_5, f1_0_6⟩ := str7 HS1_0.out
  have hl1_0 := HS1_0.out.lt
  obtain ⟨f2_0_0, f2_0_1, f2_0_2, f2_0_3, f2_0_4, f2_0_5, f2_0_6⟩ := str7 HS2_0.out
  have hl2_0 := HS2_0.out.lt
  have hf2_0 := fun j => HS2_0.out.frozen j
  refine (Live17.big_any Ap np cp _ pk _ _ _ _ _ hpk hp1).mono ?_
  rintro e W1 ⟨rfl, hb1⟩
  have HS0_1 := Lib.hid (HS0_0.out.next hb1)
  have HS1_1 := Lib.hid (HS1_0.out.next hb1)
  have HS2_1 := Lib.hid (HS2_0.out.next hb1)
  have HB_1 := Lib.hid (bstep HB_0.out hb1)
  have hw_1 := HB_1.out.size
  have hws_1 := (hb1).size
  clear f0_0_0 f0_0_1 f0_0_2 f0_0_3 f0_0_4 f0_0_5 HS0_0 f1_0_0 f1_0_1 f1_0_2 f1_0_3 f1_0_4 f1_0_5 f1_0_6 HS1_0 f2_0_0 f2_0_1 f2_0_2 f2_0_3 f2_0_4 f2_0_5 f2_0_6 HS2_0 hf2_0
  clear hb1
  obtain ⟨f0_1_0, f0_1_1, f0_1_2, f0_1_3, f0_1_4, f0_1_5⟩ := str6 HS0_1.out
  have hl0_1 := HS0_1.out.lt
  obtain ⟨f1_1_0, f1_1_1, f1_1_2, f1_1_3, f1_1_4, f1_1_5, f1_1_6⟩ := str7 HS1_1.out
  have hl1_1 := HS1_1.out.lt
  obtain ⟨f2_1_0, f2_1_1, f2_1_2, f2_1_3, f2_1_4, f2_1_5, f2_1_6⟩ := str7 HS2_1.out
  have hl2_1 := HS2_1.out.lt
  have hf2_1 := fun j => HS2_1.out.frozen j
  cases hbp : Live17.big pk np
  case true =>
    go_wp2_with fail
    refine (Live17.live_any _).mono ?_
    rintro e W2 ⟨rfl, hb2⟩
    have HS0_2 := Lib.hid (HS0_1.out.next hb2)
    have HS1_2 := Lib.hid (HS1_1.out.next hb2)
    have HS2_2 := Lib.hid (HS2_1.out.next hb2)
    have HB_2 := Lib.hid (bstep HB_1.out hb2)
    have hw_2 := HB_2.out.size
    have hws_2 := (hb2).size
    clear f0_1_0 f0_1_1 f0_1_2 f0_1_3 f0_1_4 f0_1_5 HS0_1 f1_1_0 f1_1_1 f1_1_2 f1_1_3 f1_1_4 f1_1_5 f1_1_6 HS1_1 f2_1_0 f2_1_1 f2_1_2 f2_1_3 f2_1_4 f2_1_5 f2_1_6 HS2_1 hf2_1
    clear hb2
    obtain ⟨f0_2_0, f0_2_1, f0_2_2, f0_2_3, f0_2_4, f0_2_5⟩ := str6 HS0_2.out
    have hl0_2 := HS0_2.out.lt
    obtain ⟨f1_2_0, f1_2_1, f1_2_2, f1_2_3, f1_2_4, f1_2_5, f1_2_6⟩ := str7 HS1_2.out
    have hl1_2 := HS1_2.out.lt
    obtain ⟨f2_2_0, f2_2_1, f2_2_2, f2_2_3, f2_2_4, f2_2_5, f2_2_6⟩ := str7 HS2_2.out
    have hl2_2 := HS2_2.out.lt
    have hf2_2 := fun j => HS2_2.out.frozen j
    go_wp2_with fail
    go_ret
    exact ⟨rfl, HB_2.out⟩
  have hp3 : np ≤ 300 := by simp [Live17.big] at hbp; omega
  clear hbp
  go_wp2_with fail
  refine (Live17.big_any Aq nq cq _ qk _ _ _ _ _ hqk hq1).mono ?_
  rintro e W2 ⟨rfl, hb2⟩
  have HS0_2 := Lib.hid (HS0_1.out.next hb2)
  have HS1_2 := Lib.hid (HS1_1.out.next hb2)
  have HS2_2 := Lib.hid (HS2_1.out.next hb2)
  have HB_2 := Lib.hid (bstep HB_1.out hb2)
  have hw_2 := HB_2.out.size
  have hws_2 := (hb2).size
  clear f0_1_0 f0_1_1 f0_1_2 f0_1_3 f0_1_4 f0_1_5 HS0_1 f1_1_0 f1_1_1 f1_1_2 f1_1_3 f1_1_4 f1_1_5 f1_1_6 HS1_1 f2_1_0 f2_1_1 f2_1_2 f2_1_3 f2_1_4 f2_1_5 f2_1_6 HS2_1 hf2_1
  clear hb2
  obtain ⟨f0_2_0, f0_2_1, f0_2_2, f0_2_3, f0_2_4, f0_2_5⟩ := str6 HS0_2.out
  have hl0_2 := HS0_2.out.lt
  obtain ⟨f1_2_0, f1_2_1, f1_2_2, f1_2_3, f1_2_4, f1_2_5, f1_2_6⟩ := str7 HS1_2.out
  have hl1_2 := HS1_2.out.lt
  obtain ⟨f2_2_0, f2_2_1, f2_2_2, f2_2_3, f2_2_4, f2_2_5, f2_2_6⟩ := str7 HS2_2.out
  have hl2_2 := HS2_2.out.lt
  have hf2_2 := fun j => HS2_2.out.frozen j
  cases hbq : Live17.big qk nq
  case true =>
    go_wp2_with fail
    refine (Live17.live_any _).mono ?_
    rintro e W3 ⟨rfl, hb3⟩
    have HS0_3 := Lib.hid (HS0_2.out.next hb3)
    have HS1_3 := Lib.hid (HS1_2.out.next hb3)
    have HS2_3 := Lib.hid (HS2_2.out.next hb3)
    have HB_3 := Lib.hid (bstep HB_2.out hb3)
    have hw_3 := HB_3.out.size
    have hws_3 := (hb3).size
    clear f0_2_0 f0_2_1 f0_2_2 f0_2_3 f0_2_4 f0_2_5 HS0_2 f1_2_0 f1_2_1 f1_2_2 f1_2_3 f1_2_4 f1_2_5 f1_2_6 HS1_2 f2_2_0 f2_2_1 f2_2_2 f2_2_3 f2_2_4 f2_2_5 f2_2_6 HS2_2 hf2_2
    clear hb3
    obtain ⟨f0_3_0, f0_3_1, f0_3_2, f0_3_3, f0_3_4, f0_3_5⟩ := str6 HS0_3.out
    have hl0_3 := HS0_3.out.lt
    obtain ⟨f1_3_0, f1_3_1, f1_3_2, f1_3_3, f1_3_4, f1_3_5, f1_3_6⟩ := str7 HS1_3.out
    have hl1_3 := HS1_3.out.lt
    obtain ⟨f2_3_0, f2_3_1, f2_3_2, f2_3_3, f2_3_4, f2_3_5, f2_3_6⟩ := str7 HS2_3.out
    have hl2_3 := HS2_3.out.lt
    have hf2_3 := fun j => HS2_3.out.frozen j
    go_wp2_with fail
    go_ret
    exact ⟨rfl, HB_3.out⟩
  have hq3 : nq ≤ 300 := by simp [Live17.big] at hbq; omega
  clear hbq
  have hxk1 := hxk
  unfold maxLen at hxk1
  by_cases hk1 : 300 < xk.size
  case pos =>
    go_wp2_with fail
    refine (Live17.live_any _).mono ?_
    rintro e W3 ⟨rfl, hb3⟩
    have HS0_3 := Lib.hid (HS0_2.out.next hb3)
    have HS1_3 := Lib.hid (HS1_2.out.next hb3)
    have HS2_3 := Lib.hid (HS2_2.out.next hb3)
    have HB_3 := Lib.hid (bstep HB_2.out hb3)
    have hw_3 := HB_3.out.size
    have hws_3 := (hb3).size
    clear f0_2_0 f0_2_1 f0_2_2 f0_2_3 f0_2_4 f0_2_5 HS0_2 f1_2_0 f1_2_1 f1_2_2 f1_2_3 f1_2_4 f1_2_5 f1_2_6 HS1_2 f2_2_0 f2_2_1 f2_2_2 f2_2_3 f2_2_4 f2_2_5 f2_2_6 HS2_2 hf2_2
    clear hb3
    obtain ⟨f0_3_0, f0_3_1, f0_3_2, f0_3_3, f0_3_4, f0_3_5⟩ := str6 HS0_3.out
    have hl0_3 := HS0_3.out.lt
    obtain ⟨f1_3_0, f1_3_1, f1_3_2, f1_3_3, f1_3_4, f1_3_5, f1_3_6⟩ := str7 HS1_3.out
    have hl1_3 := HS1_3.out.lt
    obtain ⟨f2_3_0, f2_3_1, f2_3_2, f2_3_3, f2_3_4, f2_3_5, f2_3_6⟩ := str7 HS2_3.out
    have hl2_3 := HS2_3.out.lt
    have hf2_3 := fun j => HS2_3.out.frozen j
    go_wp2_with fail
    go_ret
    exact ⟨rfl, HB_3.out⟩
  go_wp2_with fail
  refine (Live17.live_any _).mono ?_
  rintro e W3 ⟨rfl, hb3⟩
  have HS0_3 := Lib.hid (HS0_2.out.next hb3)
  have HS1_3 := Lib.hid (HS1_2.out.next hb3)
  have HS2_3 := Lib.hid (HS2_2.out.next hb3)
  have HB_3 := Lib.hid (bstep HB_2.out hb3)
  have hw_3 := HB_3.out.size
  have hws_3 := (hb3).size
  clear f0_2_0 f0_2_1 f0_2_2 f0_2_3 f0_2_4 f0_2_5 HS0_2 f1_2_0 f1_2_1 f1_2_2 f1_2_3 f1_2_4 f1_2_5 f1_2_6 HS1_2 f2_2_0 f2_2_1 f2_2_2 f2_2_3 f2_2_4 f2_2_5 f2_2_6 HS2_2 hf2_2
  clear hb3
  obtain ⟨f0_3_0, f0_3_1, f0_3_2, f0_3_3, f0_3_4, f0_3_5⟩ := str6 HS0_3.out
  have hl0_3 := HS0_3.out.lt
  obtain ⟨f1_3_0, f1_3_1, f1_3_2, f1_3_3, f1_3_4, f1_3_5, f1_3_6⟩ := str7 HS1_3.out
  have hl1_3 := HS1_3.out.lt
  obtain ⟨f2_3_0, f2_3_1, f2_3_2, f2_3_3, f2_3_4, f2_3_5, f2_3_6⟩ := str7 HS2_3.out
  have hl2_3 := HS2_3.out.lt
  have hf2_3 := fun j => HS2_3.out.frozen j
  go_wp2_with fail
  go_ret
  exact ⟨rfl, HB_3.out⟩

set_option maxRecDepth 100000 in
set_option maxHeartbeats 4000000 in
theorem way_high (Ax : Option Addr) (nx cx : Nat) (act : Int) (xk : ByteArray) (xda : List UInt8) (xlo xhi xn : Int) (Ap : Option Addr) (np cp : Nat) (pst : Int) (pk : ByteArray) (pkd : Int) (pda : List UInt8) (plo phi pva : Int) (Aq : Option Addr) (nq cq : Nat) (qst : Int) (qk : ByteArray) (qkd : Int) (qda : List UInt8) (qlo qhi qva : Int) (w : World)
    (hp : Bytes w w.heap.size Ap np cp pda) (hpk : pk.size ≤ maxLen) (hq : Bytes w w.heap.size Aq nq cq qda) (hqk : qk.size ≤ maxLen) (hxk : xk.size ≤ maxLen) (hqv : In64 qva) (hql : In64 qlo) (hqh : In64 qhi) (ha : 3 < act) :
    Calls Try.prog 13 #[.agg #[.int .i64 act, .string xk, .slice Ax nx cx, .int .i64 xlo, .int .i64 xhi, .int .i64 xn], .agg #[.int .i64 pst, .string pk, .int .i64 pkd, .slice Ap np cp, .int .i64 plo, .int .i64 phi, .int .i64 pva], .agg #[.int .i64 qst, .string qk, .int .i64 qkd, .slice Aq nq cq, .int .i64 qlo, .int .i64 qhi, .int .i64 qva]] w fun e w' => e = .returned (.bool true) ∧ Below w.heap.size w w' := by
  have Hp := Lib.hid hp
  have Hq := Lib.hid hq
  have hp1 := Nat.le_trans hp.2.1 hp.2.2.1
  have hq1 := Nat.le_trans hq.2.1 hq.2.2.1
  clear hp hq
  have ha0 : ¬ act < 1 := by omega
  go_enter Try.func13, Try.ntmps13
  go_wp2_with fail
  generalize hW0 : (((w).alloc (.cells #[.int .i64 act, .string xk, .slice Ax nx cx, .int .i64 xlo, .int .i64 xhi, .int .i64 xn] 77)).alloc (.cells #[.int .i64 pst, .string pk, .int .i64 pkd, .slice Ap np cp, .int .i64 plo, .int .i64 phi, .int .i64 pva] 38)).alloc (.cells #[.int .i64 qst, .string qk, .int .i64 qkd, .slice Aq nq cq, .int .i64 qlo, .int .i64 qhi, .int .i64 qva] 38) = W0
  have HS0_0 : Hid (Str W0 (w.heap.size) #[.int .i64 act, .string xk, .slice Ax nx cx, .int .i64 xlo, .int .i64 xhi, .int .i64 xn]) := Lib.hid (by rw [← hW0]; have := ((Str.new (w) #[.int .i64 act, .string xk, .slice Ax nx cx, .int .i64 xlo, .int .i64 xhi, .int .i64 xn] 77).alloc (.cells #[.int .i64 pst, .string pk, .int .i64 pkd, .slice Ap np cp, .int .i64 plo, .int .i64 phi, .int .i64 pva] 38)).alloc (.cells #[.int .i64 qst, .string qk, .int .i64 qkd, .slice Aq nq cq, .int .i64 qlo, .int .i64 qhi, .int .i64 qva] 38); simpa using this)
  have HS1_0 : Hid (Str W0 (w.heap.size + 1) #[.int .i64 pst, .string pk, .int .i64 pkd, .slice Ap np cp, .int .i64 plo, .int .i64 phi, .int .i64 pva]) := Lib.hid (by rw [← hW0]; have := (Str.new ((w).alloc (.cells #[.int .i64 act, .string xk, .slice Ax nx cx, .int .i64 xlo, .int .i64 xhi, .int .i64 xn] 77)) #[.int .i64 pst, .string pk, .int .i64 pkd, .slice Ap np cp, .int .i64 plo, .int .i64 phi, .int .i64 pva] 38).alloc (.cells #[.int .i64 qst, .string qk, .int .i64 qkd, .slice Aq nq cq, .int .i64 qlo, .int .i64 qhi, .int .i64 qva] 38); simpa using this)
  have HS2_0 : Hid (Str W0 (w.heap.size + 1 + 1) #[.int .i64 qst, .string qk, .int .i64 qkd, .slice Aq nq cq, .int .i64 qlo, .int .i64 qhi, .int .i64 qva]) := Lib.hid (by rw [← hW0]; have := Str.new (((w).alloc (.cells #[.int .i64 act, .string xk, .slice Ax nx cx, .int .i64 xlo, .int .i64 xhi, .int .i64 xn] 77)).alloc (.cells #[.int .i64 pst, .string pk, .int .i64 pkd, .slice Ap np cp, .int .i64 plo, .int .i64 phi, .int .i64 pva] 38)) #[.int .i64 qst, .string qk, .int .i64 qkd, .slice Aq nq cq, .int .i64 qlo, .int .i64 qhi, .int .i64 qva] 38; simpa using this)
  have HB_0 : Hid (Below w.heap.size w W0) := Lib.hid (by rw [← hW0]; exact balloc (balloc (balloc (bsame w) _) _) _)
  have hw_0 := HB_0.out.size
  clear hW0
  obtain ⟨f0_0_0, f0_0_1, f0_0_2, f0_0_3, f0_0_4, f0_0_5⟩ := str6 HS0_0.out
  have hl0_0 := HS0_0.out.lt
  obtain ⟨f1_0_0, f1_0_1, f1_0_2, f1_0_3, f1_0_4, f1_0_5, f1_0_6⟩ := str7 HS1_0.out
  have hl1_0 := HS1_0.out.lt
  obtain ⟨f2_0_0, f2_0_1, f2_0_2, f2_0_3, f2_0_4, f2_0_5, f2_0_6⟩ := str7 HS2_0.out
  have hl2_0 := HS2_0.out.lt
  have hf2_0 := fun j => HS2_0.out.frozen j
  refine (Live17.big_any Ap np cp _ pk _ _ _ _ _ hpk hp1).mono ?_
  rintro e W1 ⟨rfl, hb1⟩
  have HS0_1 := Lib.hid (HS0_0.out.next hb1)
  have HS1_1 := Lib.hid (HS1_0.out.next hb1)
  have HS2_1 := Lib.hid (HS2_0.out.next hb1)
  have HB_1 := Lib.hid (bstep HB_0.out hb1)
  have hw_1 := HB_1.out.size
  have hws_1 := (hb1).size
  clear f0_0_0 f0_0_1 f0_0_2 f0_0_3 f0_0_4 f0_0_5 HS0_0 f1_0_0 f1_0_1 f1_0_2 f1_0_3 f1_0_4 f1_0_5 f1_0_6 HS1_0 f2_0_0 f2_0_1 f2_0_2 f2_0_3 f2_0_4 f2_0_5 f2_0_6 HS2_0 hf2_0
  clear hb1
  obtain ⟨f0_1_0, f0_1_1, f0_1_2, f0_1_3, f0_1_4, f0_1_5⟩ := str6 HS0_1.out
  have hl0_1 := HS0_1.out.lt
  obtain ⟨f1_1_0, f1_1_1, f1_1_2, f1_1_3, f1_1_4, f1_1_5, f1_1_6⟩ := str7 HS1_1.out
  have hl1_1 := HS1_1.out.lt
  obtain ⟨f2_1_0, f2_1_1, f2_1_2, f2_1_3, f2_1_4, f2_1_5, f2_1_6⟩ := str7 HS2_1.out
  have hl2_1 := HS2_1.out.lt
  have hf2_1 := fun j => HS2_1.out.frozen j
  cases hbp : Live17.big pk np
  case true =>
    go_wp2_with fail
    refine (Live17.live_any _).mono ?_
    rintro e W2 ⟨rfl, hb2⟩
    have HS0_2 := Lib.hid (HS0_1.out.next hb2)
    have HS1_2 := Lib.hid (HS1_1.out.next hb2)
    have HS2_2 := Lib.hid (HS2_1.out.next hb2)
    have HB_2 := Lib.hid (bstep HB_1.out hb2)
    have hw_2 := HB_2.out.size
    have hws_2 := (hb2).size
    clear f0_1_0 f0_1_1 f0_1_2 f0_1_3 f0_1_4 f0_1_5 HS0_1 f1_1_0 f1_1_1 f1_1_2 f1_1_3 f1_1_4 f1_1_5 f1_1_6 HS1_1 f2_1_0 f2_1_1 f2_1_2 f2_1_3 f2_1_4 f2_1_5 f2_1_6 HS2_1 hf2_1
    clear hb2
    obtain ⟨f0_2_0, f0_2_1, f0_2_2, f0_2_3, f0_2_4, f0_2_5⟩ := str6 HS0_2.out
    have hl0_2 := HS0_2.out.lt
    obtain ⟨f1_2_0, f1_2_1, f1_2_2, f1_2_3, f1_2_4, f1_2_5, f1_2_6⟩ := str7 HS1_2.out
    have hl1_2 := HS1_2.out.lt
    obtain ⟨f2_2_0, f2_2_1, f2_2_2, f2_2_3, f2_2_4, f2_2_5, f2_2_6⟩ := str7 HS2_2.out
    have hl2_2 := HS2_2.out.lt
    have hf2_2 := fun j => HS2_2.out.frozen j
    go_wp2_with fail
    go_ret
    exact ⟨rfl, HB_2.out⟩
  have hp3 : np ≤ 300 := by simp [Live17.big] at hbp; omega
  clear hbp
  go_wp2_with fail
  refine (Live17.big_any Aq nq cq _ qk _ _ _ _ _ hqk hq1).mono ?_
  rintro e W2 ⟨rfl, hb2⟩
  have HS0_2 := Lib.hid (HS0_1.out.next hb2)
  have HS1_2 := Lib.hid (HS1_1.out.next hb2)
  have HS2_2 := Lib.hid (HS2_1.out.next hb2)
  have HB_2 := Lib.hid (bstep HB_1.out hb2)
  have hw_2 := HB_2.out.size
  have hws_2 := (hb2).size
  clear f0_1_0 f0_1_1 f0_1_2 f0_1_3 f0_1_4 f0_1_5 HS0_1 f1_1_0 f1_1_1 f1_1_2 f1_1_3 f1_1_4 f1_1_5 f1_1_6 HS1_1 f2_1_0 f2_1_1 f2_1_2 f2_1_3 f2_1_4 f2_1_5 f2_1_6 HS2_1 hf2_1
  clear hb2
  obtain ⟨f0_2_0, f0_2_1, f0_2_2, f0_2_3, f0_2_4, f0_2_5⟩ := str6 HS0_2.out
  have hl0_2 := HS0_2.out.lt
  obtain ⟨f1_2_0, f1_2_1, f1_2_2, f1_2_3, f1_2_4, f1_2_5, f1_2_6⟩ := str7 HS1_2.out
  have hl1_2 := HS1_2.out.lt
  obtain ⟨f2_2_0, f2_2_1, f2_2_2, f2_2_3, f2_2_4, f2_2_5, f2_2_6⟩ := str7 HS2_2.out
  have hl2_2 := HS2_2.out.lt
  have hf2_2 := fun j => HS2_2.out.frozen j
  cases hbq : Live17.big qk nq
  case true =>
    go_wp2_with fail
    refine (Live17.live_any _).mono ?_
    rintro e W3 ⟨rfl, hb3⟩
    have HS0_3 := Lib.hid (HS0_2.out.next hb3)
    have HS1_3 := Lib.hid (HS1_2.out.next hb3)
    have HS2_3 := Lib.hid (HS2_2.out.next hb3)
    have HB_3 := Lib.hid (bstep HB_2.out hb3)
    have hw_3 := HB_3.out.size
    have hws_3 := (hb3).size
    clear f0_2_0 f0_2_1 f0_2_2 f0_2_3 f0_2_4 f0_2_5 HS0_2 f1_2_0 f1_2_1 f1_2_2 f1_2_3 f1_2_4 f1_2_5 f1_2_6 HS1_2 f2_2_0 f2_2_1 f2_2_2 f2_2_3 f2_2_4 f2_2_5 f2_2_6 HS2_2 hf2_2
    clear hb3
    obtain ⟨f0_3_0, f0_3_1, f0_3_2, f0_3_3, f0_3_4, f0_3_5⟩ := str6 HS0_3.out
    have hl0_3 := HS0_3.out.lt
    obtain ⟨f1_3_0, f1_3_1, f1_3_2, f1_3_3, f1_3_4, f1_3_5, f1_3_6⟩ := str7 HS1_3.out
    have hl1_3 := HS1_3.out.lt
    obtain ⟨f2_3_0, f2_3_1, f2_3_2, f2_3_3, f2_3_4, f2_3_5, f2_3_6⟩ := str7 HS2_3.out
    have hl2_3 := HS2_3.out.lt
    have hf2_3 := fun j => HS2_3.out.frozen j
    go_wp2_with fail
    go_ret
    exact ⟨rfl, HB_3.out⟩
  have hq3 : nq ≤ 300 := by simp [Live17.big] at hbq; omega
  clear hbq
  have hxk1 := hxk
  unfold maxLen at hxk1
  by_cases hk1 : 300 < xk.size
  case pos =>
    go_wp2_with fail
    refine (Live17.live_any _).mono ?_
    rintro e W3 ⟨rfl, hb3⟩
    have HS0_3 := Lib.hid (HS0_2.out.next hb3)
    have HS1_3 := Lib.hid (HS1_2.out.next hb3)
    have HS2_3 := Lib.hid (HS2_2.out.next hb3)
    have HB_3 := Lib.hid (bstep HB_2.out hb3)
    have hw_3 := HB_3.out.size
    have hws_3 := (hb3).size
    clear f0_2_0 f0_2_1 f0_2_2 f0_2_3 f0_2_4 f0_2_5 HS0_2 f1_2_0 f1_2_1 f1_2_2 f1_2_3 f1_2_4 f1_2_5 f1_2_6 HS1_2 f2_2_0 f2_2_1 f2_2_2 f2_2_3 f2_2_4 f2_2_5 f2_2_6 HS2_2 hf2_2
    clear hb3
    obtain ⟨f0_3_0, f0_3_1, f0_3_2, f0_3_3, f0_3_4, f0_3_5⟩ := str6 HS0_3.out
    have hl0_3 := HS0_3.out.lt
    obtain ⟨f1_3_0, f1_3_1, f1_3_2, f1_3_3, f1_3_4, f1_3_5, f1_3_6⟩ := str7 HS1_3.out
    have hl1_3 := HS1_3.out.lt
    obtain ⟨f2_3_0, f2_3_1, f2_3_2, f2_3_3, f2_3_4, f2_3_5, f2_3_6⟩ := str7 HS2_3.out
    have hl2_3 := HS2_3.out.lt
    have hf2_3 := fun j => HS2_3.out.frozen j
    go_wp2_with fail
    go_ret
    exact ⟨rfl, HB_3.out⟩
  go_wp2_with fail
  refine (Live17.live_any _).mono ?_
  rintro e W3 ⟨rfl, hb3⟩
  have HS0_3 := Lib.hid (HS0_2.out.next hb3)
  have HS1_3 := Lib.hid (HS1_2.out.next hb3)
  have HS2_3 := Lib.hid (HS2_2.out.next hb3)
  have HB_3 := Lib.hid (bstep HB_2.out hb3)
  have hw_3 := HB_3.out.size
  have hws_3 := (hb3).size
  clear f0_2_0 f0_2_1 f0_2_2 f0_2_3 f0_2_4 f0_2_5 HS0_2 f1_2_0 f1_2_1 f1_2_2 f1_2_3 f1_2_4 f1_2_5 f1_2_6 HS1_2 f2_2_0 f2_2_1 f2_2_2 f2_2_3 f2_2_4 f2_2_5 f2_2_6 HS2_2 hf2_2
  clear hb3
  obtain ⟨f0_3_0, f0_3_1, f0_3_2, f0_3_3, f0_3_4, f0_3_5⟩ := str6 HS0_3.out
  have hl0_3 := HS0_3.out.lt
  obtain ⟨f1_3_0, f1_3_1, f1_3_2, f1_3_3, f1_3_4, f1_3_5, f1_3_6⟩ := str7 HS1_3.out
  have hl1_3 := HS1_3.out.lt
  obtain ⟨f2_3_0, f2_3_1, f2_3_2, f2_3_3, f2_3_4, f2_3_5, f2_3_6⟩ := str7 HS2_3.out
  have hl2_3 := HS2_3.out.lt
  have hf2_3 := fun j => HS2_3.out.frozen j
  go_wp2_with fail
  go_ret
  exact ⟨rfl, HB_3.out⟩

theorem walk (v0 v1 v2 : Value) (a0 : OpX) (a1 a2 : Item) (w : World) (g0 : ROp w w.heap.size v0 a0) (g1 : RItem w w.heap.size v1 a1) (g2 : RItem w w.heap.size v2 a2) :
    Calls Try.prog 13 #[v0, v1, v2] w fun e w' => e = .returned (.bool true) ∧ Below w.heap.size w w' := by
  obtain ⟨Ax, nx, cx, rfl, -, hxk, -⟩ := g0
  obtain ⟨Ap, np, cp, rfl, hp, hpk, -⟩ := g1
  obtain ⟨Aq, nq, cq, rfl, hq, hqk, hqin⟩ := g2
  obtain ⟨-, -, hql, hqh, hqv⟩ := hqin
  obtain ⟨act, xk, xda, xlo, xhi, xn⟩ := a0
  obtain ⟨pst, pk, pkd, pda, plo, phi, pva⟩ := a1
  obtain ⟨qst, qk, qkd, qda, qlo, qhi, qva⟩ := a2
  dsimp only at *
  by_cases h1 : act < 1
  · exact way_low Ax nx cx act xk xda xlo xhi xn Ap np cp pst pk pkd pda plo phi pva Aq nq cq qst qk qkd qda qlo qhi qva w hp hpk hq hqk hxk hqv hql hqh h1
  by_cases h3 : 3 < act
  · exact way_high Ax nx cx act xk xda xlo xhi xn Ap np cp pst pk pkd pda plo phi pva Aq nq cq qst qk qkd qda qlo qhi qva w hp hpk hq hqk hxk hqv hql hqh h3
  have ha1 : 1 ≤ act := by omega
  have ha2 : act ≤ 3 := by omega
  by_cases hs1 : pst = 1
  · subst hs1
    by_cases hk : pk = xk
    · subst hk
      exact way_s1k Ax nx cx act xda xlo xhi xn Ap np cp pk pkd pda plo phi pva Aq nq cq qst qk qkd qda qlo qhi qva w hp hpk hq hqk hxk hqv hql hqh ha1 ha2
    · exact way_s1n Ax nx cx act xk xda xlo xhi xn Ap np cp pk pkd pda plo phi pva Aq nq cq qst qk qkd qda qlo qhi qva w hp hpk hq hqk hxk hqv hql hqh ha1 ha2 hk
  by_cases hs2 : pst = 2
  · subst hs2
    by_cases hk : pk = xk
    · subst hk
      exact way_s2k Ax nx cx act xda xlo xhi xn Ap np cp pk pkd pda plo phi pva Aq nq cq qst qk qkd qda qlo qhi qva w hp hpk hq hqk hxk hqv hql hqh ha1 ha2
    · exact way_s2n Ax nx cx act xk xda xlo xhi xn Ap np cp pk pkd pda plo phi pva Aq nq cq qst qk qkd qda qlo qhi qva w hp hpk hq hqk hxk hqv hql hqh ha1 ha2 hk
  exact way_no Ax nx cx act xk xda xlo xhi xn Ap np cp pst pk pkd pda plo phi pva Aq nq cq qst qk qkd qda qlo qhi qva w hp hpk hq hqk hxk hqv hql hqh ha1 ha2 hs1 hs2
end Go.Proofs.Ytjengjbkdflapaa.undoBacks
