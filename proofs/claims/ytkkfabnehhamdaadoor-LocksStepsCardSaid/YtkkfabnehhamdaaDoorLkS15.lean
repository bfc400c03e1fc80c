/-
  Parts of the proof of LocksSteps.
-/
import Derived.Test.YtkkfabnehhamdaaDoorLkS14
import Derived.Sort.MapsRangeIn
import Derived.Test.YtkkfabnehhamdaaDoorLkS2
import Derived.Test.YtkkfabnehhamdaaDoorLkS0
import Derived.Deep.Slices
section
namespace Go.Proofs.YtkkfabnehhamdaaDoor
open Go.RowKit Go.Maps LockP ModesP
set_option linter.unusedVariables false
set_option linter.unusedSimpArgs false
namespace LockW
attribute [local go_sem ↓] app_fold
theorem infoStr : (Tryd.prog.info? 9).map (fun i => (i.zero, i.size, i.bytes)) = some (some (.string ByteArray.empty), 1, 16) := by kernel_rfl
theorem keyS_inv {key : Value} {kl : Lit} (hk : keyOf Tryd.prog TS key = some kl) : ∃ x : ByteArray, key = .string x := Maps.keyOf_string_inv Tryd.underlying9 hk
theorem keyS_lit {x : ByteArray} {kl : Lit} (hk : keyOf Tryd.prog TS (.string x) = some kl) : kl = strK.lit x := by
  simp [keyOf, Tryd.underlying9, mapKey] at hk
  exact hk.2.symm
theorem unitM_inv {v : Value} {y : DataW Unit × List MemPlace} (hv : MapP.rdE unitM v = some y) : ∃ n : Unit, v = unitM.val n := by obtain ⟨s, rfl, _⟩ := MapP.rd_inv unitM hv; exact ⟨s, rfl⟩
/-- a text typed out, as a source -/
theorem StrE.lit {w wr : World} {b : Nat} {x : ByteArray} (hs : Str w b #[.string x]) : ElemsIn StrE wr w w.heap.size (some ⟨b, 0, none⟩) 1 1 [x] :=
  ⟨[[.string x]], ⟨rfl, trivial⟩, rfl, Nat.le_refl _, by unfold maxLen; omega, fun _ => ⟨b, 0, rfl, hs.lt, fun j v hv => by
    have hj : j = 0 := by have := (List.getElem?_eq_some_iff.1 hv).1; simp at this; omega
    subst hj
    simp at hv
    subst hv
    exact hs.cell 0⟩⟩
/-- between two rounds over the keys that one holds -/
structure FrI (w : World) (t : Nat) (bs bs' : List Nat) (N : Nat) (X : St) (u : Int) (l0 : List ByteArray) (b r : Nat) (left : Lit → Bool) (cnt : Nat) (A : Option Addr) (m c : Nat) (fl : List ByteArray) (wr : World) : Prop where
  rg : wr.ranges Tryd.prog TS (MapP.rdE unitM) b r N (MapP.dat strK (X.mem u)) left cnt
  lk : Lk wr t bs' N X
  ap : ∀ a, A = some a → a.block ∉ bs' ∧ a.block ≠ r
  rn : r ∉ bs' ∧ w.heap.size ≤ r
  bb : b ∈ bs'
  ow : OwnE StrE 9 wr w.heap.size A m c fl
  kp : Reg.KeepB w.heap.size bs w wr
  sn : ∀ p ∈ X.mem u, left (strK.lit p.1) = false → p.1 ∈ fl
  ml : m + cnt ≤ 1 + (X.mem u).length
  inn : ∀ k ∈ fl, k ∈ l0 ∨ MapP.has (X.mem u) k = true
  old : ∀ k ∈ l0, k ∈ fl
theorem ownBlock_some {A : Option Addr} {r : Nat} (e : (Value.slice A 0 0).ownBlock = some r) : ∃ a, A = some a ∧ a.block = r := by
  cases A with
  | none => simp [Value.ownBlock] at e
  | some ad => exact ⟨ad, rfl, by simpa [Value.ownBlock] using e⟩
theorem Lk.grown {w w' : World} {t N : Nat} {bs : List Nat} {X : St} {ob : Option Nat} (h : Lk w t bs N X) (hg : w.grownBy w' ob) (hn : ∀ r, ob = some r → r ∉ bs) : Lk w' t bs N X := by
  obtain ⟨lab, b1, b2, b3, b4, es1, es2, es3, h⟩ := h
  exact ⟨lab, b1, b2, b3, b4, es1, es2, es3, h.at_ fun b hb => hg.block b (h.lo b hb) (fun e => hn b e.symm hb)⟩
theorem FrI.more {w wr w1 w2 w3 : World} {t N b r cnt cnt1 m c c3 : Nat} {bs bs' : List Nat} {X : St} {u : Int} {l0 fl : List ByteArray} {left left' : Lit → Bool} {A A3 : Option Addr} {x : ByteArray}
    (hI : FrI w t bs bs' N X u l0 b r left cnt A m c fl wr) (hx : MapP.has (X.mem u) x = true) (hrg : w1.ranges Tryd.prog TS (MapP.rdE unitM) b r N (MapP.dat strK (X.mem u)) left' cnt1) (hl : ∀ k, left' (strK.lit k) = false → left (strK.lit k) = false ∨ k = x) (hc : cnt1 < cnt)
    (hg1 : wr.grownBy w1 (some r)) (hb2 : Below w1.heap.size w1 w2) (hg3 : w2.grownBy w3 ((Value.slice A 0 0).ownBlock)) (hO3 : OwnE StrE 9 w3 w.heap.size A3 (m + 1) c3 (fl ++ [x])) (hA3 : A3 = A ∨ ∃ a, A3 = some a ∧ a.block = w2.heap.size) :
    FrI w t bs bs' N X u l0 b r left' cnt1 A3 (m + 1) c3 (fl ++ [x]) w3 := by
  have s1 := hg1.size
  have s2 := hb2.size
  have s0 := hI.kp.size
  have hrl := hI.rg.lt
  have hlk1 : Lk w1 t bs' N X := hI.lk.grown hg1 (fun j e => by cases e; exact hI.rn.1)
  have hlk2 := hlk1.next hb2
  have hob : ∀ j, (Value.slice A 0 0).ownBlock = some j → j ∉ bs' ∧ j ≠ r ∧ w.heap.size ≤ j := fun j e => by
    obtain ⟨a, ea, eb⟩ := ownBlock_some e
    rw [← eb]
    subst ea
    exact ⟨(hI.ap a rfl).1, (hI.ap a rfl).2, hI.ow.ge a rfl⟩
  refine ⟨((hrg.kept (grown_below hb2 none) (by simp) (by simp)).kept hg3 (fun e => (hob _ e.symm).1 hI.bb) (fun e => (hob _ e.symm).2.1 rfl)), hlk2.grown hg3 (fun j e => (hob j e).1), fun a ea => ?_, hI.rn, hI.bb, hO3, ?_, fun p hp h => ?_, by have := hI.ml; omega, fun k hk => ?_, fun k hk => List.mem_append_left _ (hI.old k hk)⟩
  · rcases hA3 with e | ⟨a', e, eb⟩
    · rw [e] at ea; exact hI.ap a ea
    · rw [e] at ea; cases ea
      exact ⟨fun hm => by have := hlk2.lo _ hm; omega, by omega⟩
  · exact (((hI.kp.growO hg1 s0 (fun j e => by cases e; exact .inl hI.rn.2)).step hb2 (by omega)).growO hg3 (by omega) (fun j e => .inl (hob j e).2.2))
  · rcases hl _ h with h | h
    · exact List.mem_append_left _ (hI.sn p hp h)
    · exact List.mem_append_right _ (by rw [h]; simp)
  · rcases List.mem_append.1 hk with h | h
    · exact hI.inn k h
    · rw [List.mem_singleton] at h; rw [h]; exact .inr hx
/-- between two rounds of drops -/
structure DrI (w : World) (t : Nat) (bs : List Nat) (N : Nat) (X : St) (u : Int) (A : Option Addr) (m c : Nat) (fl : List ByteArray) (i : Nat) (wr : World) : Prop where
  lk : ∃ bs', Lk wr t bs' N (LockP.drops X u (fl.take i)) ∧ (∀ b ∈ bs', b ∈ bs ∨ w.heap.size ≤ b) ∧ ∀ a, A = some a → a.block ∉ bs'
  ow : OwnE StrE 9 wr w.heap.size A m c fl
  kp : Reg.KeepB w.heap.size bs w wr
theorem DrI.more {w wr w1 : World} {t N m c i : Nat} {bs bs' : List Nat} {X : St} {u : Int} {fl : List ByteArray} {A : Option Addr} {k : ByteArray} (hI : DrI w t bs N X u A m c fl i wr) (hk : fl[i]? = some k)
    (hlk : Lk wr t bs' N (LockP.drops X u (fl.take i))) (hn : ∀ b ∈ bs', b ∈ bs ∨ w.heap.size ≤ b) (hA : ∀ a, A = some a → a.block ∉ bs') (hT : Told wr t bs' N (LockP.drop (LockP.drops X u (fl.take i)) u k) w1) : DrI w t bs N X u A m c fl (i + 1) w1 := by
  obtain ⟨bs2, hl2, hn2, hk2⟩ := hT
  have s0 := hI.kp.size
  have hlt : ∀ a, A = some a → a.block < wr.heap.size := fun a e => by
    subst e
    obtain ⟨cur, hc⟩ := ownE_cells hI.ow
    exact (Array.getElem?_eq_some_iff.1 hc).1
  refine ⟨⟨bs2, ?_, fun b hb => (hn2 b hb).elim (hn b) (fun h => .inr (Nat.le_trans s0 h)), fun a e hm => (hn2 _ hm).elim (hA a e) (fun h => by have := hlt a e; omega)⟩, own_at strE_pure hI.ow (fun a e => hk2.block _ (hlt a e) (hA a e)), hI.kp.trans (hk2.low s0 hn) (Nat.le_refl _)⟩
  rw [List.take_add_one, hk, Option.toList_some]
  unfold LockP.drops at hl2 ⊢
  rw [List.foldl_append]
  exact hl2
/-- what End tells: over the keys that were let go, in whatever order they came -/
def Ended (t N : Nat) (bs : List Nat) (X : St) (u : Int) (w : World) (e : Ending) (w' : World) : Prop :=
  ∃ fl, (∀ k ∈ (LockP.leave X u).2, k ∈ fl) ∧ (∀ k, MapP.has (X.mem u) k = true → k ∈ fl) ∧ (∀ k ∈ fl, k ∈ (LockP.leave X u).2 ∨ MapP.has (X.mem u) k = true) ∧
    Tells t (N + 4 * (LockP.ends lI lS X u fl (srt fl)).2.length) bs (LockP.ends lI lS X u fl (srt fl)).1 (LockP.ends lI lS X u fl (srt fl)).2 w e w'
set_option maxRecDepth 100000 in
set_option maxHeartbeats 4000000 in
theorem end_in (t N : Nat) (bs : List Nat) (X Y : St) (l0 : List ByteArray) (u : Int) (w : World) (hlv : LockP.leave X u = (Y, l0)) (h : Lk w t bs N X) (hok : Ok X) (hf : Fit X) (hT : Modes.Tab w) (hgb : 0 ∉ bs) (hu : In64 u) (hN : N + 4 * X.goal.length + 8 ≤ 1000000) :
    Calls Tryd.prog 28 #[.pointer (some ⟨t, 0, none⟩), .int .i64 u] w fun e w' => ∃ fl, (∀ k ∈ l0, k ∈ fl) ∧ (∀ k, MapP.has (Y.mem u) k = true → k ∈ fl) ∧ (∀ k ∈ fl, k ∈ l0 ∨ MapP.has (Y.mem u) k = true) ∧
      Tells t (N + 4 * (LockP.grantAll lI lS (srt fl) (LockP.drops Y u fl)).2.length) bs (LockP.grantAll lI lS (srt fl) (LockP.drops Y u fl)).1 (LockP.grantAll lI lS (srt fl) (LockP.drops Y u fl)).2 w e w' := by
  have HLO : Hid (∀ b ∈ bs, b < w.heap.size) := Lib.hid h.lo
  have hok2 := leave_ok hok u
  have hf2 := hf.leave u
  have HT := Lib.hid hT
  have HTL : Hid (0 < w.heap.size) := Lib.hid hT.lt
  have HGB := Lib.hid hgb
  have hv := leave_any t N bs X u w h hok hf hu (by omega)
  have hll := leave_len X u
  have hl2 := leave_two X u
  unfold Left at hv
  rw [hlv] at hok2 hf2 hv hll hl2
  have HOY : Hid (Ok Y) := Lib.hid hok2.1
  have HFY : Hid (Fit Y) := Lib.hid hf2.1
  have HF0 : Hid (∀ k ∈ l0, k.size ≤ 100) := Lib.hid hf2.2
  clear h hok hf hT hgb hok2 hf2
  dsimp only at hv hll hl2
  go_enter Tryd.func28, Tryd.ntmps28
  go_wp2_with fail
  refine hv.mono ?_
  rintro e W1 ⟨A, n, c, rfl, hO, bs', hl, hn, hk, hdis⟩
  have hln := hO.len
  have HO := Lib.hid hO
  have HL := Lib.hid hl
  have HN := Lib.hid hn
  have HK := Lib.hid hk
  have HDI := Lib.hid hdis
  clear hv hn hk hdis hO
  have HL' := hl
  obtain ⟨lab, b1, b2, b3, b4, es1, es2, es3, hi⟩ := hl
  have f1 := str4 hi.box
  have hl1 := hi.box.lt
  have e1 := hi.look2 hu
  have hw1 := HK.out.size
  cases hg : MapP.get es2 u with
  | none =>
    have hmn : Y.mem u = [] := hi.n2 u hg
    rw [hg] at e1
    have e1' : (Instr.lookup 66 (.map (some b2)) (.int .i64 u) false).run Tryd.prog W1 = .ok (.map none) W1 := e1
    have r1 := run_range_nilMap (P := Tryd.prog) W1 90 _ _ Tryd.underlying90
    have r2 := fun ty => run_next_nilMap (P := Tryd.prog) W1 ty 0 0 #[]
    have hb2 : Below W1.heap.size W1 (W1.alloc (.mapIter none 0 #[] 0)) := balloc (bsame W1) _
    have HDR : Hid (DrI w t bs N Y u A n c l0 0 (W1.alloc (.mapIter none 0 #[] 0))) := Lib.hid ⟨⟨bs', HL.out.next hb2, HN.out, HDI.out⟩, HO.out.next hb2, HK.out.step hb2 hw1⟩
    have HIN : Hid ((∀ k ∈ l0, k ∈ l0) ∧ (∀ k, MapP.has (Y.mem u) k = true → k ∈ l0) ∧ ∀ k ∈ l0, k ∈ l0 ∨ MapP.has (Y.mem u) k = true) := Lib.hid ⟨fun k hk => hk, fun k hk => (by rw [hmn] at hk; cases hk), fun k hk => .inl hk⟩
    have hmb : n ≤ 1000000 := by omega
    clear hg e1 hmn hi HL' hb2
    have HSZ := HF0
    go_wp2_with fail
    go_loopw [5] (fun sv wr => sv = .slice A n c ∧ wr = W1.alloc (.mapIter none 0 #[] 0)) (fun _ _ => 0)
    case atStart => exact ⟨rfl, rfl⟩
    case round =>
      obtain ⟨rfl, rfl⟩ := hrel
      go_wp2_with fail
      clear f1 hl1 r1 r2 e1'
      generalize W1.alloc (.mapIter none 0 #[] 0) = W2 at *
      go_loopw [31] (fun iv wr => ∃ i : Nat, i ≤ n ∧ iv = .int .i64 (i : Int) ∧ Hid (DrI w t bs N Y u A n c l0 i wr)) (fun iv _ => n - (intOf iv).toNat)
      case atStart => exact ⟨0, Nat.zero_le _, rfl, HDR⟩
      case round =>
        clear HDR
        obtain ⟨i, hin, rfl, HI⟩ := hrel
        by_cases hlt : i < n
        · have hd1 : decide ((i : Int) < (n : Int)) = true := by simpa using hlt
          have k1 : ¬ (i : Int) < 0 := by omega
          obtain ⟨b9, o9, k, rfl, hb9, hx, hc⟩ := str_at HI.out.ow hlt
          rw [Nat.mul_one] at hc
          obtain ⟨bs9, hl9, hn9, hA9⟩ := HI.out.lk
          have HX := Lib.hid hx
          have HLK := Lib.hid hl9
          have HNW := Lib.hid hn9
          have HA9 := Lib.hid hA9
          clear hx hl9 hn9 hA9
          go_wp2_with fail
          refine (drop_any t N bs9 _ u k wr HLK.out hu (HSZ.out k (List.mem_of_getElem? HX.out))).mono ?_
          rintro e W6 ⟨rfl, hT6⟩
          have HNX := Lib.hid (HI.out.more HX.out HLK.out HNW.out HA9.out hT6)
          clear hT6
          go_wp2_with fail
          go_roundw
          case rel => exact ⟨i + 1, by omega, by go_num, HNX⟩
          case measure => simp [intOf]; omega
        · have hd1 : decide ((i : Int) < (n : Int)) = false := by simp; omega
          obtain rfl : i = n := by omega
          obtain ⟨bs9, hl9, hn9, hA9⟩ := HI.out.lk
          rw [List.take_of_length_le (by omega)] at hl9
          have hOK9 := drops_ok u l0 HOY.out
          have hga := grantAll_any t N w.heap.size i c A l0 bs9 (LockP.drops Y u l0) wr hl9 hOK9.1 (Fit.drops u l0 HFY.out) (HT.out.keepB HI.out.kp HTL.out HGB.out) (fun hm => (hn9 _ hm).elim HGB.out (fun h => by have := HTL.out; omega)) HI.out.ow hA9 (fun a e e2 => by have := HI.out.ow.ge a e; have := HTL.out; omega) HSZ.out (by omega) (by rw [hOK9.2.2.1]; omega)
          have HN9 := Lib.hid hn9
          clear hl9 hn9 hA9 hOK9
          go_wp2_with fail
          refine hga.mono ?_
          rintro e W7 ⟨A7, n7, c7, rfl, hO7, bs7, hl7, hn7, hk7⟩
          have hP : Tells t (N + 4 * (LockP.grantAll lI lS (srt l0) (LockP.drops Y u l0)).2.length) bs (LockP.grantAll lI lS (srt l0) (LockP.drops Y u l0)).1 (LockP.grantAll lI lS (srt l0) (LockP.drops Y u l0)).2 w (.returned (.slice A7 n7 c7)) W7 := ⟨A7, n7, c7, rfl, hO7.less HI.out.kp.size, told_all HLO.out HN9.out HI.out.kp HI.out.ow.ge hl7 hn7 hk7⟩
          have HP := Lib.hid hP
          clear hP hO7 hl7 hn7 hk7 hga
          go_wp2_with fail
          go_ret
          exact ⟨l0, HIN.out.1, HIN.out.2.1, HIN.out.2.2, HP.out⟩
  | some o =>
    obtain ⟨b, eo, -, hbm, hM⟩ := hi.e2 u o hg
    subst eo
    rw [hg, Option.getD_some] at e1
    have HM := Lib.hid hM
    have hsl := hM.size_le
    have HBM := Lib.hid hbm
    obtain ⟨i0, hi0, iz0, iz1, iz2⟩ := info_parts infoStr
    have HI0 := Lib.hid hi0
    clear hM hg hi HL' hbm hi0
    go_wp2_with (first
      | (at_range; refine wpList_range_own _ rfl _ 90 rfl TS 112 lawS Tryd.underlying90 (MapP.rdE unitM) b N (MapP.dat strK (Y.mem u)) rfl HM.out.own ?_; intro w0 hrg0 hg0 hs0)
      | go_in)
    go_frame
    have HFI : Hid (FrI w t bs bs' N Y u l0 b W1.heap.size _ _ A n c l0 w0) := Lib.hid ⟨hrg0, HL.out.grown hg0 nofun, fun a e => ⟨HDI.out a e, fun e2 => by
        subst e
        obtain ⟨cur, hc⟩ := ownE_cells HO.out
        have := (Array.getElem?_eq_some_iff.1 hc).1
        omega⟩, ⟨fun hm => Nat.lt_irrefl _ (HL.out.lo _ hm), hw1⟩, HBM.out, own_at strE_pure HO.out (fun a e => by
        subst e
        obtain ⟨cur, hc⟩ := ownE_cells HO.out
        exact hg0.block _ (Array.getElem?_eq_some_iff.1 hc).1 nofun), HK.out.growO hg0 hw1 nofun, fun p hp h => (by
        rw [MapP.has_dat, MapP.has_false] at h
        exact absurd rfl (h p hp)), by rw [MapP.size_dat]; omega, fun k hk => .inl hk, fun k hk => hk⟩
    clear hrg0 hg0 hs0 f1 e1 hl1
    go_loopw [5] (fun sv wr => ∃ (left : Lit → Bool) (cnt m c : Nat) (A : Option Addr) (fl : List ByteArray), sv = .slice A m c ∧ Hid (FrI w t bs bs' N Y u l0 b W1.heap.size left cnt A m c fl wr))
      (fun _ wr => wr.rangeLeft b W1.heap.size)
    case atStart => exact ⟨_, _, n, c, A, l0, rfl, HFI⟩
    case round =>
      clear HFI HO HDI hln
      obtain ⟨left, cnt, n, c, A, fl, rfl, HI⟩ := hrel
      have hml := HI.out.ml
      have hln := HI.out.ow.len
      go_wp2_with (first
        | (at_next; refine wpList_next_ranges _ rfl _ rfl TS lawS (MapP.rdE unitM) (fun x : ByteArray => Value.string x) (fun x : Unit => unitM.val x) (fun key kl hk => keyS_inv hk) (fun v y hv => unitM_inv hv) b W1.heap.size N _ _ _ rfl HI.out.rg ?_ ?_)
        | go_in)
      · intro _ hl0
        have HDR : Hid (DrI w t bs N Y u A n c fl 0 wr) := Lib.hid ⟨⟨bs', HI.out.lk, HN.out, fun a e => (HI.out.ap a e).1⟩, HI.out.ow, HI.out.kp⟩
        have HIN : Hid ((∀ k ∈ l0, k ∈ fl) ∧ (∀ k, MapP.has (Y.mem u) k = true → k ∈ fl) ∧ ∀ k ∈ fl, k ∈ l0 ∨ MapP.has (Y.mem u) k = true) := Lib.hid ⟨HI.out.old, fun k hk => (by
          obtain ⟨p, hp, e⟩ := List.any_eq_true.1 hk
          have e' : p.1 = k := by simpa using e
          rw [← e']; exact HI.out.sn p hp (hl0 _)), HI.out.inn⟩
        have HSZ : Hid (∀ k ∈ fl, k.size ≤ 100) := Lib.hid (fun k hk => by
          rcases HI.out.inn k hk with h | h
          · exact HF0.out k h
          · obtain ⟨p, hp, e⟩ := List.any_eq_true.1 h
            have e' : p.1 = k := by simpa using e
            rw [← e']; exact HFY.out.mem u p hp)
        have hmb : n ≤ 1000000 := by omega
        clear hl0 HI hml
        go_wp2_with fail
        generalize wr = W2 at *
        go_loopw [31] (fun iv wr => ∃ i : Nat, i ≤ n ∧ iv = .int .i64 (i : Int) ∧ Hid (DrI w t bs N Y u A n c fl i wr)) (fun iv _ => n - (intOf iv).toNat)
        case atStart => exact ⟨0, Nat.zero_le _, rfl, HDR⟩
        case round =>
          clear HDR
          obtain ⟨i, hin, rfl, HI⟩ := hrel
          by_cases hlt : i < n
          · have hd1 : decide ((i : Int) < (n : Int)) = true := by simpa using hlt
            have k1 : ¬ (i : Int) < 0 := by omega
            obtain ⟨b9, o9, k, rfl, hb9, hx, hc⟩ := str_at HI.out.ow hlt
            rw [Nat.mul_one] at hc
            obtain ⟨bs9, hl9, hn9, hA9⟩ := HI.out.lk
            have HX := Lib.hid hx
            have HLK := Lib.hid hl9
            have HNW := Lib.hid hn9
            have HA9 := Lib.hid hA9
            clear hx hl9 hn9 hA9
            go_wp2_with fail
            refine (drop_any t N bs9 _ u k wr HLK.out hu (HSZ.out k (List.mem_of_getElem? HX.out))).mono ?_
            rintro e W6 ⟨rfl, hT6⟩
            have HNX := Lib.hid (HI.out.more HX.out HLK.out HNW.out HA9.out hT6)
            clear hT6
            go_wp2_with fail
            go_roundw
            case rel => exact ⟨i + 1, by omega, by go_num, HNX⟩
            case measure => simp [intOf]; omega
          · have hd1 : decide ((i : Int) < (n : Int)) = false := by simp; omega
            obtain rfl : i = n := by omega
            obtain ⟨bs9, hl9, hn9, hA9⟩ := HI.out.lk
            rw [List.take_of_length_le (by omega)] at hl9
            have hOK9 := drops_ok u fl HOY.out
            have hga := grantAll_any t N w.heap.size i c A fl bs9 (LockP.drops Y u fl) wr hl9 hOK9.1 (Fit.drops u fl HFY.out) (HT.out.keepB HI.out.kp HTL.out HGB.out) (fun hm => (hn9 _ hm).elim HGB.out (fun h => by have := HTL.out; omega)) HI.out.ow hA9 (fun a e e2 => by have := HI.out.ow.ge a e; have := HTL.out; omega) HSZ.out (by omega) (by rw [hOK9.2.2.1]; omega)
            have HN9 := Lib.hid hn9
            clear hl9 hn9 hA9 hOK9
            go_wp2_with fail
            refine hga.mono ?_
            rintro e W7 ⟨A7, n7, c7, rfl, hO7, bs7, hl7, hn7, hk7⟩
            have hP : Tells t (N + 4 * (LockP.grantAll lI lS (srt fl) (LockP.drops Y u fl)).2.length) bs (LockP.grantAll lI lS (srt fl) (LockP.drops Y u fl)).1 (LockP.grantAll lI lS (srt fl) (LockP.drops Y u fl)).2 w (.returned (.slice A7 n7 c7)) W7 := ⟨A7, n7, c7, rfl, hO7.less HI.out.kp.size, told_all HLO.out HN9.out HI.out.kp HI.out.ow.ge hl7 hn7 hk7⟩
            have HP := Lib.hid hP
            clear hP hO7 hl7 hn7 hk7 hga
            go_wp2_with fail
            go_ret
            exact ⟨fl, HIN.out.1, HIN.out.2.1, HIN.out.2.2, HP.out⟩
      · intro x c1 kl yd yp w1 cnt1 hkey hlk hv hat hrg1 hcl hg1 hs1 hen
        have hkl := keyS_lit hkey
        subst hkl
        obtain ⟨v, hgx, -⟩ := MapP.at_ent strK hat
        have hhx : MapP.has (Y.mem u) x = true := by rw [MapP.has_get, hgx]; rfl
        have hsz1 := hg1.size
        have hba : Below w1.heap.size w1 (w1.alloc (.cells #[.string x] 9)) := balloc (bsame w1) _
        have hO1 : OwnE StrE 9 w1 w.heap.size A n c fl := own_at strE_pure HI.out.ow (fun a e => by
          subst e
          obtain ⟨cur, hc⟩ := ownE_cells HI.out.ow
          exact hg1.block _ (Array.getElem?_eq_some_iff.1 hc).1 (fun e2 => by injection e2 with e2; exact (HI.out.ap a rfl).2 e2))
        have hO2 := hO1.next hba
        have hkw := HI.out.kp.size
        have hbz := hba.size
        obtain ⟨A', c', w3, happ, hO3, -, hg3, hA3⟩ := hO2.app (P := Tryd.prog) 85 85 i0 _ 16 Tryd.underlying85 HI0.out iz0 iz1 iz2 rfl (StrE.lit (wr := hid A (w1.alloc (.cells #[.string x] 9))) (x := x) (Str.new w1 _ _)) (by unfold maxLen; omega) (by omega) (by omega)
        have HNX := Lib.hid (HI.out.more hhx hrg1 (fun k h => by
          rw [strK.same] at h
          by_cases e : k = x
          · exact .inr e
          · left; simpa [e] using h) hcl hg1 hba hg3 hO3 hA3)
        have HCL := Lib.hid hcl
        have HRGO := Lib.hid HI.out.rg
        clear hkey hlk hv hat hrg1 hcl hg1 hs1 hO1 hO2 hba hO3 hg3 hA3 hgx hhx
        go_wp2_with fail
        go_roundw
        case rel => exact ⟨_, cnt1, n + 1, c', A', _, rfl, HNX⟩
        case measure => rw [HNX.out.rg.left_eq, HRGO.out.left_eq]; exact HCL.out
theorem end_any (t N : Nat) (bs : List Nat) (X : St) (u : Int) (w : World) (h : Lk w t bs N X) (hok : Ok X) (hf : Fit X) (hT : Modes.Tab w) (hgb : 0 ∉ bs) (hu : In64 u) (hN : N + 4 * X.goal.length + 8 ≤ 1000000) :
    Calls Tryd.prog 28 #[.pointer (some ⟨t, 0, none⟩), .int .i64 u] w (Ended t N bs X u w) := by
  refine (end_in t N bs X (LockP.leave X u).1 (LockP.leave X u).2 u w rfl h hok hf hT hgb hu hN).mono ?_
  rintro e w' ⟨fl, h1, h2, h3, h4⟩
  have hm : (LockP.leave X u).1.mem = X.mem := (leave_ok hok u).2.2.2.1
  rw [hm] at h2 h3
  exact ⟨fl, h1, h2, h3, h4⟩
end LockW
end Go.Proofs.YtkkfabnehhamdaaDoor
end
section
namespace Go.Proofs.YtkkfabnehhamdaaDoor
open Go.RowKit Go.Maps LockP ModesP
set_option linter.unusedVariables false
set_option linter.unusedSimpArgs false
namespace LockW
attribute [local go_sem ↓] app_fold
/-- keys that a range has met -/
def Seen {α : Type} (L : MapP.T Int α) (left : Lit → Bool) (ss : List Int) : Prop := ss.Nodup ∧ ∀ x, x ∈ ss ↔ MapP.has L x = true ∧ left (intK.lit x) = false
theorem seen_start {α : Type} {L : MapP.T Int α} : Seen L (fun kl => Maps.has (MapP.dat intK L) kl) [] := ⟨List.nodup_nil, fun x => ⟨nofun, fun ⟨h1, h2⟩ => by have h3 : Maps.has (MapP.dat intK L) (intK.lit x) = false := h2; rw [MapP.has_dat, h1] at h3; cases h3⟩⟩
theorem seen_step {α : Type} {L : MapP.T Int α} {left : Lit → Bool} {ss : List Int} {x : Int} (h : Seen L left ss) (hx : MapP.has L x = true) (hl : left (intK.lit x) = true) : Seen L (fun z => left z && !z.sameKey (intK.lit x)) (ss ++ [x]) := by
  have hn : x ∉ ss := fun hm => by have := ((h.2 x).1 hm).2; rw [hl] at this; cases this
  refine ⟨List.nodup_append.2 ⟨h.1, by simp, fun a ha b hb => ?_⟩, fun y => ?_⟩
  · simp only [List.mem_singleton] at hb
    subst hb
    rintro rfl
    exact hn ha
  · rw [List.mem_append, h.2 y, List.mem_singleton]
    by_cases e : y = x
    · subst e; simp [intK.same, hx]
    · simp [intK.same, e]
theorem seen_end {α : Type} {L : MapP.T Int α} {left : Lit → Bool} {ss : List Int} (h : Seen L left ss) (hl : ∀ kl, left kl = false) (x : Int) : x ∈ ss ↔ MapP.has L x = true := by rw [h.2 x]; simp [hl]
/-- numbers in order are one list -/
theorem sort_perm {l l' : List Int} (h : l.Perm l') : l.mergeSort (fun x y => decide (x ≤ y)) = l'.mergeSort (fun x y => decide (x ≤ y)) := by
  have tr : ∀ a b c : Int, decide (a ≤ b) = true → decide (b ≤ c) = true → decide (a ≤ c) = true := fun a b c h1 h2 => by simp only [decide_eq_true_eq] at *; omega
  have to : ∀ a b : Int, (decide (a ≤ b) || decide (b ≤ a)) = true := fun a b => by simp only [Bool.or_eq_true, decide_eq_true_eq]; omega
  refine List.Perm.eq_of_pairwise (le := fun a b : Int => decide (a ≤ b) = true) (fun a b _ _ h1 h2 => ?_) (List.pairwise_mergeSort tr to l) (List.pairwise_mergeSort tr to l') (((List.mergeSort_perm l _).trans h).trans (List.mergeSort_perm l' _).symm)
  simp only [decide_eq_true_eq] at h1 h2
  omega
theorem keys_perm {α : Type} {L : MapP.T Int α} {left : Lit → Bool} {ss : List Int} (hn : MapP.Nd L) (h : Seen L left ss) (hl : ∀ kl, left kl = false) : ss.Perm (L.map (·.1)) :=
  (List.perm_ext_iff_of_nodup h.1 hn).2 fun x => by
    rw [seen_end h hl x, List.mem_map]
    constructor
    · intro hh
      obtain ⟨p, hp, e⟩ := List.any_eq_true.1 hh
      exact ⟨p, hp, by simpa using e⟩
    · rintro ⟨p, hp, e⟩
      exact List.any_eq_true.2 ⟨p, hp, by simpa using e⟩
/-- the numbers that one tells who only looks -/
def GivesI (l : List Int) (w : World) (e : Ending) (w' : World) : Prop := ∃ A n c, e = .returned (.slice A n c) ∧ OwnE IntE 3 w' w.heap.size A n c l ∧ Below w.heap.size w w'
theorem goalM_inv {v : Value} {y : DataW (ByteArray × Int) × List MemPlace} (hv : MapP.rdE goalM v = some y) : ∃ n, v = goalM.val n := by obtain ⟨s, rfl, _⟩ := MapP.rd_inv goalM hv; exact ⟨s, rfl⟩
theorem mapE_inv {v : Value} {y : DataW (Option Nat) × List MemPlace} (hv : MapP.rdE mapE v = some y) : ∃ n, v = mapE.val n := by obtain ⟨s, rfl, _⟩ := MapP.rd_inv mapE hv; exact ⟨s, rfl⟩
def waitingP (X : St) : List Int := (X.goal.map (·.1)).mergeSort fun x y => decide (x ≤ y)
set_option maxRecDepth 100000 in
set_option maxHeartbeats 4000000 in
theorem waiting_any (t N : Nat) (bs : List Nat) (X : St) (w : World) (h : Lk w t bs N X) (hok : Ok0 X) (hN : N ≤ 1000000) : Calls Tryd.prog 21 #[.pointer (some ⟨t, 0, none⟩)] w (GivesI (waitingP X) w) := by
  obtain ⟨i0, hi0, iz0, iz1, iz2⟩ := info_parts infoI
  have HI0 := Lib.hid hi0
  have HND := Lib.hid hok.ndg
  obtain ⟨lab, b1, b2, b3, b4, es1, es2, es3, h⟩ := h
  have f0 := str4 h.box
  have hl := h.box.lt
  have HM := Lib.hid h.m4
  have hsl := h.m4.size_le
  have hml := h.m4.lt
  clear h hok hi0
  go_enter Tryd.func21, Tryd.ntmps21
  go_wp2_with (first
    | (at_range; refine wpList_range_own _ rfl _ T4 rfl TI 72 lawI Tryd.underlying68 (MapP.rdE goalM) b4 N (MapP.dat intK X.goal) rfl HM.out.own ?_; intro w0 hrg0 hg0 hs0)
    | go_in)
  go_frame
  have HRG := Lib.hid hrg0
  have HB0 : Hid (Below w.heap.size w w0) := Lib.hid ⟨hg0.os, hg0.tape, hg0.output, hg0.size, fun k hk => hg0.block k hk (by simp)⟩
  have HS0 := Lib.hid hs0
  clear hrg0 hg0 hs0 f0 hl
  go_loopw [3] (fun sv wr => ∃ (left : Lit → Bool) (cnt m c : Nat) (A : Option Addr) (ss : List Int), sv = .slice A m c ∧ Hid (wr.ranges Tryd.prog TI (MapP.rdE goalM) b4 w.heap.size N (MapP.dat intK X.goal) left cnt ∧ Seen X.goal left ss ∧ m + cnt ≤ X.goal.length ∧ OwnE IntE 3 wr (w.heap.size + 1) A m c ss ∧ Below w.heap.size w wr ∧ w.heap.size + 1 ≤ wr.heap.size))
    (fun _ wr => wr.rangeLeft b4 w.heap.size)
  case atStart =>
    exact ⟨_, _, 0, 0, none, [], rfl, Lib.hid ⟨HRG.out, seen_start, by rw [MapP.size_dat]; omega, OwnE.none_ _ _ _ _, HB0.out, by have := HS0.out; omega⟩⟩
  case round =>
    obtain ⟨left, cnt, m, c, A, ss, rfl, HK⟩ := hrel
    have hwr := HK.out.2.2.2.2.2
    have hmc := HK.out.2.2.1
    go_wp2_with (first
      | (at_next; refine wpList_next_ranges _ rfl _ rfl TI lawI (MapP.rdE goalM) (fun x : Int => Value.int .i64 x) (fun p : ByteArray × Int => goalM.val p) (fun key kl hk => keyI_inv hk) (fun v y hv => goalM_inv hv) b4 w.heap.size N _ _ _ rfl HK.out.1 ?_ ?_)
      | go_in)
    · intro _ hl0
      have HP := Lib.hid (keys_perm HND.out HK.out.2.1 hl0)
      clear hl0
      go_wp2_with fail
      refine (sortI_own A m c _ ss _ HK.out.2.2.2.1 (by omega)).mono ?_
      rintro e W2 ⟨rfl, hO, hg⟩
      rw [sort_perm HP.out] at hO
      have HO := Lib.hid hO
      have HB := Lib.hid (below_grownO HK.out.2.2.2.2.1 hg (by omega) (by
        intro j hj
        obtain ⟨a, ea, eb⟩ := ownBlock_some hj
        have := HK.out.2.2.2.1.ge a ea; omega))
      clear hO hg
      go_wp2
      go_ret
      exact ⟨A, m, c, rfl, HO.out.less (by omega), HB.out⟩
    · intro x gk gm kl yd yp w1 cnt1 hkey hlk hv hat hrg1 hcl hg1 hs1 hen
      obtain ⟨x', ex, rfl, -⟩ := Maps.keyOf_int_inv Tryd.underlying3 hkey
      cases ex
      obtain ⟨v, hgx, -⟩ := MapP.at_ent intK hat
      have hhx : MapP.has X.goal x = true := by rw [MapP.has_get, hgx]; rfl
      have HC := Lib.hid (seen_step HK.out.2.1 hhx hlk)
      have hsz1 := hg1.size
      have hO1 := IntE.grown HK.out.2.2.2.1 hg1 (by omega)
      have hB1 := below_grown HK.out.2.2.2.2.1 hg1 (Nat.le_refl _)
      have hba : Below w1.heap.size w1 (w1.alloc (.cells #[.int .i64 x] 3)) := balloc (bsame w1) _
      have hO2 := hO1.next hba
      obtain ⟨A', c', w3, happ, hO3, hb3, hg3, hA3⟩ := hO2.app (P := Tryd.prog) 32 32 i0 _ 8 Tryd.underlying32 HI0.out iz0 iz1 iz2 rfl (IntE.lit (wr := hid A (w1.alloc (.cells #[.int .i64 x] 3))) (x := x) (Str.new w1 _ _)) (by unfold maxLen; omega) (by omega) (by simp; omega)
      have hrgA := World.ranges.alloc hrg1 (.cells #[.int .i64 x] 3)
      have HRG1 := Lib.hid (hrgA.kept hg3 (by
        intro e
        obtain ⟨a, ea, eb⟩ := ownBlock_some e.symm
        have := HK.out.2.2.2.1.ge a ea; omega) (by
        intro e
        obtain ⟨a, ea, eb⟩ := ownBlock_some e.symm
        have := HK.out.2.2.2.1.ge a ea; omega))
      have HB3 := Lib.hid ((hB1.trans (hba.mono (by omega))).trans (hb3.mono (by omega)))
      have HO3 := Lib.hid hO3
      have hsz3 : w.heap.size + 1 ≤ w3.heap.size := by have := hb3.size; have := hba.size; omega
      have HCL := Lib.hid hcl
      have HRGO := Lib.hid HK.out.1
      clear hkey hlk hv hat hrg1 hcl hg1 hs1 hO1 hB1 hba hO2 hO3 hb3 hg3 hA3 hrgA hsz1 HK hgx hhx
      go_wp2
      go_roundw
      case rel => exact ⟨_, cnt1, m + 1, c', A', _, rfl, Lib.hid ⟨HRG1.out, HC.out, by have := HCL.out; omega, HO3.out, HB3.out, hsz3⟩⟩
      case measure => rw [HRG1.out.left_eq, HRGO.out.left_eq]; exact HCL.out
/-- how much the keys of so many come to -/
def lenOf (X : St) (us : List Int) : Nat := (us.map fun u => (X.mem u).length).sum
theorem lenOf_snoc (X : St) (us : List Int) (u : Int) : lenOf X (us ++ [u]) = lenOf X us + (X.mem u).length := by simp [lenOf]
set_option maxRecDepth 100000 in
set_option maxHeartbeats 4000000 in
theorem len_any (t N : Nat) (bs : List Nat) (X : St) (w : World) (h : Lk w t bs N X) (hN : N ≤ 1000000) : Calls Tryd.prog 19 #[.pointer (some ⟨t, 0, none⟩)] w fun e w' => ∃ us : List Int, us.Nodup ∧ (∀ u, X.mem u ≠ [] → u ∈ us) ∧ e = .returned (.int .i64 (lenOf X us : Nat)) ∧ Below w.heap.size w w' := by
  obtain ⟨lab, b1, b2, b3, b4, es1, es2, es3, h⟩ := h
  have f0 := str4 h.box
  have hl := h.box.lt
  have hsl := h.m2.size_le
  have hml := h.m2.lt
  have H := Lib.hid h
  clear h
  go_enter Tryd.func19, Tryd.ntmps19
  go_wp2_with (first
    | (at_range; refine wpList_range_own _ rfl _ 66 rfl TI 90 lawI Tryd.underlying66 (MapP.rdE mapE) b2 N (MapP.dat intK es2) rfl H.out.m2.own ?_; intro w0 hrg0 hg0 hs0)
    | go_in)
  go_frame
  have HRG := Lib.hid hrg0
  have HB0 : Hid (Below w.heap.size w w0) := Lib.hid ⟨hg0.os, hg0.tape, hg0.output, hg0.size, fun k hk => hg0.block k hk (by simp)⟩
  clear hrg0 hg0 hs0 f0 hl
  go_loopw [3] (fun sv wr => ∃ (left : Lit → Bool) (cnt : Nat) (us : List Int), sv = .int .i64 (lenOf X us : Nat) ∧ Hid (wr.ranges Tryd.prog TI (MapP.rdE mapE) b2 w.heap.size N (MapP.dat intK es2) left cnt ∧ Seen es2 left us ∧ us.length + cnt ≤ es2.length ∧ lenOf X us ≤ us.length * 1000000 ∧ Below w.heap.size w wr))
    (fun _ wr => wr.rangeLeft b2 w.heap.size)
  case atStart =>
    exact ⟨_, _, [], rfl, Lib.hid ⟨HRG.out, seen_start, by rw [MapP.size_dat]; simp, Nat.le_refl _, HB0.out⟩⟩
  case round =>
    obtain ⟨left, cnt, us, rfl, HK⟩ := hrel
    have hmc := HK.out.2.2.1
    have hle := HK.out.2.2.2.1
    go_wp2_with (first
      | (at_next; refine wpList_next_ranges _ rfl _ rfl TI lawI (MapP.rdE mapE) (fun x : Int => Value.int .i64 x) (fun p : Option Nat => Value.map p) (fun key kl hk => keyI_inv hk) (fun v y hv => mapE_inv hv) b2 w.heap.size N _ _ _ rfl HK.out.1 ?_ ?_)
      | go_in)
    · intro _ hl0
      have HE := Lib.hid (seen_end HK.out.2.1 hl0)
      clear hl0
      go_wp2
      go_ret
      refine ⟨us, HK.out.2.1.1, fun u hu => ?_, rfl, HK.out.2.2.2.2⟩
      rw [HE.out u, MapP.has_get]
      cases hg : MapP.get es2 u with
      | none => exact absurd (H.out.n2 u hg) hu
      | some o => rfl
    · intro x o kl yd yp w1 cnt1 hkey hlk hv hat hrg1 hcl hg1 hs1 hen
      obtain ⟨x', ex, rfl, -⟩ := Maps.keyOf_int_inv Tryd.underlying3 hkey
      cases ex
      obtain ⟨v, hgx, hev⟩ := MapP.at_ent intK hat
      have hov : v = o := by
        have h1 : some (yd, yp) = some (.held o, []) := hv.symm.trans (MapP.rd_val mapE o)
        simp only [Option.some.injEq, Prod.mk.injEq] at h1
        rw [h1.1] at hev
        cases hev
        rfl
      subst hov
      have hhx : MapP.has es2 x = true := by rw [MapP.has_get, hgx]; rfl
      have HC := Lib.hid (seen_step HK.out.2.1 hhx hlk)
      have hB1 := below_grown HK.out.2.2.2.2 hg1 (Nat.le_refl _)
      obtain ⟨b, rfl, -, -, hM⟩ := (H.out.next hB1).e2 x v hgx
      have hlm := hM.size_le
      have hlen := fun ty => hM.len Tryd.underlying90 ty
      have hsn := lenOf_snoc X us x
      have HRG1 := Lib.hid hrg1
      have HB1 := Lib.hid hB1
      have HCL := Lib.hid hcl
      have HRGO := Lib.hid HK.out.1
      clear hkey hlk hv hat hrg1 hcl hg1 hs1 hB1 hgx hhx hM HK hev
      have hw : (lenOf X us : Int) + ((X.mem x).length : Int) ≤ 4000000000000 := by omega
      go_wp2_with fail
      go_roundw
      case rel => exact ⟨_, cnt1, us ++ [x], by rw [hsn]; go_num, Lib.hid ⟨HRG1.out, HC.out, by have := HCL.out; simp; omega, by rw [hsn, List.length_append]; simp; omega, HB1.out⟩⟩
      case measure => rw [HRG1.out.left_eq, HRGO.out.left_eq]; exact HCL.out
end LockW
end Go.Proofs.YtkkfabnehhamdaaDoor
end
section
namespace Go.Proofs.YtkkfabnehhamdaaDoor.LockP
open ModesP
set_option linter.unusedVariables false
set_option linter.unusedSectionVars false
theorem srt_congr {l l' : List ByteArray} (h : ∀ k, k ∈ l ↔ k ∈ l') : srt l = srt l' := by
  unfold srt
  congr 1
  refine SortP.ext (SortP.sort_spec _).1 (SortP.sort_spec _).1 fun x => ?_
  rw [(SortP.sort_spec _).2, (SortP.sort_spec _).2]
  unfold raw
  rw [List.mem_map, List.mem_map]
  exact ⟨fun ⟨y, hy, e⟩ => ⟨y, (h y).1 hy, e⟩, fun ⟨y, hy, e⟩ => ⟨y, (h y).2 hy, e⟩⟩
theorem srt_one (k : ByteArray) : srt [k] = [k] := by
  unfold srt
  have h : SortP.sort (raw [k]) = raw [k] := by
    refine SortP.ext (SortP.sort_spec _).1 (by simp [raw]) fun x => ?_
    rw [(SortP.sort_spec _).2]
  rw [h, txts_raw]
section
variable {K α : Type} [DecidableEq K]
theorem del_twice (L : MapP.T K α) (k : K) : MapP.del (MapP.del L k) k = MapP.del L k := by
  unfold MapP.del
  rw [List.filter_filter]
  congr 1
  funext p
  simp
theorem len_ins (lt : K → K → Bool) (p : K × α) : ∀ L : MapP.T K α, (MapP.ins lt p L).length = L.length + 1
  | [] => rfl
  | q :: r => by
    unfold MapP.ins
    split
    · rfl
    · rw [List.length_cons, len_ins lt p r, List.length_cons]
theorem len_put (lt : K → K → Bool) (L : MapP.T K α) (k : K) (v : α) : (MapP.put lt L k v).length ≤ L.length + 1 := by
  unfold MapP.put
  rw [len_ins]
  have := len_del_le L k
  omega
end
def inL (l : List ByteArray) (k : ByteArray) : Bool := l.any fun x => decide (x = k)
theorem inL_iff {l : List ByteArray} {k : ByteArray} : inL l k = true ↔ k ∈ l := by
  unfold inL
  rw [List.any_eq_true]
  exact ⟨fun ⟨x, hx, e⟩ => by simp at e; rw [← e]; exact hx, fun h => ⟨k, h, by simp⟩⟩
/-- drops, at once -/
theorem drops_eq (t : Int) : ∀ (l : List ByteArray) (s : St), drops s t l = { s with own := fun k => if inL l k = true then MapP.del (s.own k) t else s.own k, mem := fun u => if u = t then (s.mem u).filter (fun p => !inL l p.1) else s.mem u }
  | [], s => by
    obtain ⟨o, m, r, g⟩ := s
    unfold drops
    have h0 : ∀ k, inL [] k = false := fun _ => rfl
    simp only [List.foldl_nil, h0, Bool.false_eq_true, if_false, Bool.not_false]
    congr 1
    funext u
    split
    · exact (List.filter_eq_self.2 (fun _ _ => rfl)).symm
    · rfl
  | k :: r, s => by
    have h := drops_eq t r (drop s t k)
    have hc : ∀ k', inL (k :: r) k' = (decide (k = k') || inL r k') := fun _ => rfl
    unfold drops at h ⊢
    rw [List.foldl_cons, h]
    obtain ⟨o, m, rw_, g⟩ := s
    unfold drop
    dsimp only
    congr 1
    · funext k'
      rw [hc]
      by_cases e : k' = k
      · subst e
        simp only [upd_same, decide_true, Bool.true_or, if_true]
        split
        · exact del_twice _ _
        · rfl
      · have e' : decide (k = k') = false := by simpa using fun h => e h.symm
        simp only [upd_other _ _ e, e', Bool.false_or]
    · funext u
      by_cases e : u = t
      · subst e
        simp only [upd_same, if_true]
        unfold MapP.del
        rw [List.filter_filter]
        congr 1
        funext p
        rw [hc]
        by_cases e2 : p.1 = k
        · simp [e2]
        · have e' : decide (k = p.1) = false := by simpa using fun h => e2 h.symm
          simp [e2, e']
      · simp only [upd_other _ _ e, e, if_false]
theorem drops_congr (t : Int) (s : St) {l l' : List ByteArray} (h : ∀ k, k ∈ l ↔ k ∈ l') : drops s t l = drops s t l' := by
  have e : inL l = inL l' := by
    funext k
    rw [Bool.eq_iff_iff, inL_iff, inL_iff, h k]
  rw [drops_eq, drops_eq, e]
section
variable (ltI : Int → Int → Bool) (ltS : ByteArray → ByteArray → Bool)
/-- the keys that one lets go of -/
def freeOf (s : St) (u : Int) : List ByteArray := (leave s u).2 ++ (s.mem u).map (·.1)
def endP (s : St) (u : Int) : St × List Int := ends ltI ltS s u (freeOf s u) (srt (freeOf s u))
def cancelP (s : St) (u : Int) : St × List Int := cancel ltI ltS s u (srt (leave s u).2)
/-- a step: what is told -/
def stepP (s : St) (act txn : Int) (key : ByteArray) (mode : Int) : St × Bool × Int × List Int :=
  if act = 1 then ((cancelP ltI ltS s txn).1, false, 0, (cancelP ltI ltS s txn).2) else
  if act = 2 then ((endP ltI ltS s txn).1, false, 0, (endP ltI ltS s txn).2) else
  ((ask ltI ltS s txn key mode).1, (ask ltI ltS s txn key mode).2.1, (ask ltI ltS s txn key mode).2.2, [])
end
section
variable {ltI : Int → Int → Bool} {ltS : ByteArray → ByteArray → Bool} {s : St} {t : Int} {k : ByteArray} {m a : Int}
theorem mem_keys {u : Int} {k : ByteArray} : k ∈ (s.mem u).map (·.1) ↔ MapP.has (s.mem u) k = true := by
  rw [List.mem_map]
  constructor
  · rintro ⟨p, hp, e⟩
    exact List.any_eq_true.2 ⟨p, hp, by simpa using e⟩
  · intro h
    obtain ⟨p, hp, e⟩ := List.any_eq_true.1 h
    exact ⟨p, hp, by simpa using e⟩
theorem ends_eq {u : Int} {fl : List ByteArray} (h1 : ∀ k ∈ (leave s u).2, k ∈ fl) (h2 : ∀ k, MapP.has (s.mem u) k = true → k ∈ fl) (h3 : ∀ k ∈ fl, k ∈ (leave s u).2 ∨ MapP.has (s.mem u) k = true) : ends ltI ltS s u fl (srt fl) = endP ltI ltS s u := by
  have h : ∀ k, k ∈ fl ↔ k ∈ freeOf s u := fun k => by
    unfold freeOf
    rw [List.mem_append, mem_keys]
    exact ⟨h3 k, fun h => h.elim (h1 k) (h2 k)⟩
  unfold endP ends
  rw [srt_congr h, drops_congr u _ h]
theorem endP_good (h : Good s) (u : Int) : Good (endP ltI ltS s u).1 ∧ (∀ t', ¬ On s t' → ¬ On (endP ltI ltS s u).1 t') ∧ ¬ On (endP ltI ltS s u).1 u :=
  ends_ok h u (fun k hk => List.mem_append_left _ hk) (fun k hk => List.mem_append_right _ (mem_keys.2 hk)) (fun k hk => mem_srt.2 hk)
theorem cancelP_good (h : Good s) (u : Int) : Good (cancelP ltI ltS s u).1 ∧ ∀ t', ¬ On s t' → ¬ On (cancelP ltI ltS s u).1 t' := cancel_ok h u (fun k hk => mem_srt.2 hk)
theorem endP_fit (h : Fit s) (u : Int) : Fit (endP ltI ltS s u).1 := by
  refine h.ends u fun k hk => ?_
  have hk := mem_srt.1 hk
  rcases List.mem_append.1 hk with hk | hk
  · exact (h.leave u).2 k hk
  · obtain ⟨p, hp, e⟩ := List.mem_map.1 hk
    rw [← e]; exact h.mem u p hp
theorem cancelP_fit (h : Fit s) (u : Int) : Fit (cancelP ltI ltS s u).1 := h.cancel u fun k hk => (h.leave u).2 k (mem_srt.1 hk)
theorem endP_len (h : Ok s) (u : Int) : (endP ltI ltS s u).1.goal.length + (endP ltI ltS s u).2.length ≤ s.goal.length := by
  obtain ⟨l1, -⟩ := leave_ok h u
  obtain ⟨d1, d2, d3, -⟩ := drops_ok u (freeOf s u) l1
  have h1 := grantAll_len (ltI := ltI) (ltS := ltS) (srt (freeOf s u)) d1
  have h2 := leave_len s u
  rw [d3] at h1
  unfold endP ends
  omega
theorem cancelP_len (h : Ok s) (u : Int) : (cancelP ltI ltS s u).1.goal.length + (cancelP ltI ltS s u).2.length ≤ s.goal.length := by
  obtain ⟨l1, -⟩ := leave_ok h u
  have h1 := grantAll_len (ltI := ltI) (ltS := ltS) (srt (leave s u).2) l1
  have h2 := leave_len s u
  unfold cancelP cancel
  omega
theorem ask_len (s : St) (t : Int) (k : ByteArray) (m : Int) : (ask ltI ltS s t k m).1.goal.length ≤ s.goal.length + 1 := by
  unfold ask
  repeat' split
  · exact Nat.le_succ _
  · exact Nat.le_succ _
  · exact Nat.le_succ _
  · exact Nat.le_succ _
  · exact len_put _ _ _ _
end
end Go.Proofs.YtkkfabnehhamdaaDoor.LockP
end
section
namespace Go.Proofs.YtkkfabnehhamdaaDoor
open Go.ChangeShapes Go.WideShapes Go.ChangeAt Go.RowKit
set_option linter.unusedVariables false
section
variable {H : Type} {enc : TypeId × Value → H} {P : Program} {w : World}
/-- a slice whose elements can be read one by one -/
theorem elems_of {α : Type} (E : El α) {fuel : Nat} {t e : TypeId} {cs : List Value} {x : DataW H × List MemPlace} (ht : P.underlying t = some (.slice e)) (hc : P.cellsOf e = E.size)
    (hel : ∀ (n : Nat) (cs : List Value) y, DataW.trod enc P w 0 (fun _ => true) true n e cs = some y → ∃ x, E.rel w w.heap.size cs x)
    (h : DataW.trod enc P w 0 (fun _ => true) true fuel t cs = some x) : ∃ A n c l, cs = [.slice A n c] ∧ Elems E w w.heap.size A n c l := by
  rcases Go.Deep.open_slice ht h with ⟨hcs, _⟩ | ⟨a, len, cap, m, n, D, Pl, hcs, _, hl, hm, hmm, _, hx⟩
  · exact ⟨none, 0, 0, [], hcs, Elems.none_ _ _ _⟩
  · have hlm : len ≤ m := by rw [hmm]; split <;> omega
    have key : ∀ k, k ≤ len → ∃ (vs : List (List Value)) (l : List α), Rel2 (E.rel w w.heap.size) vs l ∧ l.length = k ∧ ∀ j v, vs.flatten[j]? = some v → w.cell? (a.add j) = some v := by
      intro k
      induction k with
      | zero => intro _; exact ⟨[], [], trivial, rfl, fun j v hv => by simp at hv⟩
      | succ k ih =>
        intro hk
        obtain ⟨vs, l, hr, hlen, hcell⟩ := ih (by omega)
        obtain ⟨cs', h1, h2⟩ := hx k (by omega)
        obtain ⟨y, hy⟩ := hel _ _ _ h2
        obtain ⟨_, hcl, hci⟩ := World.cells?_some h1
        refine ⟨vs ++ [cs'], l ++ [y], Rel2.append (show Rel2 (E.rel w w.heap.size) [cs'] [y] from ⟨hy, trivial⟩) hr, by simp [hlen], fun j v hv => ?_⟩
        have hfl : vs.flatten.length = k * E.size := by rw [hr.flat (fun _ _ => E.len), hlen]
        rw [List.flatten_append, List.flatten_singleton] at hv
        by_cases hj : j < vs.flatten.length
        · rw [List.getElem?_append_left hj] at hv
          exact hcell j v hv
        · rw [List.getElem?_append_right (by omega), hfl] at hv
          have hi := (List.getElem?_eq_some_iff.1 hv).1
          have := hci (j - k * E.size) (by omega)
          rw [hv, hc, Go.Deep.add_add, show k * E.size + (j - k * E.size) = j by omega] at this
          exact this
    obtain ⟨vs, l, hr, hlen, hcell⟩ := key len (Nat.le_refl _)
    refine ⟨some a, len, cap, l, hcs, vs, hr, hlen, hl, hm, fun hn => ?_⟩
    have hfl : vs.flatten.length = len * E.size := by rw [hr.flat (fun _ _ => E.len), hlen]
    have hpos : 0 < vs.flatten.length := by rw [hfl]; exact Nat.mul_pos hn E.pos
    obtain ⟨b, o, s⟩ := a
    have h0 := hcell 0 _ (List.getElem?_eq_getElem hpos)
    have hs : s = none := by simpa [Addr.add] using World.cell?_spot h0
    subst hs
    refine ⟨b, o, rfl, by simpa [Addr.add] using lt_of_cell h0, fun j v hv => ?_⟩
    have := hcell j v hv
    rwa [add_none] at this
end
end Go.Proofs.YtkkfabnehhamdaaDoor
end
