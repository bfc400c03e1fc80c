/-
  Parts of the proof of WalStays.
-/
import Derived.Test.YtpdfnlhhnodnjaaGreatWsG35
import Derived.Test.YtpdfnlhhnodnjaaGreatWsG37
import Derived.Test.YtpdfnlhhnodnjaaGreatWsG38
import Derived.Test.YtpdfnlhhnodnjaaGreatWsG15
section
namespace Go.Proofs.YtpdfnlhhnodnjaaGreat
open Go.RowKit
set_option linter.unusedVariables false
set_option linter.unusedSimpArgs false
theorem RecP.same_me (x : RecX) : RecP.same x x = true := by
  unfold RecP.same UndoP.same
  simp [RecP.samePats_all (l := x.patches) (m := x.patches) (k := x.patches.length) rfl rfl rfl, SlotP.same_self]
namespace walStays
open RecW WalW RowsP RowsW
attribute [local go_sem] Oper.semAt_some
attribute [local go_sem ↓] app_fold cut_fold
theorem infoRec : (Tryz.prog.info? 40).map (fun i => (i.zero, i.size, i.bytes)) = some (some (.agg #[.int .i64 0, .int .i64 0, .int .i64 0, .int .i64 0, .slice none 0 0, .int .i64 0, .string ⟨#[]⟩, .int .i64 0, .string ⟨#[]⟩, .int .i64 0, .slice none 0 0, .int .i64 0, .int .i64 0, .int .i64 0, .int .i64 0]), 15, 168) := by kernel_rfl
theorem run_equalIn_func_nil {P : Program} (w : World) (d : Nat) (t : TypeId) {a b : Array TypeId} {c : Bool} (h : P.underlying t = some (.func a b c)) (f : Fn) (xs ys : Array Value) : (Op.equalIn (d + 1) t (.func f xs ys) .nilFunc).run P w = .ok false w := by
  simp [Op.equalIn, run_underlying h]
theorem run_eql_func_nil {P : Program} (w : World) (t : TypeId) {a b : Array TypeId} {c : Bool} (h : P.underlying t = some (.func a b c)) (f : Fn) (xs ys : Array Value) : (binOp .eql t (.func f xs ys) .nilFunc).run P w = .ok (.bool false) w := by
  simp only [binOp]
  simp [Op.equal, Op.maxDepth, run_equalIn_func_nil w 9999 t h]
/-- fifteen cells behind a place -/
def Str15 (w : World) (b o : Nat) (cs : Array Value) : Prop := w.cell? ⟨b, o, none⟩ = cs[0]? ∧ w.cell? ⟨b, o + 1, none⟩ = cs[1]? ∧ w.cell? ⟨b, o + 2, none⟩ = cs[2]? ∧ w.cell? ⟨b, o + 3, none⟩ = cs[3]? ∧ w.cell? ⟨b, o + 4, none⟩ = cs[4]? ∧ w.cell? ⟨b, o + 5, none⟩ = cs[5]? ∧ w.cell? ⟨b, o + 6, none⟩ = cs[6]? ∧ w.cell? ⟨b, o + 7, none⟩ = cs[7]? ∧ w.cell? ⟨b, o + 8, none⟩ = cs[8]? ∧ w.cell? ⟨b, o + 9, none⟩ = cs[9]? ∧ w.cell? ⟨b, o + 10, none⟩ = cs[10]? ∧ w.cell? ⟨b, o + 11, none⟩ = cs[11]? ∧ w.cell? ⟨b, o + 12, none⟩ = cs[12]? ∧ w.cell? ⟨b, o + 13, none⟩ = cs[13]? ∧ w.cell? ⟨b, o + 14, none⟩ = cs[14]?
theorem str15_of {w : World} {b o : Nat} {cs : Array Value} (hs : cs.size = 15) (h : ∀ j v, cs.toList[j]? = some v → w.cell? ⟨b, o + j, none⟩ = some v) : Str15 w b o cs := by
  have key : ∀ j, j < 15 → w.cell? ⟨b, o + j, none⟩ = cs[j]? := fun j hj => by
    have e : cs[j]? = some (cs[j]'(by omega)) := Array.getElem?_eq_getElem (by omega)
    rw [e]
    exact h j _ (by rw [Array.getElem?_toList, e])
  exact ⟨key 0 (by omega), key 1 (by omega), key 2 (by omega), key 3 (by omega), key 4 (by omega), key 5 (by omega), key 6 (by omega), key 7 (by omega), key 8 (by omega), key 9 (by omega), key 10 (by omega), key 11 (by omega), key 12 (by omega), key 13 (by omega), key 14 (by omega)⟩
theorem whole0 : Whole [] 0 0 := ⟨Nat.le_refl _, by rw [at_zero]; exact Nat.le_refl _, .inl rfl⟩
theorem ends_in64 {K : List RecX} (hK : ∀ x ∈ K, RecP.fits x = true ∧ RecIn x) (hl : K.length ≤ 1000) : ∀ p ∈ ends K, In64 p := fun p hp => by
  unfold ends at hp
  obtain ⟨i, hi, rfl⟩ := List.mem_map.1 hp
  have h1 := at_le K (i + 1)
  have h2 := fit_len hK
  exact ⟨by omega, by omega⟩
set_option maxRecDepth 100000 in
set_option maxHeartbeats 8000000 in
theorem go (A0 : Option Addr) (n0 c0 : Nat) (lr : List RecX) (fo kp : Int) (hfo : In64 fo) (hkp : In64 kp) (w : World) (hE : Elems RecE w w.heap.size A0 n0 c0 lr) :
    Calls Tryz.prog 3 #[.slice A0 n0 c0, .int .i64 fo, .int .i64 kp] w fun e w' => e = .returned (.bool true) ∧ Below w.heap.size w w' := by
  have HL0 := Lib.hid hE
  have HKP := Lib.hid hkp
  have hcap := hE.cap
  have hcm := hcap.2
  unfold maxLen at hcm
  clear hE hfo hkp
  obtain ⟨W0, hW0⟩ : ∃ W, w.alloc (.cells #[.bool false] 4) = W := ⟨_, rfl⟩
  obtain ⟨HR0, HB0, hw0, hz0⟩ := new1 hW0
  have HZ0 := Lib.hid hz0
  clear hz0
  have hfn := fun W xs ys => run_eql_func_nil (P := Tryz.prog) W 51 Tryz.underlying51 (.func 28) xs ys
  refine (callsIn_wide (n := 5)).1 ?_
  refine callsIn_of_wp_marks Tryz.func3 rfl trivial ?_ rfl
  simp only [Tryz.ntmps3, List.size_toArray, List.length_cons, List.length_nil, Nat.reduceAdd, Nat.reduceSub, Array.replicate_succ, Array.replicate_zero, List.push_toArray, List.append_toArray, List.nil_append, List.cons_append]
  by_cases h30 : 30 < n0
  · have hd30 : decide ((30 : Int) < (n0 : Int)) = true := by simp; omega
    gi_wp2_with fail
    refine ⟨trivial, ?_⟩
    refine (callsIn_wide.2 (WalW.live_any W0)).mono ?_
    rintro e W99 ⟨rfl, hb99⟩
    have HB99 := Lib.hid (bstep HB0.out hb99)
    have HR99 := Lib.hid ((HR0.out).next hb99)
    have r99 : W99.cell? ⟨w.heap.size, 0, none⟩ = some (.bool false) := by simpa using HR99.out.cell 0
    have rf99 := fun j => HR99.out.frozen j
    have hr99 := HR99.out.lt
    clear hb99
    gi_wp2_with fail
    have hg : W99.grownBy (W99.setCell ⟨w.heap.size, 0, none⟩ (.bool true)) (some w.heap.size) := grown_set (grown_refl W99 _) 0 _
    have HFIN := Lib.hid (below_grown HB99.out hg (Nat.le_refl _))
    have hrs : Str (W99.setCell ⟨w.heap.size, 0, none⟩ (.bool true)) w.heap.size #[.bool true] := by have := HR99.out.set 0 (.bool true); simpa using this
    have rr : (W99.setCell ⟨w.heap.size, 0, none⟩ (.bool true)).cell? ⟨w.heap.size, 0, none⟩ = some (.bool true) := by simpa using hrs.cell 0
    exact ⟨.bool true, by simp [results, Tryz.results3, go_sem, *], rfl, HFIN.out⟩
  have hd30 : decide ((30 : Int) < (n0 : Int)) = false := by simp; omega
  gi_wp2_with fail
  refine ⟨trivial, ?_⟩
  refine (callsIn_wide.2 (DevW.new_any 1 W0)).mono ?_
  rintro e W1 ⟨d, bs, rfl, hD, hbs, hb1⟩
  rw [show DevP.many 1 = 1 from rfl] at hD
  have HD := Lib.hid hD
  have HBS := Lib.hid hbs
  have HB1 := Lib.hid (bstep HB0.out hb1)
  have HR1 := Lib.hid (HR0.out.next hb1)
  have hw1 := hb1.size
  clear hD hbs hb1
  gi_wp2_with fail
  refine ⟨trivial, ?_⟩
  refine (callsIn_wide.2 (load_any w.heap.size d bs 1048576 (DevP.new 1) [] 0 0 W1 HD.out (fun b hb => Nat.le_trans hw0 (HBS.out b hb)) HB1.out.size (by omega) (by omega) whole0 (fun x hx => by cases hx) rfl (by simp [allB]) rfl rfl rfl ⟨by decide, by decide, by decide⟩ (by rw [at_zero]; exact ⟨by decide, by decide, by decide⟩) (by simp) (by omega))).mono ?_
  rintro e W2 ⟨lb, mb, A2, c2, bs2, L2, rfl, hk2, hl2, -, hlb, hmb, hA2, hn2⟩
  rw [at_zero] at hl2
  have hw2 := hk2.size
  have HB2 := Lib.hid (HB1.out.trans (hk2.below HB1.out.size (fun b hb => Nat.le_trans hw0 (HBS.out b hb))))
  have hrl := HR1.out.lt
  have hrb : w.heap.size ∉ bs := fun hm => by have := HBS.out _ hm; have := HZ0.out; omega
  have HR2 := Lib.hid (HR1.out.keepB hk2 hrb)
  have HL2 := Lib.hid hl2
  have HH2 : Hid (Hi w.heap.size lb mb A2 bs2) := Lib.hid ⟨by omega, by omega, fun a e => by have := hA2 a e; omega, fun b hb => by rcases hn2 b hb with h | h; exact Nat.le_trans hw0 (HBS.out b h); omega⟩
  have HF2 : Hid (Free lb mb A2 bs2 w.heap.size) := Lib.hid ⟨by omega, by omega, fun a e => by have := hA2 a e; omega, fun hm => by rcases hn2 _ hm with h | h; exact hrb h; omega⟩
  clear hk2 hl2 hA2 hn2 hrb
  gi_wp2_with fail
  obtain ⟨W3, hW3⟩ : ∃ W, W2.alloc (.cells #[.slice none 0 0] 22) = W := ⟨_, rfl⟩
  obtain ⟨HA3, HB3, hw3, hz3⟩ := new1 hW3
  have HI3 : Hid (SI w W3 w.heap.size W2.heap.size lb d mb 0 0 0 A2 c2 bs2 (cutD (DevP.new 1) 0) L2 (ends (([] : List RecX).take 0)) none 0 [] [] (2 * ((0 : Nat) : Int) + 5)) := Lib.hid ⟨bstep HB2.out HB3.out, HR2.out.next HB3.out, HA3.out, OwnE.none_ _ _ _ _, HL2.out.next HB3.out, HH2.out, ⟨rfl, rfl, rfl, rfl, by decide, rfl, rfl⟩, (fun x hx => by cases hx), Nat.le_refl _, HF2.out, ⟨by have := HL2.out.box.lt; omega, by have := HL2.out.map.lt; omega, fun a e => by have := IntE.lt HL2.out.row a e; omega, fun hm => by have := HL2.out.dev.lt _ hm; omega⟩, (fun a e => by cases e), by have := HR2.out.lt; omega, Nat.le_refl _, by omega⟩
  rw [hW3]
  clear HD HR1 HB1 HR0 HB0 HL2 HH2 HF2 HR2 HB2 HA3 HB3 hz3 hW3 hW0
  gi_wp2
  gi_loopw [11, 12, 13] (fun sv ev iv wr => ∃ (k m safe : Nat) (Al : Option Addr) (cl : Nat) (bs : List Nat) (X : DevX) (L : MapP.T Int (Array Value)) (ps : List Int) (Aa : Option Addr) (ca : Nat) (K : List RecX), k ≤ n0 ∧ m ≤ k ∧ K.length = m ∧ sv = .int .i64 (safe : Int) ∧ ev = .int .i64 ((at_ K m : Nat) : Int) ∧ iv = .int .i64 (k : Int) ∧ Hid (SI w wr w.heap.size W2.heap.size lb d mb m m safe Al cl bs X L ps Aa ca K K (2 * (k : Int) + 5))) (fun _ _ iv _ => n0 - (intOf iv).toNat)
  case atStart => exact ⟨0, 0, 0, A2, c2, bs2, _, L2, _, none, 0, [], Nat.zero_le _, Nat.le_refl _, rfl, rfl, by rw [at_zero]; rfl, rfl, HI3⟩
  case round =>
    obtain ⟨k, m, safe, Al, cl, bs, X, L, ps, Aa, ca, K, hk, hmk, hKm, rfl, rfl, rfl, HI⟩ := hrel
    clear HI3
    have hwr := HI.out.bel.size
    have hsm := HI.out.sm
    have HKM := Lib.hid hKm
    by_cases hlt : k < n0
    · have hd : decide ((k : Int) < (n0 : Int)) = true := by simpa using hlt
      have hki : (0 : Int) ≤ (k : Int) := by omega
      obtain ⟨b, o, x, A, n, c, Ap, np, cp, rfl, hb, hx, hpe, hpb, hin, hcell⟩ := rec_at HL0.out hlt
      obtain ⟨kd, tx, pv, nx, l, ⟨pact, puk, ⟨pst, pk, ⟨pkd, pda, plo, phi, pva⟩⟩, pun⟩⟩ := x
      have HIN := Lib.hid hin
      obtain ⟨⟨hpuk, hpk⟩, hui, hia, hun, hi4⟩ := hin
      dsimp only at hpe hpb hpuk hpk
      have HX := Lib.hid hx
      have HE := Lib.hid hpe
      have HP := Lib.hid hpb
      have HPK := Lib.hid (And.intro hpk hpuk)
      have HCL : Hid (∀ W, Below w.heap.size w W → Str15 W b (o + k * 15) #[.int .i64 kd, .int .i64 tx, .int .i64 pv, .int .i64 nx, .slice A n c, .int .i64 pact, .string puk, .int .i64 pst, .string pk, .int .i64 pkd, .slice Ap np cp, .int .i64 plo, .int .i64 phi, .int .i64 pva, .int .i64 pun]) := Lib.hid (fun W hW => str15_of rfl fun j v hj => by rw [← hcell j v hj]; exact hW.cell (p := ⟨b, o + k * 15 + j, none⟩) hb)
      clear hx hpe hpb hpk hpuk hun hui hcell hia hi4
      have q := HCL.out wr HI.out.bel
      unfold Str15 at q
      gi_wp2_with fail
      refine ⟨trivial, ?_⟩
      refine (callsIn_wide.2 (RefRec.much_is kd tx pv nx A n c w.heap.size l pact puk Ap np cp w.heap.size pst pk pkd pda plo phi pva pun wr (HE.out.below HI.out.bel) HI.out.bel.size (HP.out.below HI.out.bel) HI.out.bel.size HPK.out.1 HPK.out.2)).mono ?_
      rintro e V1 ⟨rfl, hb1⟩
      have HI1 := Lib.hid (HI.out.next hb1)
      have hw1 := HI1.out.bel.size
      have hwv1 := hb1.size
      clear hb1 q HI
      cases hmu : (!decide (RefRec.Asked ⟨kd, tx, pv, nx, l, ⟨pact, puk, ⟨pst, pk, ⟨pkd, pda, plo, phi, pva⟩⟩, pun⟩⟩)) with
      | true =>
        gi_wp2_with fail
        refine ⟨trivial, ?_⟩
        refine (callsIn_wide.2 (WalW.live_any V1)).mono ?_
        rintro e W99 ⟨rfl, hb99⟩
        have HB99 := Lib.hid (bstep HI1.out.bel hb99)
        have HR99 := Lib.hid ((HI1.out.rbs).next hb99)
        have r99 : W99.cell? ⟨w.heap.size, 0, none⟩ = some (.bool false) := by simpa using HR99.out.cell 0
        have rf99 := fun j => HR99.out.frozen j
        have hr99 := HR99.out.lt
        clear hb99
        gi_wp2_with fail
        have hg : W99.grownBy (W99.setCell ⟨w.heap.size, 0, none⟩ (.bool true)) (some w.heap.size) := grown_set (grown_refl W99 _) 0 _
        have HFIN := Lib.hid (below_grown HB99.out hg (Nat.le_refl _))
        have hrs : Str (W99.setCell ⟨w.heap.size, 0, none⟩ (.bool true)) w.heap.size #[.bool true] := by have := HR99.out.set 0 (.bool true); simpa using this
        have rr : (W99.setCell ⟨w.heap.size, 0, none⟩ (.bool true)).cell? ⟨w.heap.size, 0, none⟩ = some (.bool true) := by simpa using hrs.cell 0
        exact ⟨.bool true, by simp [results, Tryz.results3, go_sem, *], rfl, HFIN.out⟩
      | false =>
        clear hmu
        have HSM := Lib.hid (HI1.out.x.small HI1.out.fit (by omega) (by rw [HKM.out]; omega))
        have hoff := HI1.out.x.f
        have hfu := HI1.out.x.u
        have q := HCL.out V1 HI1.out.bel
        unfold Str15 at q
        gi_wp2_with fail
        refine ⟨trivial, ?_⟩
        cases hf : RecP.fits ⟨kd, tx, pv, nx, l, ⟨pact, puk, ⟨pst, pk, ⟨pkd, pda, plo, phi, pva⟩⟩, pun⟩⟩ with
        | false =>
          refine (callsIn_wide.2 (append_bad w.heap.size kd tx pv nx l pact puk pst pk pkd pda plo phi pva pun A n c Ap np cp 0 V1 (HE.out.below HI1.out.bel) (HP.out.below HI1.out.bel) HI1.out.log HI1.out.hi hw1 HSM.out hoff hfu (by omega) (by omega) (by omega) HPK.out.1 HPK.out.2 hf (by unfold maxLen; omega) (by omega))).mono ?_
          rintro e V2 ⟨rfl, hb2, -⟩
          have HI2 := Lib.hid (HI1.out.next hb2)
          clear hb2 q hf hoff hfu
          have HIb := Lib.hid (HI2.out.more (o' := 2 * ((k + 1 : Nat) : Int) + 5) (by omega))
          have hneq : ((1 : Int) == 0) = false := by decide
          gi_wp2_with fail
          refine ⟨trivial, ?_⟩
          refine (callsIn_wide.2 (WalW.code_any 1 V2)).mono ?_
          rintro e w' ⟨rfl, rfl⟩
          gi_wp2_with fail
          go_roundw
          case rel => exact ⟨k + 1, m, safe, Al, cl, bs, X, L, ps, Aa, ca, K, by omega, by omega, HKM.out, rfl, rfl, by go_num, HIb⟩
          case measure => simp [intOf]; omega
        | true =>
          have hfit : ∀ y ∈ K ++ [⟨kd, tx, pv, nx, l, ⟨pact, puk, ⟨pst, pk, ⟨pkd, pda, plo, phi, pva⟩⟩, pun⟩⟩], RecP.fits y = true ∧ RecIn y := fun y hy => by
            rcases List.mem_append.1 hy with h | h
            · exact HI1.out.fit y h
            · rw [List.mem_singleton.1 h]; exact ⟨hf, HIN.out⟩
          have HXA := Lib.hid (HI1.out.x.app (x := ⟨kd, tx, pv, nx, l, ⟨pact, puk, ⟨pst, pk, ⟨pkd, pda, plo, phi, pva⟩⟩, pun⟩⟩) (by rw [HKM.out]; exact hsm))
          have HSM3 := Lib.hid (HXA.out.small hfit (by omega) (by rw [List.length_append, HKM.out]; simp; omega))
          have HFIT := Lib.hid hfit
          clear hfit
          by_cases hroom : (0 : Int) ≤ 1048576 - (X.log.length : Nat) - 0 - ((RecP.bytes ⟨kd, tx, pv, nx, l, ⟨pact, puk, ⟨pst, pk, ⟨pkd, pda, plo, phi, pva⟩⟩, pun⟩⟩).length : Nat)
          case neg =>
            refine (callsIn_wide.2 (append_fullG w.heap.size kd tx pv nx l pact puk pst pk pkd pda plo phi pva pun A n c Ap np cp 0 V1 (HE.out.below HI1.out.bel) (HP.out.below HI1.out.bel) HI1.out.log HI1.out.hi hw1 HSM.out hoff hfu (by omega) (by omega) (by omega) HPK.out.1 HPK.out.2 hf HSM3.out (by unfold maxLen; omega) (by omega) (by omega))).mono ?_
            rintro e V2 ⟨rfl, hb2, -⟩
            have HI2 := Lib.hid (HI1.out.next hb2)
            clear hb2 q hf hoff hfu hroom
            have HIb := Lib.hid (HI2.out.more (o' := 2 * ((k + 1 : Nat) : Int) + 5) (by omega))
            have hneq : ((9 : Int) == 0) = false := by decide
            gi_wp2_with fail
            refine ⟨trivial, ?_⟩
            refine (callsIn_wide.2 (WalW.code_any 9 V2)).mono ?_
            rintro e w' ⟨rfl, rfl⟩
            gi_wp2_with fail
            go_roundw
            case rel => exact ⟨k + 1, m, safe, Al, cl, bs, X, L, ps, Aa, ca, K, by omega, by omega, HKM.out, rfl, rfl, by go_num, HIb⟩
            case measure => simp [intOf]; omega
          case pos =>
            refine (callsIn_wide.2 (append_gen w.heap.size kd tx pv nx l pact puk pst pk pkd pda plo phi pva pun A n c Ap np cp 0 V1 (HE.out.below HI1.out.bel) (HP.out.below HI1.out.bel) HI1.out.log HI1.out.hi hw1 HSM.out hoff hfu (by omega) (by omega) (by omega) HPK.out.1 HPK.out.2 hf HSM3.out (by unfold maxLen; omega) (by omega) hroom)).mono ?_
            rintro e V2 ⟨A2', c2', bs2', L2', rfl, hb2, hl2, hh2, ho2⟩
            have hplen : X.head + ((X.log.length : Nat) : Int) + (((RecP.bytes ⟨kd, tx, pv, nx, l, ⟨pact, puk, ⟨pst, pk, ⟨pkd, pda, plo, phi, pva⟩⟩, pun⟩⟩).length : Nat) : Int) = ((at_ (K ++ [⟨kd, tx, pv, nx, l, ⟨pact, puk, ⟨pst, pk, ⟨pkd, pda, plo, phi, pva⟩⟩, pun⟩⟩]) (m + 1) : Nat) : Int) := by
              have e1 : at_ (K ++ [⟨kd, tx, pv, nx, l, ⟨pact, puk, ⟨pst, pk, ⟨pkd, pda, plo, phi, pva⟩⟩, pun⟩⟩]) (m + 1) = (allB (K ++ [⟨kd, tx, pv, nx, l, ⟨pact, puk, ⟨pst, pk, ⟨pkd, pda, plo, phi, pva⟩⟩, pun⟩⟩])).length := by rw [← at_all, List.length_append, HKM.out]; rfl
              rw [e1, allB_app, List.length_append, HI1.out.x.h, HI1.out.x.l]
              omega
            have hlt1 : X.sure < X.head + ((X.log.length : Nat) : Int) + (((RecP.bytes ⟨kd, tx, pv, nx, l, ⟨pact, puk, ⟨pst, pk, ⟨pkd, pda, plo, phi, pva⟩⟩, pun⟩⟩).length : Nat) : Int) := by
              have e1 := (fits_small hf).1
              have e2 := at_le K safe
              rw [HI1.out.x.h, HI1.out.x.l, HI1.out.x.s]
              omega
            obtain ⟨pl, hpl⟩ : ∃ p : Int, X.head + ((X.log.length : Nat) : Int) + (((RecP.bytes ⟨kd, tx, pv, nx, l, ⟨pact, puk, ⟨pst, pk, ⟨pkd, pda, plo, phi, pva⟩⟩, pun⟩⟩).length : Nat) : Int) = p := ⟨_, rfl⟩
            rw [hpl] at hl2 hplen hlt1 ⊢
            rw [show max (0 + 0 : Int) 0 = 0 from rfl] at hl2
            have HI2 : Hid (SI w V2 w.heap.size W2.heap.size lb d mb (m + 1) m safe A2' c2' bs2' (appX X (RecP.bytes ⟨kd, tx, pv, nx, l, ⟨pact, puk, ⟨pst, pk, ⟨pkd, pda, plo, phi, pva⟩⟩, pun⟩⟩)) L2' (ps ++ [pl]) Aa ca K (K ++ [⟨kd, tx, pv, nx, l, ⟨pact, puk, ⟨pst, pk, ⟨pkd, pda, plo, phi, pva⟩⟩, pun⟩⟩]) (2 * (k : Int) + 5 + 1)) := Lib.hid (HI1.out.told hb2 hl2 hh2 ho2 HXA.out HFIT.out hsm)
            have HPL := Lib.hid hplen
            have HLT := Lib.hid hlt1
            clear hb2 hl2 hh2 ho2 hpl hplen hlt1 q hf hoff hfu hroom HI1 HSM HXA
            have hneq : ((0 : Int) == 0) = true := by decide
            gi_wp2_with fail
            refine ⟨trivial, ?_⟩
            refine (callsIn_wide.2 (WalW.code_any 0 V2)).mono ?_
            rintro e w' ⟨rfl, rfl⟩
            obtain ⟨i0, hi0, iz0, iz1, iz2⟩ := info_parts infoRec
            have HI0 := Lib.hid (And.intro hi0 (And.intro iz0 (And.intro iz1 iz2)))
            have HNE : Hid (∀ p, Aa = some p → p.block ≠ W2.heap.size) := Lib.hid (fun p e => (HI2.out.f3 p e).2.2.1)
            have HQL : Hid (W2.heap.size < V2.heap.size) := Lib.hid HI2.out.abs_.lt
            have HBL : Hid (∀ g ∈ W2.heap.size :: (Aa.map (·.block)).toList, w.heap.size ≤ g) := Lib.hid (fun g hg => by
              rcases List.mem_cons.1 hg with e | e
              · rw [e]; exact HI2.out.l2
              · obtain ⟨p, e1, e2⟩ := Option.map_eq_some_iff.1 (Option.mem_toList.1 e)
                rw [← e2]; exact (HI2.out.f3 p e1).2.2.2)
            clear hi0 iz0 iz1 iz2
            gi_wp2_with fail
            refine wpIn_wide.2 ?_
            refine Reg.wp_region_box (R := (Reg.extB V2.heap.size (W2.heap.size :: (Aa.map (·.block)).toList))) (W := V2) (Reg.LineJ (Reg.Line.mk [0, 6, 7] 5 (Reg.PushQ.S (Reg.PushQ.mk (E := Rec0 w) V2.heap.size W2.heap.size 0 #[.slice Aa m ca] Aa m ca K ⟨kd, tx, pv, nx, l, ⟨pact, puk, ⟨pst, pk, ⟨pkd, pda, plo, phi, pva⟩⟩, pun⟩⟩ 40 58 63 64)))) [Reg.any, Reg.eqv (.slice (some ⟨b, o, none⟩) n0 c0), Reg.eqv (.int .i64 (k : Int)), Reg.eqv (.pointer (some ⟨b, o + k * 15, none⟩)), Reg.eqv (.agg #[.int .i64 kd, .int .i64 tx, .int .i64 pv, .int .i64 nx, .slice A n c, .int .i64 pact, .string puk, .int .i64 pst, .string pk, .int .i64 pkd, .slice Ap np cp, .int .i64 plo, .int .i64 phi, .int .i64 pva, .int .i64 pun]), Reg.any, Reg.any, Reg.any] 136 [[(10, none)], [(0, none)], [(13, none)], [(59, some 1), (60, some 2)], [(61, some 3)], [(62, some 4)], [(58, some 0), (63, some 5)], [(10, none), (64, some 6)]] rfl (by kernel_rfl) (by kernel_rfl) (fun _ h => Reg.line_zero (l := (Reg.Line.mk [0, 6, 7] 5 (Reg.PushQ.S (Reg.PushQ.mk (E := Rec0 w) V2.heap.size W2.heap.size 0 #[.slice Aa m ca] Aa m ca K ⟨kd, tx, pv, nx, l, ⟨pact, puk, ⟨pst, pk, ⟨pkd, pda, plo, phi, pva⟩⟩, pun⟩⟩ 40 58 63 64)))) ⟨HI2.out.abs_.next ((bsame V2).drew), HI2.out.row.next ((bsame V2).drew), fun e => by cases e⟩ h) (by kernel_rfl) ?_ [some 58, some 59, some 60, some 61, some 62, some 63, some 64, none] (by kernel_rfl) ?_
            · refine ⟨?_, ?_, ?_, ?_, ?_, ?_, ?_, ?_, trivial⟩
              · refine Reg.oblL_line (l := (Reg.Line.mk [0, 6, 7] 5 (Reg.PushQ.S (Reg.PushQ.mk (E := Rec0 w) V2.heap.size W2.heap.size 0 #[.slice Aa m ca] Aa m ca K ⟨kd, tx, pv, nx, l, ⟨pact, puk, ⟨pst, pk, ⟨pkd, pda, plo, phi, pva⟩⟩, pun⟩⟩ 40 58 63 64)))) (k := 0) rfl rfl (by show List.Nodup [0, 6, 7]; decide) (by show 0 ≠ 5; decide) (by show 0 < 8; decide) (.inl rfl) ?_
                intro b ax wx hx hs has hwb hS
                obtain ⟨e10, -⟩ := hs
                have g10 := Reg.ev (v := .pointer (some ⟨W2.heap.size, 0, none⟩)) e10
                have hxs : V2.heap.size ≤ wx.heap.size := Reg.KeepB.size hx
                have z0 : wx.cell? ⟨W2.heap.size, 0, none⟩ = some (.slice Aa m ca) := str1 hS.1
                have z2 := hS.1.lt
                refine Oper.wp_mono (K := fun a1 w1 => a1 = ax.put (some 58) (.slice Aa m ca) ∧ w1 = wx) ?_ ?_
                · rintro a1 w1 ⟨rfl, rfl⟩
                  exact ⟨⟨_, rfl, (fun h => by cases h), trivial, Reg.KeepB.of (Below.refl _ _)⟩, Reg.PushQ.S_zero (I := (Reg.PushQ.mk (E := Rec0 w) V2.heap.size W2.heap.size 0 #[.slice Aa m ca] Aa m ca K ⟨kd, tx, pv, nx, l, ⟨pact, puk, ⟨pst, pk, ⟨pkd, pda, plo, phi, pva⟩⟩, pun⟩⟩ 40 58 63 64)) (b := b) (Rec0.pure w) hS (by rw [has]; show 58 < 136; decide) (by show (58 : Nat) ≠ 63; decide)⟩
                · clear has hS
                  go_simp
              · refine Reg.oblL_ord (l := (Reg.Line.mk [0, 6, 7] 5 (Reg.PushQ.S (Reg.PushQ.mk (E := Rec0 w) V2.heap.size W2.heap.size 0 #[.slice Aa m ca] Aa m ca K ⟨kd, tx, pv, nx, l, ⟨pact, puk, ⟨pst, pk, ⟨pkd, pda, plo, phi, pva⟩⟩, pun⟩⟩ 40 58 63 64)))) (by show 1 ∉ [0, 6, 7] ∧ 1 ≠ 5; decide) (Reg.extB_next rfl) (fun k1 b1 a1 w1 v1 w2 h1 h2 => Reg.PushQ.S_put (I := (Reg.PushQ.mk (E := Rec0 w) V2.heap.size W2.heap.size 0 #[.slice Aa m ca] Aa m ca K ⟨kd, tx, pv, nx, l, ⟨pact, puk, ⟨pst, pk, ⟨pkd, pda, plo, phi, pva⟩⟩, pun⟩⟩ 40 58 63 64)) (b := b1) (dst := (some 59)) (Rec0.pure w) (by show (((some 59) : Option Nat) ≠ some 58 ∧ ((some 59) : Option Nat) ≠ some 63 ∧ ((some 59) : Option Nat) ≠ some 64); decide) k1 h1 h2) ?_
                intro ax wx hx hs
                obtain ⟨e0, -⟩ := hs
                have g0 := Reg.ev (v := .slice (some ⟨b, o, none⟩) n0 c0) e0
                exact Reg.obl_freeL rfl (Reg.wp_eqvB (Option.some_ne_none _) (by go_simp) rfl)
              · refine Reg.oblL_ord (l := (Reg.Line.mk [0, 6, 7] 5 (Reg.PushQ.S (Reg.PushQ.mk (E := Rec0 w) V2.heap.size W2.heap.size 0 #[.slice Aa m ca] Aa m ca K ⟨kd, tx, pv, nx, l, ⟨pact, puk, ⟨pst, pk, ⟨pkd, pda, plo, phi, pva⟩⟩, pun⟩⟩ 40 58 63 64)))) (by show 2 ∉ [0, 6, 7] ∧ 2 ≠ 5; decide) (Reg.extB_next rfl) (fun k1 b1 a1 w1 v1 w2 h1 h2 => Reg.PushQ.S_put (I := (Reg.PushQ.mk (E := Rec0 w) V2.heap.size W2.heap.size 0 #[.slice Aa m ca] Aa m ca K ⟨kd, tx, pv, nx, l, ⟨pact, puk, ⟨pst, pk, ⟨pkd, pda, plo, phi, pva⟩⟩, pun⟩⟩ 40 58 63 64)) (b := b1) (dst := (some 60)) (Rec0.pure w) (by show (((some 60) : Option Nat) ≠ some 58 ∧ ((some 60) : Option Nat) ≠ some 63 ∧ ((some 60) : Option Nat) ≠ some 64); decide) k1 h1 h2) ?_
                intro ax wx hx hs
                obtain ⟨e13, -⟩ := hs
                have g13 := Reg.ev (v := .int .i64 (k : Int)) e13
                exact Reg.obl_freeL rfl (Reg.wp_eqvB (Option.some_ne_none _) (by go_simp) rfl)
              · refine Reg.oblL_ord (l := (Reg.Line.mk [0, 6, 7] 5 (Reg.PushQ.S (Reg.PushQ.mk (E := Rec0 w) V2.heap.size W2.heap.size 0 #[.slice Aa m ca] Aa m ca K ⟨kd, tx, pv, nx, l, ⟨pact, puk, ⟨pst, pk, ⟨pkd, pda, plo, phi, pva⟩⟩, pun⟩⟩ 40 58 63 64)))) (by show 3 ∉ [0, 6, 7] ∧ 3 ≠ 5; decide) (Reg.extB_next rfl) (fun k1 b1 a1 w1 v1 w2 h1 h2 => Reg.PushQ.S_put (I := (Reg.PushQ.mk (E := Rec0 w) V2.heap.size W2.heap.size 0 #[.slice Aa m ca] Aa m ca K ⟨kd, tx, pv, nx, l, ⟨pact, puk, ⟨pst, pk, ⟨pkd, pda, plo, phi, pva⟩⟩, pun⟩⟩ 40 58 63 64)) (b := b1) (dst := (some 61)) (Rec0.pure w) (by show (((some 61) : Option Nat) ≠ some 58 ∧ ((some 61) : Option Nat) ≠ some 63 ∧ ((some 61) : Option Nat) ≠ some 64); decide) k1 h1 h2) ?_
                intro ax wx hx hs
                obtain ⟨e59, e60, -⟩ := hs
                have g59 := Reg.ev (v := .slice (some ⟨b, o, none⟩) n0 c0) e59
                have g60 := Reg.ev (v := .int .i64 (k : Int)) e60
                refine Reg.obl_freeL rfl ?_
                exact Reg.wp_eqvB (Option.some_ne_none _) (by go_simp; first | done | (intro hq; omega)) rfl
              · refine Reg.oblL_ord (l := (Reg.Line.mk [0, 6, 7] 5 (Reg.PushQ.S (Reg.PushQ.mk (E := Rec0 w) V2.heap.size W2.heap.size 0 #[.slice Aa m ca] Aa m ca K ⟨kd, tx, pv, nx, l, ⟨pact, puk, ⟨pst, pk, ⟨pkd, pda, plo, phi, pva⟩⟩, pun⟩⟩ 40 58 63 64)))) (by show 4 ∉ [0, 6, 7] ∧ 4 ≠ 5; decide) (Reg.extB_next rfl) (fun k1 b1 a1 w1 v1 w2 h1 h2 => Reg.PushQ.S_put (I := (Reg.PushQ.mk (E := Rec0 w) V2.heap.size W2.heap.size 0 #[.slice Aa m ca] Aa m ca K ⟨kd, tx, pv, nx, l, ⟨pact, puk, ⟨pst, pk, ⟨pkd, pda, plo, phi, pva⟩⟩, pun⟩⟩ 40 58 63 64)) (b := b1) (dst := (some 62)) (Rec0.pure w) (by show (((some 62) : Option Nat) ≠ some 58 ∧ ((some 62) : Option Nat) ≠ some 63 ∧ ((some 62) : Option Nat) ≠ some 64); decide) k1 h1 h2) ?_
                intro ax wx hx hs
                obtain ⟨e61, -⟩ := hs
                have g61 := Reg.ev (v := .pointer (some ⟨b, o + k * 15, none⟩)) e61
                refine Reg.obl_freeL rfl ?_
                have hx0 : Reg.KeepB V2.heap.size (W2.heap.size :: (Aa.map (·.block)).toList) V2 wx := hx
                have hxb : Below w.heap.size w wx := HI2.out.bel.trans (hx0.below HI2.out.bel.size HBL.out)
                have q := HCL.out wx hxb
                unfold Str15 at q
                exact Reg.wp_eqvB (Option.some_ne_none _) (by go_simp) rfl
              · refine Reg.oblL_side (l := (Reg.Line.mk [0, 6, 7] 5 (Reg.PushQ.S (Reg.PushQ.mk (E := Rec0 w) V2.heap.size W2.heap.size 0 #[.slice Aa m ca] Aa m ca K ⟨kd, tx, pv, nx, l, ⟨pact, puk, ⟨pst, pk, ⟨pkd, pda, plo, phi, pva⟩⟩, pun⟩⟩ 40 58 63 64)))) rfl rfl (by show 5 ∉ [0, 6, 7]; decide) (by show 5 < 8; decide) ?_
                intro k1 ax wx hx hs has hS
                obtain ⟨e62, -⟩ := hs
                have g62 := Reg.ev (v := .agg #[.int .i64 kd, .int .i64 tx, .int .i64 pv, .int .i64 nx, .slice A n c, .int .i64 pact, .string puk, .int .i64 pst, .string pk, .int .i64 pkd, .slice Ap np cp, .int .i64 plo, .int .i64 phi, .int .i64 pva, .int .i64 pun]) e62
                have hxs : V2.heap.size ≤ wx.heap.size := Reg.KeepB.size hx
                refine Oper.wp_mono (K := fun a1 w1 => a1 = ax.put (some 63) (.slice (some ⟨wx.heap.size, 0, none⟩) 1 1) ∧ w1 = wx.alloc (.cells #[.int .i64 kd, .int .i64 tx, .int .i64 pv, .int .i64 nx, .slice A n c, .int .i64 pact, .string puk, .int .i64 pst, .string pk, .int .i64 pkd, .slice Ap np cp, .int .i64 plo, .int .i64 phi, .int .i64 pva, .int .i64 pun] 40)) ?_ ?_
                · rintro a1 w1 ⟨rfl, rfl⟩
                  exact ⟨⟨_, rfl, (fun h => by cases h), trivial, Reg.KeepB.of ((balloc (bsame wx) _).mono hxs)⟩, Reg.PushQ.S_side (I := (Reg.PushQ.mk (E := Rec0 w) V2.heap.size W2.heap.size 0 #[.slice Aa m ca] Aa m ca K ⟨kd, tx, pv, nx, l, ⟨pact, puk, ⟨pst, pk, ⟨pkd, pda, plo, phi, pva⟩⟩, pun⟩⟩ 40 58 63 64)) (Rec0.pure w) k1 hS (by rw [has]; show 63 < 136; decide) (by show (63 : Nat) ≠ 58; decide) (recV ⟨kd, tx, pv, nx, l, ⟨pact, puk, ⟨pst, pk, ⟨pkd, pda, plo, phi, pva⟩⟩, pun⟩⟩ A n c Ap np cp) 40 ⟨A, n, c, Ap, np, cp, rfl, HE.out, HP.out, HIN.out⟩⟩
                · clear has hS
                  go_simp
              · refine Reg.oblL_line (l := (Reg.Line.mk [0, 6, 7] 5 (Reg.PushQ.S (Reg.PushQ.mk (E := Rec0 w) V2.heap.size W2.heap.size 0 #[.slice Aa m ca] Aa m ca K ⟨kd, tx, pv, nx, l, ⟨pact, puk, ⟨pst, pk, ⟨pkd, pda, plo, phi, pva⟩⟩, pun⟩⟩ 40 58 63 64)))) (k := 1) rfl rfl (by show List.Nodup [0, 6, 7]; decide) (by show 6 ≠ 5; decide) (by show 6 < 8; decide) (.inr ⟨0, rfl, by kernel_rfl⟩) ?_
                intro b ax wx hx hs has hwb hS
                obtain ⟨e58, e63, -⟩ := hs
                have hxs : V2.heap.size ≤ wx.heap.size := Reg.KeepB.size hx
                obtain rfl := hwb (by kernel_rfl)
                obtain ⟨A2', A', c', w4, k1, k1', k2, k3, k4⟩ := Reg.PushQ.S_one (I := (Reg.PushQ.mk (E := Rec0 w) V2.heap.size W2.heap.size 0 #[.slice Aa m ca] Aa m ca K ⟨kd, tx, pv, nx, l, ⟨pact, puk, ⟨pst, pk, ⟨pkd, pda, plo, phi, pva⟩⟩, pun⟩⟩ 40 58 63 64)) (P := Tryz.prog) (Rec0.pure w) 22 22 i0 _ 168 Tryz.underlying22 HI0.out.1 HI0.out.2.1 HI0.out.2.2.1 HI0.out.2.2.2 rfl hS (by rw [has]; show 64 < 136; decide) hxs HNE.out (by show m + 1 ≤ maxLen; unfold maxLen; omega) (by show (m + 1) * 168 ≤ _; omega)
                exact wp_appT (.tmp 58) (.tmp 63) rfl rfl k1 k1' k2 ⟨⟨_, rfl, (fun h => by cases h), trivial, k4⟩, k3⟩
              · refine Reg.oblL_line (l := (Reg.Line.mk [0, 6, 7] 5 (Reg.PushQ.S (Reg.PushQ.mk (E := Rec0 w) V2.heap.size W2.heap.size 0 #[.slice Aa m ca] Aa m ca K ⟨kd, tx, pv, nx, l, ⟨pact, puk, ⟨pst, pk, ⟨pkd, pda, plo, phi, pva⟩⟩, pun⟩⟩ 40 58 63 64)))) (k := 2) rfl rfl (by show List.Nodup [0, 6, 7]; decide) (by show 7 ≠ 5; decide) (by show 7 < 8; decide) (.inr ⟨6, rfl, by kernel_rfl⟩) ?_
                intro b ax wx hx hs has hwb hS
                obtain ⟨e10, e64, -⟩ := hs
                have g10 := Reg.ev (v := .pointer (some ⟨W2.heap.size, 0, none⟩)) e10
                have hxs : V2.heap.size ≤ wx.heap.size := Reg.KeepB.size hx
                obtain rfl : b = true := hS.1
                obtain ⟨A', c', k1, k2, k3⟩ := Reg.PushQ.S_two (I := (Reg.PushQ.mk (E := Rec0 w) V2.heap.size W2.heap.size 0 #[.slice Aa m ca] Aa m ca K ⟨kd, tx, pv, nx, l, ⟨pact, puk, ⟨pst, pk, ⟨pkd, pda, plo, phi, pva⟩⟩, pun⟩⟩ 40 58 63 64)) (Rec0.pure w) hS HQL.out HNE.out
                have g82 := Reg.ev k1
                have z1 : wx.frozen? ⟨W2.heap.size, 0, none⟩ = false := k2.frozen 0
                have z0 : wx.cell? ⟨W2.heap.size, 0, none⟩ = some (.slice Aa m ca) := str1 k2
                have z2 := k2.lt
                refine Oper.wp_mono (K := fun a1 w1 => a1 = ax ∧ w1 = wx.setCell ⟨W2.heap.size, 0, none⟩ (.slice A' (m + 1) c')) ?_ ?_
                · rintro a1 w1 ⟨rfl, rfl⟩
                  exact ⟨⟨undef, rfl, fun _ => rfl, trivial, Reg.KeepB.grown (Reg.KeepB.of (Below.refl _ wx)) (grown_set (grown_refl wx _) 0 _) hxs (.inr (List.mem_cons_self ..))⟩, k3⟩
                · clear has k3
                  go_simp
            · intro V5 listed hwf hall
              simp only [Reg.Fin]
              rintro v58 h58 _ rfl _ rfl _ rfl _ rfl v63 h63 v64 h64 vn7 hn7
              intro hJ
              obtain ⟨bL, hbL, hSL⟩ := Reg.line_end (l := (Reg.Line.mk [0, 6, 7] 5 (Reg.PushQ.S (Reg.PushQ.mk (E := Rec0 w) V2.heap.size W2.heap.size 0 #[.slice Aa m ca] Aa m ca K ⟨kd, tx, pv, nx, l, ⟨pact, puk, ⟨pst, pk, ⟨pkd, pda, plo, phi, pva⟩⟩, pun⟩⟩ 40 58 63 64)))) (n := 8) hall (by show ∀ c ∈ [0, 6, 7], c < 8; decide) hJ
              clear hJ hall hbL
              go_simp
              obtain ⟨-, A7, c7, hb5, hO5, hN5⟩ := hSL
              have hwf' : Reg.KeepB V2.heap.size (W2.heap.size :: (Aa.map (·.block)).toList) V2 V5 := hwf
              dsimp only at hb5
              have HI5 : Hid (SI w V5 w.heap.size W2.heap.size lb d mb (m + 1) (m + 1) safe A2' c2' bs2' (appX X (RecP.bytes ⟨kd, tx, pv, nx, l, ⟨pact, puk, ⟨pst, pk, ⟨pkd, pda, plo, phi, pva⟩⟩, pun⟩⟩)) L2' (ps ++ [pl]) A7 c7 (K ++ [⟨kd, tx, pv, nx, l, ⟨pact, puk, ⟨pst, pk, ⟨pkd, pda, plo, phi, pva⟩⟩, pun⟩⟩]) (K ++ [⟨kd, tx, pv, nx, l, ⟨pact, puk, ⟨pst, pk, ⟨pkd, pda, plo, phi, pva⟩⟩, pun⟩⟩]) (2 * (k : Int) + 5 + 1)) := Lib.hid (HI2.out.push hwf' (by simpa using hb5) hO5 hN5)
              clear hwf hwf' hb5 hO5 hN5 HNE HQL HBL HI2 HI0
              have hln5 := HI5.out.row.len
              obtain ⟨m1, hm1⟩ : ∃ q, m + 1 = q := ⟨_, rfl⟩
              rw [hm1] at HI5 HPL hln5
              have HLN := Lib.hid hln5
              have g5 := str1 HI5.out.abs_
              have gl5 := HI5.out.abs_.lt
              have HSM5 := Lib.hid (HI5.out.x.small HFIT.out (by omega) (by rw [HLN.out]; omega))
              have HSM6 := Lib.hid (HI5.out.x.flush.small HFIT.out (by omega) (by rw [HLN.out]; omega))
              clear hln5
              by_cases hfo1 : (m1 : Int) = fo
              · have hq : ((m1 : Int) == fo) = true := by simpa using hfo1
                have HFO := Lib.hid hfo1
                clear hfo1
                gi_wp2_with fail
                refine ⟨trivial, ?_⟩
                refine (callsIn_wide.2 (force_any w.heap.size lb d mb m1 m1 c2' A2' bs2' (appX X (RecP.bytes ⟨kd, tx, pv, nx, l, ⟨pact, puk, ⟨pst, pk, ⟨pkd, pda, plo, phi, pva⟩⟩, pun⟩⟩)) L2' 1048576 0 (appX X (RecP.bytes ⟨kd, tx, pv, nx, l, ⟨pact, puk, ⟨pst, pk, ⟨pkd, pda, plo, phi, pva⟩⟩, pun⟩⟩)).sure (ps ++ [pl]) pl V5 HI5.out.log HI5.out.hi HI5.out.bel.size HSM5.out HSM6.out HI5.out.x.f HI5.out.x.u HLT.out)).mono ?_
                rintro e V6 ⟨rfl, hb6, bs6, hl6, hh6, ho6⟩
                have HI6 := Lib.hid (HI5.out.told hb6 hl6 hh6 ho6 HI5.out.x.flush HFIT.out (by rw [HLN.out]; exact Nat.le_refl _))
                rw [HLN.out] at HI6
                clear hb6 hl6 hh6 ho6 g5 gl5
                have g6 := str1 HI6.out.abs_
                have gl6 := HI6.out.abs_.lt
                gi_wp2_with fail
                go_roundw
                case rel => exact ⟨k + 1, m1, m1, A2', c2', bs6, _, L2', _, A7, c7, K ++ [⟨kd, tx, pv, nx, l, ⟨pact, puk, ⟨pst, pk, ⟨pkd, pda, plo, phi, pva⟩⟩, pun⟩⟩], by omega, by omega, HLN.out, by first | rfl | rw [HFO.out], by rw [HPL.out], by go_num, Lib.hid (HI6.out.more (by omega))⟩
                case measure => simp [intOf]; omega
              · have hq : ((m1 : Int) == fo) = false := by simpa using hfo1
                gi_wp2_with fail
                go_roundw
                case rel => exact ⟨k + 1, m1, safe, A2', c2', bs2', _, L2', _, A7, c7, K ++ [⟨kd, tx, pv, nx, l, ⟨pact, puk, ⟨pst, pk, ⟨pkd, pda, plo, phi, pva⟩⟩, pun⟩⟩], by omega, by omega, HLN.out, rfl, by rw [HPL.out], by go_num, Lib.hid (HI5.out.more (by omega))⟩
                case measure => simp [intOf]; omega
    · have hd : decide ((k : Int) < (n0 : Int)) = false := by simp; omega
      have HSM := Lib.hid (HI.out.x.small HI.out.fit (by omega) (by rw [HKM.out]; omega))
      obtain ⟨cut, hc1, hc2, hc3, hcl, hch, hco, hcf, hcops, hcw⟩ := HI.out.x.crash (by rw [HKM.out]; exact hsm) kp
      gi_wp2_with fail
      refine ⟨trivial, ?_⟩
      refine (callsIn_wide.2 (DevW.Crash_any kp HKP.out wr HI.out.log.dev HSM.out)).mono ?_
      rintro e V1 ⟨rfl, bs1, hD1, hn1, hk1⟩
      obtain ⟨X1, hX1⟩ : ∃ X1, DevP.crashed X kp = X1 := ⟨_, rfl⟩
      rw [hX1] at hD1 hcl hch hco hcf hcops hcw
      obtain ⟨j, hj⟩ := whole K cut
      have hsc := small_cut (n := at_ K j) hcl hch hcops hcw HI.out.fit (by omega) (by rw [HKM.out]; omega) hcf
      have HTI1 : Hid (TI w V1 w.heap.size W2.heap.size m Aa ca K) := Lib.hid ((⟨HI.out.bel, HI.out.rbs, HI.out.abs_, HI.out.row⟩ : TI w wr w.heap.size W2.heap.size m Aa ca K).keep hk1 HI.out.hi.b HI.out.f1.2.2.2 HI.out.f2.2.2.2 (fun a e => (HI.out.f3 a e).1.2.2.2))
      have hbs1 : ∀ b ∈ bs1, w.heap.size ≤ b := fun b hb => by rcases hn1 b hb with h | h; exact HI.out.hi.b b h; omega
      have hrb1 : w.heap.size ∉ bs1 := fun hm => by rcases hn1 _ hm with h | h; exact HI.out.f1.2.2.2 h; (have := HI.out.rbs.lt; omega)
      have hab1 : W2.heap.size ∉ bs1 := fun hm => by rcases hn1 _ hm with h | h; exact HI.out.f2.2.2.2 h; (have := HI.out.abs_.lt; omega)
      have har1 : ∀ a, Aa = some a → a.block ∉ bs1 := fun a e hm => by rcases hn1 _ hm with h | h; exact (HI.out.f3 a e).1.2.2.2 h; (have := OwnE.blt HI.out.row a e; omega)
      have hw1 := HTI1.out.bel.size
      have hcb : cut ≤ 100000000 := by have := fit_len HI.out.fit; rw [HKM.out] at this; omega
      have hkl : K.length ≤ 1000 := by rw [HKM.out]; omega
      gi_wp2_with fail
      refine ⟨trivial, ?_⟩
      refine (callsIn_wide.2 (load_any w.heap.size d bs1 1048576 X1 K cut j V1 hD1 hbs1 hw1 (by omega) (by omega) hj HI.out.fit hcl hc1 hch hco hcf hsc.1 hsc.2 hkl hcb)).mono ?_
      rintro e V2 ⟨lb2, mb2, Al2, cl2, bs2', L2', rfl, hk2, hl2, hr2, hlb2, hmb2, hAl2, -⟩
      have hcll : X1.log.length = cut := by rw [hcl, List.length_take]; omega
      have HSC := Lib.hid hsc
      have HEV : Hid ((cutD X1 (at_ K j)).head + (((cutD X1 (at_ K j)).log.length : Nat) : Int) = ((at_ K j : Nat) : Int)) := Lib.hid (by
        show X1.head + (((X1.log.take (at_ K j)).length : Nat) : Int) = _
        have h1 := hj.2.1
        rw [hch, List.length_take, hcll]
        omega)
      have hgt : at_ K j ≤ at_ K m := at_mono (by rw [← HKM.out]; exact hj.1)
      have hjm : j ≤ m := by rw [← HKM.out]; exact hj.1
      have hsj : safe ≤ j := by
        rcases hj.2.2 with e | e
        · rw [e, HKM.out]; exact hsm
        · rcases Nat.lt_or_ge j safe with h | h
          · have := at_mono (K := K) (show j + 1 ≤ safe from h); omega
          · exact h
      have hke : ¬ kp < ((at_ K m : Nat) : Int) → j = m := fun h => by
        have e1 : at_ K m = (allB K).length := by rw [← at_all, HKM.out]
        have e2 := hc3 (by rw [← e1]; omega)
        rcases hj.2.2 with e | e
        · rw [e, HKM.out]
        · have := at_le K (j + 1); omega
      have HKE := Lib.hid hke
      have HTI2 := Lib.hid (HTI1.out.keep hk2 hbs1 hrb1 hab1 har1)
      have HL2 := Lib.hid hl2
      have HR2 := Lib.hid hr2
      have HJ := Lib.hid hj
      have HFI := Lib.hid HI.out.fit
      have hwv2 := HTI2.out.bel.size
      clear hc1 hc2 hc3 hcl hch hco hcf hcops hcw hD1 hn1 hk1 hbs1 hrb1 hab1 har1 hsc hk2 hl2 hr2 hcll hj hke HI HTI1 HSM hcb hX1
      obtain ⟨em, hem⟩ : ∃ e, at_ K m = e := ⟨_, rfl⟩
      obtain ⟨ej, hej⟩ : ∃ e, at_ K j = e := ⟨_, rfl⟩
      rw [hem, hej] at hgt
      rw [hem] at HKE ⊢
      have HEJ := Lib.hid hej
      have hneq : ((0 : Int) == 0) = true := by decide
      have hneq2 : ((0 : Int) != 0) = false := by decide
      gi_wp2_with fail
      refine ⟨trivial, ?_⟩
      refine (callsIn_wide.2 (WalW.code_any 0 V2)).mono ?_
      rintro e w' ⟨rfl, rfl⟩
      have hgtd : decide ((em : Int) < (ej : Int)) = false := by simp; omega
      gi_wp2_with fail
      refine ⟨trivial, ?_⟩
      refine (callsIn_wide.2 (WalW.end_any V2 HL2.out HSC.out.2)).mono ?_
      rintro e V3 ⟨rfl, hb3⟩
      rw [HEV.out, HEJ.out]
      have HTI3 := Lib.hid (HTI2.out.next hb3)
      have HL3 := Lib.hid (HL2.out.next hb3)
      have HR3 := Lib.hid (HR2.out.next hb3)
      clear hb3 hem hej
      obtain ⟨nb, hnb⟩ : ∃ nb, V3.heap.size = nb := ⟨_, rfl⟩
      obtain ⟨V4, hV4⟩ : ∃ V, V3.alloc (.cells #[.int .i64 0] 3) = V := ⟨_, rfl⟩
      obtain ⟨HN4, HB4, hw4, hz4⟩ := new1 hV4
      rw [hnb] at HN4
      have g4 := str1 HN4.out
      have gl4 := HN4.out.lt
      have gf4 := fun j => HN4.out.frozen j
      obtain ⟨V5, hV5⟩ : ∃ V, V4.setCell ⟨nb, 0, none⟩ (.int .i64 0) = V := ⟨_, rfl⟩
      have hg5 : V4.grownBy V5 (some nb) := by rw [← hV5]; exact grown_set (grown_refl V4 _) 0 _
      have HN5 : Hid (Str V5 nb #[.int .i64 0]) := Lib.hid (by have := HN4.out.set 0 (.int .i64 0); rw [← hV5]; simpa using this)
      have hb5 : Below V3.heap.size V3 V5 := below_grown HB4.out hg5 (by omega)
      have HTI5 := Lib.hid (HTI3.out.next hb5)
      have HL5 := Lib.hid (HL3.out.next hb5)
      have hlb5 := HL3.out.box.lt
      have hmb5 := HL3.out.map.lt
      have HV5 : Hid (LogV V5 nb lb2 mb2 j (logC d mb2 Al2 j cl2 1048576 0 (ej : Int)) L2' (ends (K.take j)) (K.take j)) := Lib.hid ⟨by have := HL5.out.box; rw [HEJ.out] at this; exact this, HL5.out.map, HR3.out.sub hb5.size ((sub_below hb5).trans (sub_hideL_lt V5 [nb] (by simp; omega))), by omega, by omega⟩
      have HNB : Hid (w.heap.size ≤ nb ∧ w.heap.size ≠ nb ∧ W2.heap.size ≠ nb ∧ ∀ a, Aa = some a → a.block ≠ nb) := Lib.hid (by
        have h1 := HTI3.out.rbs.lt
        have h2 := HTI3.out.abs_.lt
        exact ⟨by omega, by omega, by omega, fun a e => by have := OwnE.blt HTI3.out.row a e; omega⟩)
      have hnb5 : nb < V5.heap.size := HN5.out.lt
      clear HTI2 HTI3 HL2 HL3 HR2 HR3 hb5 hg5 hz4 hlb5 hmb5 HB4 HN4 hw4
      gi_wp2_with fail
      refine ⟨trivial, ?_⟩
      refine (callsIn_wide.2 (all_any lb2 V5)).mono ?_
      rintro e w' ⟨rfl, rfl⟩
      obtain ⟨V6, hV6⟩ : ∃ V, V5.alloc (.cells #[.pointer (some ⟨lb2, 0, none⟩)] 26) = V := ⟨_, rfl⟩
      obtain ⟨HP6, HB6, hw6, hz6⟩ := new1 hV6
      have hz6' := HP6.out.lt
      clear hz6
      have HAJ6 : Hid (AJ w V6.heap.size w.heap.size W2.heap.size nb m Aa ca K 0 V6) := Lib.hid ⟨HTI5.out.next HB6.out, HN5.out.next HB6.out, Nat.le_refl _⟩
      have hjl : (K.take j).length = j := by rw [List.length_take, HKM.out]; omega
      have HJL := Lib.hid hjl
      clear hjl
      gi_wp2_with fail
      have HSEQ : Hid (SeqT Fence.wide 4 Tryz.prog 28 #[.pointer (some ⟨V5.heap.size, 0, none⟩)] (fun x : Int × Array Value => #[.int .i64 x.1, .agg x.2]) (fun B C => Below B.heap.size B C) (EyA (K.take j)) (KpA nb) (fun xs => xs.length = (K.take j).length) V6) := Lib.hid (all_seqT 4 (by omega) V5.heap.size nb lb2 d mb2 j j cl2 Al2 L2' 1048576 0 (ej : Int) (ends (K.take j)) (K.take j) V6 HP6.out (by omega) (by omega) (HV5.out.next HB6.out) (HL5.out.next HB6.out).row.elems (by omega) (fun x hx => (HFI.out x (List.mem_of_mem_take hx)).1) (ends_in64 (fun x hx => HFI.out x (List.mem_of_mem_take hx)) (by rw [HJL.out]; omega)))
      have hwv6 : w.heap.size ≤ V6.heap.size := HAJ6.out.ti.bel.size
      have hnb6 : nb < V6.heap.size := by omega
      clear HTI5 HL5 HV5 HN5 HB6 HP6 hV6 hV5 hV4
      apply range_turn rfl (by omega) (gf := 28) (lb := #[.pointer (some ⟨V5.heap.size, 0, none⟩)]) rfl trivial (enters_of Tryz.func28 (by kernel_rfl) rfl)
        HSEQ.out (fun hb => tools_next hb) (fun h k => h.trans k) (fun W l r r' hM hl => KpA.loop hl _) (fun _ => rfl)
        (fun pre W => AJ w V6.heap.size w.heap.size W2.heap.size nb m Aa ca K pre.length W)
        (fun pre x a' W => LX2 w V6.heap.size w.heap.size W2.heap.size nb m Aa ca K (K.take j) _ pre x.1 x.2 a' W)
        (fun pre B C h hb => h.next hb) (fun pre W l r r' hM hl h => h.obj hl (fun _ _ _ e => by cases e) _ (Nat.le_trans hwv6 hM)) (fun pre x a' W l r r' hM hl h => h.loop hl (Nat.le_trans hwv6 hM) _)
        (fun W hb => HAJ6.out.next hb) ?assign ?body ?done
      case assign =>
        rintro l0 pre ⟨x1, x2⟩ V W hI hg ⟨y, hy, hrel⟩
        have hI6 := hI.next hg
        have HRL0 := Lib.hid hrel
        obtain ⟨Q1, q1, s1, Q2, q2, s2, hx2, -⟩ := hrel
        have hx2' : x2 = (recV y Q1 q1 s1 Q2 q2 s2).toArray := by rw [← hx2]
        obtain ⟨kd, tx, pv, nx, l, ⟨pact, puk, ⟨pst, pk, ⟨pkd, pda, plo, phi, pva⟩⟩, pun⟩⟩ := y
        have HX3 : Hid (x2 = #[.int .i64 kd, .int .i64 tx, .int .i64 pv, .int .i64 nx, .slice Q1 q1 s1, .int .i64 pact, .string puk, .int .i64 pst, .string pk, .int .i64 pkd, .slice Q2 q2 s2, .int .i64 plo, .int .i64 phi, .int .i64 pva, .int .i64 pun]) := Lib.hid hx2'
        clear hx2 hx2'
        obtain ⟨W8, hW8⟩ : ∃ V, W.alloc (.cells #[.int .i64 0, .int .i64 0, .int .i64 0, .int .i64 0, .slice none 0 0, .int .i64 0, .string ⟨#[]⟩, .int .i64 0, .string ⟨#[]⟩, .int .i64 0, .slice none 0 0, .int .i64 0, .int .i64 0, .int .i64 0, .int .i64 0] 40) = V := ⟨_, rfl⟩
        obtain ⟨HS8, HB8, hw8, hz8⟩ := new1 hW8
        have hl8 := HS8.out.lt
        have g8 := str15 HS8.out
        have gf := fun j => HS8.out.frozen j
        obtain ⟨W9, hW9⟩ : ∃ V, (((((((((((((((W8).setCell ⟨W.heap.size, 0, none⟩ (.int .i64 kd)).setCell ⟨W.heap.size, 1, none⟩ (.int .i64 tx)).setCell ⟨W.heap.size, 2, none⟩ (.int .i64 pv)).setCell ⟨W.heap.size, 3, none⟩ (.int .i64 nx)).setCell ⟨W.heap.size, 4, none⟩ (.slice Q1 q1 s1)).setCell ⟨W.heap.size, 5, none⟩ (.int .i64 pact)).setCell ⟨W.heap.size, 6, none⟩ (.string puk)).setCell ⟨W.heap.size, 7, none⟩ (.int .i64 pst)).setCell ⟨W.heap.size, 8, none⟩ (.string pk)).setCell ⟨W.heap.size, 9, none⟩ (.int .i64 pkd)).setCell ⟨W.heap.size, 10, none⟩ (.slice Q2 q2 s2)).setCell ⟨W.heap.size, 11, none⟩ (.int .i64 plo)).setCell ⟨W.heap.size, 12, none⟩ (.int .i64 phi)).setCell ⟨W.heap.size, 13, none⟩ (.int .i64 pva)).setCell ⟨W.heap.size, 14, none⟩ (.int .i64 pun) = V := ⟨_, rfl⟩
        have hg9 : W8.grownBy W9 (some W.heap.size) := by rw [← hW9]; exact grown_set (grown_set (grown_set (grown_set (grown_set (grown_set (grown_set (grown_set (grown_set (grown_set (grown_set (grown_set (grown_set (grown_set (grown_set (grown_refl W8 _) 0 _) 1 _) 2 _) 3 _) 4 _) 5 _) 6 _) 7 _) 8 _) 9 _) 10 _) 11 _) 12 _) 13 _) 14 _
        have hS9 : Str W9 W.heap.size #[.int .i64 kd, .int .i64 tx, .int .i64 pv, .int .i64 nx, .slice Q1 q1 s1, .int .i64 pact, .string puk, .int .i64 pst, .string pk, .int .i64 pkd, .slice Q2 q2 s2, .int .i64 plo, .int .i64 phi, .int .i64 pva, .int .i64 pun] := by
          have := (((((((((((((((HS8.out).set 0 (.int .i64 kd)).set 1 (.int .i64 tx)).set 2 (.int .i64 pv)).set 3 (.int .i64 nx)).set 4 (.slice Q1 q1 s1)).set 5 (.int .i64 pact)).set 6 (.string puk)).set 7 (.int .i64 pst)).set 8 (.string pk)).set 9 (.int .i64 pkd)).set 10 (.slice Q2 q2 s2)).set 11 (.int .i64 plo)).set 12 (.int .i64 phi)).set 13 (.int .i64 pva)).set 14 (.int .i64 pun)
          rw [← hW9]; simpa using this
        have hb9 : Below W.heap.size W W9 := below_grown HB8.out hg9 (Nat.le_refl _)
        have HFIN : Hid (Tools V6.heap.size W W9 ∧ KpA nb W W9) := Lib.hid ⟨tools_next hb9, KpA.next hb9⟩
        have HI9 := Lib.hid (hI6.next hb9)
        have HRL9 := Lib.hid (RecE.more hb9.size (RecE.sub (sub_below hb9) HRL0.out))
        have HS9 : Hid (Str W9 W.heap.size x2) := Lib.hid (by rw [HX3.out]; exact hS9)
        have HUP := Lib.hid hI6.up
        have HYK := Lib.hid hy
        clear hI hI6 hb9 hS9 hg9 hy hg hz8 HRL0
        obtain ⟨xb, hxb⟩ : ∃ xb, W.heap.size = xb := ⟨_, rfl⟩
        rw [hxb] at hW9 hl8 g8 gf HS9 HUP HS8
        have hx3 := HX3.out
        rw [hx3]
        clear hx3
        gi_wp2
        rw [← HX3.out]
        exact ⟨HFIN.out.1, HFIN.out.2, _, xb, HI9.out, HYK.out, HRL9.out, HUP.out, HS9.out, rfl⟩
      case body =>
        rintro l0 pre ⟨x1, x2⟩ a' W ⟨y, xb, hAJ, hy, hrel, hxM, hxs, rfl⟩
        obtain ⟨Q1, q1, s1, Q2, q2, s2, hx2, hQE, hQB, hIn⟩ := hrel
        have hx2' : x2 = (recV y Q1 q1 s1 Q2 q2 s2).toArray := by rw [← hx2]
        obtain ⟨k, hk0⟩ : ∃ k, pre.length = k := ⟨_, rfl⟩
        rw [hk0] at hAJ hy
        have HK0 := Lib.hid hk0
        have hkj : k < j := by
          have := (List.getElem?_eq_some_iff.1 hy).1
          rw [HJL.out] at this; exact this
        have hyK : K[k]? = some y := by rw [List.getElem?_take, if_pos hkj] at hy; exact hy
        have hkm : k < m := by omega
        obtain ⟨b2, o2, x, A, n, c, Ap, np, cp, hAa, hb2, hxk, hpe, hpb, -, hcell⟩ := rec0_at hAJ.ti.row hAJ.ti.bel hkm
        rw [hyK] at hxk
        obtain rfl : y = x := Option.some.inj hxk
        obtain ⟨kd, tx, pv, nx, l, ⟨pact, puk, ⟨pst, pk, ⟨pkd, pda, plo, phi, pva⟩⟩, pun⟩⟩ := y
        have hx3 : x2 = #[.int .i64 kd, .int .i64 tx, .int .i64 pv, .int .i64 nx, .slice Q1 q1 s1, .int .i64 pact, .string puk, .int .i64 pst, .string pk, .int .i64 pkd, .slice Q2 q2 s2, .int .i64 plo, .int .i64 phi, .int .i64 pva, .int .i64 pun] := hx2'
        subst hx3
        dsimp only at hpe hpb hQE hQB
        have HAJ := Lib.hid hAJ
        have HXB := Lib.hid hxs
        have HQE := Lib.hid (And.intro hQE hQB)
        have HIN := Lib.hid hIn
        have HE := Lib.hid hpe
        have HP := Lib.hid hpb
        have HBW := Lib.hid hAJ.ti.bel.size
        have HCL : Hid (∀ wx, Below W.heap.size W wx → Str15 wx b2 (o2 + k * 15) #[.int .i64 kd, .int .i64 tx, .int .i64 pv, .int .i64 nx, .slice A n c, .int .i64 pact, .string puk, .int .i64 pst, .string pk, .int .i64 pkd, .slice Ap np cp, .int .i64 plo, .int .i64 phi, .int .i64 pva, .int .i64 pun]) := Lib.hid (fun wx hW => str15_of rfl fun j v hj => by rw [← hcell j v hj]; exact hW.cell (p := ⟨b2, o2 + k * 15 + j, none⟩) hb2)
        have hgeq : decide ((m : Int) ≤ (k : Int)) = false := by simp; omega
        have hki : (0 : Int) ≤ (k : Int) := by omega
        have hkmi : (k : Int) < (m : Int) := by omega
        have hup := hAJ.up
        subst hAa
        clear hAJ hy hyK hx2 hx2' hQE hQB hIn hpe hpb hcell hxk hk0 hxs
        dsimp only
        gi_wp2_with fail
        refine Reg.wpIn_region_vals (R := ext) (W := W) [Reg.eqv (.int .i64 (k : Int)), Reg.eqv (.slice (some ⟨b2, o2, none⟩) m ca), Reg.eqv (.int .i64 (m : Int)), Reg.eqv (.bool false), Reg.eqv (.bool false), Reg.eqv (.agg #[.int .i64 kd, .int .i64 tx, .int .i64 pv, .int .i64 nx, .slice Q1 q1 s1, .int .i64 pact, .string puk, .int .i64 pst, .string pk, .int .i64 pkd, .slice Q2 q2 s2, .int .i64 plo, .int .i64 phi, .int .i64 pva, .int .i64 pun]), Reg.eqv (.slice (some ⟨b2, o2, none⟩) m ca), Reg.eqv (.int .i64 (k : Int)), Reg.eqv (.pointer (some ⟨b2, o2 + k * 15, none⟩)), Reg.eqv (.agg #[.int .i64 kd, .int .i64 tx, .int .i64 pv, .int .i64 nx, .slice A n c, .int .i64 pact, .string puk, .int .i64 pst, .string pk, .int .i64 pkd, .slice Ap np cp, .int .i64 plo, .int .i64 phi, .int .i64 pva, .int .i64 pun]), Reg.eqv (.bool true), Reg.eqv (.bool false), Reg.eqv (.bool false)] 136 [[(18, none)], [(10, none)], [(105, some 1)], [(104, some 0), (106, some 2)], [(107, some 3)], [(21, none), (108, some 4)], [(10, none), (108, some 4)], [(18, none), (108, some 4)], [(110, some 6), (111, some 7), (108, some 4)], [(112, some 8), (108, some 4)], [(109, some 5), (113, some 9), (108, some 4)], [(114, some 10), (108, some 4)], [(108, some 4), (115, some 11)]] rfl (by kernel_rfl) (by kernel_rfl) (by kernel_rfl) ?_ [some 104, some 105, some 106, some 107, some 108, some 109, some 110, some 111, some 112, some 113, some 114, some 115, some 116] (by kernel_rfl) ?_
        · refine ⟨?_, ?_, ?_, ?_, ?_, ?_, ?_, ?_, ?_, ?_, ?_, ?_, ?_, trivial⟩
          · intro ax wx hx hs
            obtain ⟨e18, -⟩ := hs
            have g18 := Reg.ev (v := .pointer (some ⟨nb, 0, none⟩)) e18
            have hxW : Below W.heap.size W wx := hx
            have l0 := str1 (HAJ.out.nbs.next hxW)
            have l1 := str1 (HAJ.out.ti.abs_.next hxW)
            exact Reg.obl_free rfl (Reg.wp_eqv (Option.some_ne_none _) (by go_simp) rfl)
          · intro ax wx hx hs
            obtain ⟨e10, -⟩ := hs
            have g10 := Reg.ev (v := .pointer (some ⟨W2.heap.size, 0, none⟩)) e10
            have hxW : Below W.heap.size W wx := hx
            have l0 := str1 (HAJ.out.nbs.next hxW)
            have l1 := str1 (HAJ.out.ti.abs_.next hxW)
            exact Reg.obl_free rfl (Reg.wp_eqv (Option.some_ne_none _) (by go_simp) rfl)
          · intro ax wx hx hs
            obtain ⟨e105, -⟩ := hs
            have g105 := Reg.ev (v := .slice (some ⟨b2, o2, none⟩) m ca) e105
            exact Reg.obl_free rfl (Reg.wp_eqv (Option.some_ne_none _) (by go_simp) rfl)
          · intro ax wx hx hs
            obtain ⟨e104, e106, -⟩ := hs
            have g104 := Reg.ev (v := .int .i64 (k : Int)) e104
            have g106 := Reg.ev (v := .int .i64 (m : Int)) e106
            exact Reg.obl_free rfl (Reg.wp_eqv (Option.some_ne_none _) (by go_simp) rfl)
          · intro ax wx hx hs
            obtain ⟨e107, -⟩ := hs
            have g107 := Reg.ev (v := .bool false) e107
            exact Reg.obl_free rfl (Reg.wp_eqv (Option.some_ne_none _) (by go_simp) rfl)
          · intro ax wx hx hs
            obtain ⟨e21, e108, -⟩ := hs
            have g21 := Reg.ev (v := .pointer (some ⟨xb, 0, none⟩)) e21
            have g108 := Reg.ev (v := .bool false) e108
            have hxW : Below W.heap.size W wx := hx
            have l0 := str1 (HAJ.out.nbs.next hxW)
            have l1 := str1 (HAJ.out.ti.abs_.next hxW)
            refine Reg.obl_want rfl rfl e108 ?_
            have hxW : Below W.heap.size W wx := hx
            have l2 := str15 (HXB.out.next hxW)
            exact Reg.wp_eqv (Option.some_ne_none _) (by go_simp) rfl
          · intro ax wx hx hs
            obtain ⟨e10, e108, -⟩ := hs
            have g10 := Reg.ev (v := .pointer (some ⟨W2.heap.size, 0, none⟩)) e10
            have g108 := Reg.ev (v := .bool false) e108
            have hxW : Below W.heap.size W wx := hx
            have l0 := str1 (HAJ.out.nbs.next hxW)
            have l1 := str1 (HAJ.out.ti.abs_.next hxW)
            exact Reg.obl_want rfl rfl e108 (Reg.wp_eqv (Option.some_ne_none _) (by go_simp) rfl)
          · intro ax wx hx hs
            obtain ⟨e18, e108, -⟩ := hs
            have g18 := Reg.ev (v := .pointer (some ⟨nb, 0, none⟩)) e18
            have g108 := Reg.ev (v := .bool false) e108
            have hxW : Below W.heap.size W wx := hx
            have l0 := str1 (HAJ.out.nbs.next hxW)
            have l1 := str1 (HAJ.out.ti.abs_.next hxW)
            exact Reg.obl_want rfl rfl e108 (Reg.wp_eqv (Option.some_ne_none _) (by go_simp) rfl)
          · intro ax wx hx hs
            obtain ⟨e110, e111, e108, -⟩ := hs
            have g110 := Reg.ev (v := .slice (some ⟨b2, o2, none⟩) m ca) e110
            have g111 := Reg.ev (v := .int .i64 (k : Int)) e111
            have g108 := Reg.ev (v := .bool false) e108
            refine Reg.obl_want rfl rfl e108 ?_
            exact Reg.wp_eqv (Option.some_ne_none _) (by go_simp; first | done | (intro hq; omega)) rfl
          · intro ax wx hx hs
            obtain ⟨e112, e108, -⟩ := hs
            have g112 := Reg.ev (v := .pointer (some ⟨b2, o2 + k * 15, none⟩)) e112
            have g108 := Reg.ev (v := .bool false) e108
            have hxW : Below W.heap.size W wx := hx
            have l0 := str1 (HAJ.out.nbs.next hxW)
            have l1 := str1 (HAJ.out.ti.abs_.next hxW)
            refine Reg.obl_want rfl rfl e108 ?_
            have hxW : Below W.heap.size W wx := hx
            have q := HCL.out wx hxW
            unfold Str15 at q
            exact Reg.wp_eqv (Option.some_ne_none _) (by go_simp) rfl
          · intro ax wx hx hs
            obtain ⟨e109, e113, e108, -⟩ := hs
            have g109 := Reg.ev (v := .agg #[.int .i64 kd, .int .i64 tx, .int .i64 pv, .int .i64 nx, .slice Q1 q1 s1, .int .i64 pact, .string puk, .int .i64 pst, .string pk, .int .i64 pkd, .slice Q2 q2 s2, .int .i64 plo, .int .i64 phi, .int .i64 pva, .int .i64 pun]) e109
            have g113 := Reg.ev (v := .agg #[.int .i64 kd, .int .i64 tx, .int .i64 pv, .int .i64 nx, .slice A n c, .int .i64 pact, .string puk, .int .i64 pst, .string pk, .int .i64 pkd, .slice Ap np cp, .int .i64 plo, .int .i64 phi, .int .i64 pva, .int .i64 pun]) e113
            have g108 := Reg.ev (v := .bool false) e108
            refine Reg.obl_want rfl rfl e108 ?_
            have hx0 : Below W.heap.size W wx := hx
            go_simp
            refine (RefRec.same_any kd tx pv nx Q1 q1 s1 W.heap.size l pact puk Q2 q2 s2 W.heap.size pst pk pkd pda plo phi pva pun kd tx pv nx A n c w.heap.size l pact puk Ap np cp w.heap.size pst pk pkd pda plo phi pva pun wx (HQE.out.1.below hx0) hx0.size (HQE.out.2.below hx0) hx0.size HIN.out.1.2 HIN.out.1.1 (HE.out.below (hx0.mono HBW.out)) (Nat.le_trans HBW.out hx0.size) (HP.out.below (hx0.mono HBW.out)) (Nat.le_trans HBW.out hx0.size) HIN.out.1.2 HIN.out.1.1).mono ?_
            rintro e wy ⟨rfl, hby⟩
            rw [RecP.same_me]
            exact Reg.done (Option.some_ne_none _) rfl hby
          · intro ax wx hx hs
            obtain ⟨e114, e108, -⟩ := hs
            have g114 := Reg.ev (v := .bool true) e114
            have g108 := Reg.ev (v := .bool false) e108
            exact Reg.obl_want rfl rfl e108 (Reg.wp_eqv (Option.some_ne_none _) (by go_simp) rfl)
          · intro ax wx hx hs
            obtain ⟨e108, e115, -⟩ := hs
            have g108 := Reg.ev (v := .bool false) e108
            have g115 := Reg.ev (v := .bool false) e115
            exact Reg.obl_free rfl (Reg.wp_eqv (Option.some_ne_none _) (by go_simp) rfl)
        · intro V1 hwf
          simp only [Reg.Fin]
          rintro _ rfl _ rfl _ rfl _ rfl _ rfl _ rfl _ rfl _ rfl _ rfl _ rfl _ rfl _ rfl _ rfl
          go_simp
          have hwf' : Below W.heap.size W V1 := hwf
          have hA1 := HAJ.out.next hwf'
          have g1 := str1 hA1.nbs
          have gl1 := hA1.nbs.lt
          have gf1 := fun j => hA1.nbs.frozen j
          have hg2 : V1.grownBy (V1.setCell ⟨nb, 0, none⟩ (.int .i64 ((k : Int) + 1))) (some nb) := grown_set (grown_refl V1 _) 0 _
          have HFIN : Hid (Tools V6.heap.size W (V1.setCell ⟨nb, 0, none⟩ (.int .i64 ((k : Int) + 1))) ∧ KpA nb W (V1.setCell ⟨nb, 0, none⟩ (.int .i64 ((k : Int) + 1))) ∧ AJ w V6.heap.size w.heap.size W2.heap.size nb m (some ⟨b2, o2, none⟩) ca K (pre.length + 1) (V1.setCell ⟨nb, 0, none⟩ (.int .i64 ((k : Int) + 1)))) := Lib.hid ⟨(tools_next hwf').trans (tools_of hg2.size fun i hi hlt => .inl (hg2.block i hlt (fun e => by injection e with e; omega))), (KpA.next hwf').trans (KpA.turn hg2), hA1.ti.grown hg2 HNB.out.1 HNB.out.2.1 HNB.out.2.2.1 HNB.out.2.2.2, by
            have := hA1.nbs.set 0 (.int .i64 ((k : Int) + 1))
            rw [HK0.out]
            simpa using this, Nat.le_trans hA1.up hg2.size⟩
          clear hwf hwf' hA1 hg2
          gi_wp2_with fail
          exact ⟨HFIN.out.1, HFIN.out.2.1, HFIN.out.2.2⟩
      case done =>
        rintro D xs W6 hDD hS hI hKd
        rw [hS, HJL.out] at hI
        have HI := Lib.hid hI
        have HKD := Lib.hid hKd
        have hDhi := (Array.getElem?_eq_some_iff.1 hKd).1
        have g1 := str1 hI.nbs
        have gl1 := hI.nbs.lt
        have g2 := str1 hI.ti.abs_
        have gl2 := hI.ti.abs_.lt
        have hge : decide ((safe : Int) ≤ (j : Int)) = true := by simp; omega
        have hw6 := hI.ti.bel.size
        have hDw : w.heap.size < D := by have := HNB.out.1; omega
        clear hI hKd
        by_cases hlt2 : kp < (em : Int)
        · have hdl : decide (kp < (em : Int)) = true := by simpa using hlt2
          gi_wp2_with fail
          refine ⟨trivial, ?_⟩
          refine (callsIn_wide.2 (WalW.live_any W6)).mono ?_
          rintro e W7 ⟨rfl, hb7⟩
          have HB7 := Lib.hid (bstep HI.out.ti.bel hb7)
          have HR7 := Lib.hid (HI.out.ti.rbs.next hb7)
          have HK7 : Hid (W7.heap[D]? = some (.deferred (some []))) := Lib.hid ((hb7.block D hDhi).trans HKD.out)
          have r7 : W7.cell? ⟨w.heap.size, 0, none⟩ = some (.bool false) := by simpa using HR7.out.cell 0
          have rf7 := fun j => HR7.out.frozen j
          have hr7 := HR7.out.lt
          have hw7 := hb7.size
          clear hb7 g1 gl1 g2 gl2
          gi_wp2_with fail
          have hg : W7.grownBy (W7.setCell ⟨w.heap.size, 0, none⟩ (.bool true)) (some w.heap.size) := grown_set (grown_refl W7 _) 0 _
          have HFIN := Lib.hid (below_grown HB7.out hg (Nat.le_refl _))
          have hrs : Str (W7.setCell ⟨w.heap.size, 0, none⟩ (.bool true)) w.heap.size #[.bool true] := by have := HR7.out.set 0 (.bool true); simpa using this
          have hk8 := (hg.block D (by omega) (fun e => by injection e with e; omega)).trans HK7.out
          have hgd := grownBy_putObj' (W7.setCell ⟨w.heap.size, 0, none⟩ (.bool true)) D (.deferred none)
          have hr9 := hrs.grown hgd (by omega)
          have rr := hr9.cell 0
          refine ⟨by simp, .inl ⟨_, _, rfl, run_takeDeferred hk8, ?_⟩⟩
          exact ⟨.bool true, by simp [results, Tryz.results3, go_sem, *], rfl, below_grown HFIN.out hgd (by omega)⟩
        · have hdl : decide (kp < (em : Int)) = false := by simpa using hlt2
          have hjm2 := HKE.out (by omega)
          have heq : ((j : Int) == (m : Int)) = true := by rw [hjm2]; simp
          gi_wp2_with fail
          refine ⟨trivial, ?_⟩
          refine (callsIn_wide.2 (WalW.live_any W6)).mono ?_
          rintro e W7 ⟨rfl, hb7⟩
          have HB7 := Lib.hid (bstep HI.out.ti.bel hb7)
          have HR7 := Lib.hid (HI.out.ti.rbs.next hb7)
          have HK7 : Hid (W7.heap[D]? = some (.deferred (some []))) := Lib.hid ((hb7.block D hDhi).trans HKD.out)
          have r7 : W7.cell? ⟨w.heap.size, 0, none⟩ = some (.bool false) := by simpa using HR7.out.cell 0
          have rf7 := fun j => HR7.out.frozen j
          have hr7 := HR7.out.lt
          have hw7 := hb7.size
          clear hb7 g1 gl1 g2 gl2
          gi_wp2_with fail
          have hg : W7.grownBy (W7.setCell ⟨w.heap.size, 0, none⟩ (.bool true)) (some w.heap.size) := grown_set (grown_refl W7 _) 0 _
          have HFIN := Lib.hid (below_grown HB7.out hg (Nat.le_refl _))
          have hrs : Str (W7.setCell ⟨w.heap.size, 0, none⟩ (.bool true)) w.heap.size #[.bool true] := by have := HR7.out.set 0 (.bool true); simpa using this
          have hk8 := (hg.block D (by omega) (fun e => by injection e with e; omega)).trans HK7.out
          have hgd := grownBy_putObj' (W7.setCell ⟨w.heap.size, 0, none⟩ (.bool true)) D (.deferred none)
          have hr9 := hrs.grown hgd (by omega)
          have rr := hr9.cell 0
          refine ⟨by simp, .inl ⟨_, _, rfl, run_takeDeferred hk8, ?_⟩⟩
          exact ⟨.bool true, by simp [results, Tryz.results3, go_sem, *], rfl, below_grown HFIN.out hgd (by omega)⟩
theorem walk (v0 v1 v2 : Value) (a0 : List RecX) (a1 a2 : Int) (w : World) (g0 : RRecs w w.heap.size v0 a0) (g1 : RInt w v1 a1) (g2 : RInt w v2 a2) :
    Calls Tryz.prog 3 #[v0, v1, v2] w fun e w' => e = .returned (.bool true) ∧ Below w.heap.size w w' := by
  obtain ⟨A, n, c, rfl, hE⟩ := g0
  obtain ⟨rfl, h1, h2⟩ := g1
  obtain ⟨rfl, h3, h4⟩ := g2
  exact go A n c a0 a1 a2 ⟨h1, h2⟩ ⟨h3, h4⟩ w hE
end walStays
end Go.Proofs.YtpdfnlhhnodnjaaGreat
end
