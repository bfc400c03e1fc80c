/-
  Parts of the proof of PoolAhead.
-/
import Derived.Test.YtcfieofcnpalgaaGreatAhG9
import Derived.Maps.RangeWalk
import Derived.Test.YtcfieofcnpalgaaGreatAhG11
section
namespace Go.Proofs.YtcfieofcnpalgaaGreat.DevW
open Go.RowKit Go.Maps
set_option linter.unusedVariables false
set_option linter.unusedSimpArgs false
variable {d sb mb : Nat} {bp bs : List Nat} {gb : Option Nat} {A : Option Addr} {n c nm : Nat} {es : List (Int × SlV)} {X : DevX}
def _root_.Go.Proofs.YtcfieofcnpalgaaGreat.DevP.synced (X : DevX) : DevX := { X with safe := X.now }
def clrSem (ts : Array TypeId) (ty : TypeId) (args : Array Value) : Sem Value := Builtin.clear_ ts ty args
theorem clr_fold (ts : Array TypeId) (ty : TypeId) (args : Array Value) : Builtin.clear_ ts ty args = clrSem ts ty args := rfl
attribute [local go_sem ↓] ldPage_fold stPage_fold clr_fold
theorem key_inv {key : Value} {kl : Lit} (h : keyOf Tryz.prog 3 key = some kl) : ∃ x : Int, key = .int .i64 x := by
  obtain ⟨x, rfl, _⟩ := Maps.keyOf_int_inv Tryz.underlying3 h
  exact ⟨x, rfl⟩
theorem ext_of {a b : List (List UInt8)} (hl : a.length = b.length) (h : ∀ k, k < a.length → a[k]? = b[k]?) : a = b := List.ext_getElem? fun k => by
  by_cases hk : k < a.length
  · exact h k hk
  · rw [List.getElem?_eq_none (by omega), List.getElem?_eq_none (by omega)]
set_option maxRecDepth 100000 in
set_option maxHeartbeats 2000000 in
theorem sync_act (w : World) (hD : Dev w d bs X) :
    Calls Tryz.prog 52 #[.pointer (some ⟨d, 0, none⟩)] w (Acts w d bs [] (DevP.synced X) fun _ => True) := by
  have HD := Lib.hid hD
  have hok := hD.ok
  have hN := hok.n1
  obtain ⟨sb, mb, bp, gb, A0, n0, c0, nm, es, hI, hbs⟩ := hD
  have hl := hI.box.lt
  have hsl := hI.pages.row.lt
  have hml := hI.pages.map.lt
  have hnd := hI.pages.nd
  rw [hI.pages.bpe] at hnd
  simp only [List.nodup_cons, List.mem_cons, not_or] at hnd
  have HSE : Hid (∀ p ∈ es, blk p.2 ≠ sb) := Lib.hid (fun p hp e => hnd.1.2 (List.mem_map.2 ⟨p, hp, e⟩))
  have hsm : sb ≠ mb := hnd.1.1
  have hsd : d ≠ sb := fun e => hI.bp_ne sb (by rw [hI.pages.bpe]; simp) e.symm
  have f1 := str10 hI.box
  have HI := Lib.hid hI
  have HB := Lib.hid hbs
  have HOK := Lib.hid hok
  clear hI hbs hok hnd
  go_enter Tryz.func52, Tryz.ntmps52
  go_wp2_with (first
    | (at_range; refine wpList_range_own _ rfl _ 86 rfl 3 85 law Tryz.underlying86 (MapP.rdE slE) mb nm (MapP.dat intK es) rfl HI.out.pages.map.own ?_; intro w0 hrg0 hg0 hs0)
    | go_in)
  go_frame
  have HRG := Lib.hid hrg0
  have HB0 : Hid (Below w.heap.size w w0) := Lib.hid ⟨hg0.os, hg0.tape, hg0.output, hg0.size, fun k hk => hg0.block k hk (by simp)⟩
  clear hrg0 hg0 hs0 f1
  go_loopw [2] (fun _ wr => ∃ (left : Lit → Bool) (cnt : Nat) (sf : List (List UInt8)), Hid (wr.ranges Tryz.prog 3 (MapP.rdE slE) mb w.heap.size nm (MapP.dat intK es) left cnt ∧ Pgs 42 wr sb X.safe.length X.safe.length sf ∧ (∀ k : Nat, k < X.safe.length → left (intK.lit (k : Int)) = false → sf[k]? = X.now[k]?) ∧ Reg.KeepB w.heap.size [sb] w wr))
    (fun _ wr => wr.rangeLeft mb w.heap.size)
  case atStart =>
    refine ⟨_, _, X.safe, Lib.hid ⟨HRG.out, HI.out.pages.row.at_ (HB0.out.block sb hsl), fun k hk h => ?_, Reg.KeepB.of HB0.out⟩⟩
    rw [MapP.has_dat, MapP.has_false] at h
    exact (HI.out.pages.rest k hk (MapP.get_none.2 h)).symm
  case round =>
    obtain ⟨left, cnt, sf, HK⟩ := hrel
    have hwr := HK.out.2.2.2.size
    have hmr : wr.heap[mb]? = w.heap[mb]? := HK.out.2.2.2.block mb hml (by simpa using hsm.symm)
    have hdr : Str wr d (devC X.safe.length sb mb A0 n0 c0 X) := HK.out.2.2.2.str HI.out.box hl (by simpa using hsd)
    have HDR := Lib.hid hdr
    have hlr : d < wr.heap.size := hdr.lt
    have hsr : sb < wr.heap.size := HK.out.2.1.lt
    have hmlr : mb < wr.heap.size := by omega
    have hsfl : sf.length = X.safe.length := HK.out.2.1.len
    have HMR := Lib.hid hmr
    clear hmr hdr
    go_wp2_with (first
      | (at_next; refine wpList_next_ranges _ rfl _ rfl 3 law (MapP.rdE slE) (fun x : Int => Value.int .i64 x) (fun s : SlV => Value.slice s.A s.n s.c) (fun key kl hk => key_inv hk) (fun v y hv => by obtain ⟨s, rfl, _⟩ := MapP.rd_inv slE hv; exact ⟨s, rfl⟩) mb w.heap.size nm _ _ _ rfl HK.out.1 ?_ ?_)
      | go_in)
    · intro _ hl0
      have hnow : sf = X.now := ext_of (by rw [hsfl, HOK.out.nl]) (fun k hk => HK.out.2.2.1 k (by omega) (hl0 _))
      have hMM : MapM Tryz.prog intK slE 3 wr mb nm es := HI.out.pages.map.at_ HMR.out
      obtain ⟨w4, hclr, hM4, ht4⟩ := hMM.clear Tryz.underlying86 0
      have hg4 := ht4.grown
      have fr := str10 HDR.out
      have HW4 : Hid (MapM Tryz.prog intK slE 3 w4 mb 0 []) := Lib.hid hM4
      have HG4 := Lib.hid hg4
      have hcl : (clrSem #[86] 0 #[.map (some mb)]).run Tryz.prog wr = .ok (.tuple #[]) w4 := hclr
      clear hl0 hMM hM4 ht4 hg4 hclr
      go_wp2
      go_end0
      have ho := HOK.out
      have hin := HI.out
      have hsb4 : w4.heap[sb]? = wr.heap[sb]? := HG4.out.block sb hsr (by intro e; injection e with e; exact hsm e)
      have hd4 : Str w4 d (devC X.now.length sb mb A0 n0 c0 (DevP.synced X)) := by
        rw [ho.nl]
        exact HDR.out.grown HG4.out (fun e => by
          obtain ⟨t, ht⟩ := HDR.out
          obtain ⟨es5, c5, hb5, -⟩ := (hin.pages.map.at_ HMR.out).own
          rw [e, hb5] at ht
          cases ht)
      have hk4 : Reg.KeepB w.heap.size [sb, mb] w w4 := (HK.out.2.2.2.more (by simp)).grown HG4.out hwr (.inr (by simp))
      have hgn : ∀ x, gb = some x → x ∉ [sb, mb] := fun x e h => by
        have h1 := hin.nd
        rw [hin.pages.bpe] at h1
        simp only [List.nodup_cons, List.nodup_append, List.mem_append] at h1
        exact h1.2.2.2 x (by simp [e]) x (by simp only [List.mem_cons, List.not_mem_nil, or_false] at h ⊢; rcases h with h | h; exact .inl h; exact .inr (.inl h)) rfl
      have hlog := hin.log.at_ (w' := w4) (fun x e => hk4.block x (hin.log.lt x e) (hgn x e))
      have hnd : (d :: (gb.toList ++ [sb, mb])).Nodup := by
        have h1 := hin.nd
        rw [hin.pages.bpe] at h1
        refine List.Sublist.nodup ?_ h1
        refine List.Sublist.cons_cons _ (List.Sublist.append (List.Sublist.refl _) ?_)
        exact List.Sublist.cons_cons _ (List.Sublist.cons_cons _ (List.nil_sublist _))
      have hpg : Pages w4 sb mb [sb, mb] X.now X.now X.wr 0 [] := ⟨by rw [ho.nl, ← hnow]; exact HK.out.2.1.at_ hsb4, HW4.out, (fun p hp => absurd hp List.not_mem_nil), (fun k hk h => rfl), rfl, by simp [hsm], Nat.zero_le _⟩
      have hok2 : DevP.Ok (DevP.synced X) := ⟨by show 1 ≤ X.now.length; rw [ho.nl]; exact ho.n0, by show X.now.length ≤ 1024; rw [ho.nl]; exact ho.n1, rfl, ho.h0, ho.s0, ho.s1, ho.t0, ho.t1, ho.o0, ho.f0, ho.f1, ho.w1, ho.w1⟩
      have hsub : ∀ b ∈ [sb, mb], b ∈ bp := fun b hb => by
        rw [hin.pages.bpe]
        simp only [List.mem_cons, List.not_mem_nil, or_false] at hb ⊢
        rcases hb with h | h
        · exact .inl h
        · exact .inr (.inl h)
      refine ⟨rfl, _, ⟨sb, mb, [sb, mb], gb, A0, n0, c0, 0, [], ⟨hd4, hpg, hlog, hnd, hok2⟩, rfl⟩, hk4.more (fun b hb => by rw [HB.out]; simp [hsub b hb]), fun b hb => ?_, trivial⟩
      rw [HB.out]
      simp only [List.mem_cons, List.mem_append] at hb ⊢
      rcases hb with rfl | hb | hb
      · exact .inl (.inl rfl)
      · exact .inl (.inr (.inl hb))
      · exact .inl (.inr (.inr (hsub b (by simpa using hb))))
    · intro x sv kl yd yp w1 cnt1 hkey hlk hv hat hrg1 hcl hg1 hs1 hen
      obtain ⟨x', ex, rfl, -⟩ := Maps.keyOf_int_inv Tryz.underlying3 hkey
      cases ex
      obtain ⟨sv', hget, he⟩ := MapP.at_ent intK (L := es) (k := x) hat
      obtain rfl : sv = sv' := by
        have h1 : some (yd, yp) = some (DataW.held sv, []) := hv.symm.trans (MapP.rd_val slE sv)
        simp only [Option.some.injEq, Prod.mk.injEq] at h1
        have h2 := h1.1.symm.trans he
        injection h2
      have hent := HI.out.pages.ent _ (MapP.get_mem hget)
      have hx0 := hent.k0
      have hx1 := hent.k1
      dsimp only at hx0 hx1
      obtain ⟨k, rfl⟩ : ∃ k : Nat, x = (k : Int) := ⟨x.toNat, by omega⟩
      have hk : k < X.safe.length := by omega
      have hes := HSE.out _ (MapP.get_mem hget)
      have hbl0 := hent.lt
      have hentr : Ent wr X.safe.length X.now X.wr ((k : Int), sv) := hent.at_ (HK.out.2.2.2.block _ hbl0 (by simpa using hes))
      obtain ⟨ps, q, hA, hps, hn1, hqq, hnow⟩ := hentr.look
      have hq5 : q.length = 512 := HOK.out.w1 q (List.mem_of_getElem? hnow)
      obtain ⟨bk, hbk⟩ : ∃ b, blk sv = b := ⟨_, rfl⟩
      rw [hbk] at hA hps
      have hne1 : bk ≠ w.heap.size := by rw [← hbk]; dsimp only at hbl0; omega
      have hps1 : Pgs 42 w1 bk sv.n sv.c ps := hps.at_ (hg1.block bk hps.lt (by intro e; injection e with e; exact hne1 e))
      have hsf1 : Pgs 42 w1 sb X.safe.length X.safe.length sf := HK.out.2.1.at_ (hg1.block sb hsr (by intro e; injection e with e; omega))
      have hd1 : Str w1 d (devC X.safe.length sb mb A0 n0 c0 X) := HDR.out.grown hg1 (by omega)
      have hk1 : Reg.KeepB w.heap.size [sb] w w1 := HK.out.2.2.2.grown hg1 hwr (.inl (Nat.le_refl _))
      have hbkl := hps1.lt
      have hsbl := hsf1.lt
      have hdl1 := hd1.lt
      have HPS := Lib.hid hps1
      have HSF := Lib.hid hsf1
      have HD1 := Lib.hid hd1
      have HK1 := Lib.hid hk1
      have HRG1 := Lib.hid hrg1
      have HCL := Lib.hid hcl
      have HNOW := Lib.hid hnow
      have HQQ := Lib.hid hqq
      have HLEFT := Lib.hid HK.out.2.2.1
      have HRGO := Lib.hid HK.out.1
      obtain ⟨An, nn, cn⟩ := sv
      dsimp only at hA hn1 HPS hen HQQ
      subst hA
      obtain ⟨u, rfl⟩ : ∃ u, nn = u + 1 := ⟨nn - 1, by omega⟩
      have hcap := HPS.out.elems.cap
      have hcm := hcap.2
      unfold maxLen at hcm
      have hcl2 := hcap.1
      have HQU : Hid (ps[u]? = some q) := Lib.hid HQQ.out
      have hu0 : (0 : Int) ≤ (u : Int) := by omega
      have hu1 : (u : Int) < ((u + 1 : Nat) : Int) := by omega
      have hu2 : (u : Int) ≤ 9223372036854775806 := by omega
      have hkk0 : (0 : Int) ≤ (k : Int) := by omega
      have hkk1 : (k : Int) < (X.safe.length : Int) := by omega
      clear hkey hlk hv hat hrg1 hcl hg1 hs1 he hget hent hes hbl0 hentr hps hqq hnow hbk hps1 hsf1 hd1 hk1 HQQ HK HDR HMR hcap
      go_wp2_with fail
      refine Reg.wp_region_tail (R := ext) (W := w1) [Reg.eqv (.pointer (some ⟨d, 0, none⟩)), Reg.eqv (.pointer (some ⟨d, 0, none⟩)), Reg.eqv (.pointer (some ⟨d, 0, none⟩)), Reg.eqv (.slice (some ⟨sb, 0, none⟩) X.safe.length X.safe.length), Reg.eqv (.int .i64 ((k : Int))), Reg.eqv (.slice (some ⟨bk, 0, none⟩) (u + 1) cn), Reg.eqv (.slice (some ⟨bk, 0, none⟩) (u + 1) cn), Reg.eqv (.int .i64 ((u : Int) + 1)), Reg.eqv (.int .i64 (u : Int)), Reg.eqv (.pointer (some ⟨bk, u * 512, none⟩)), Reg.eqv (.agg (rowV q)), Reg.eqv (.pointer (some ⟨sb, k * 512, none⟩))] 30 12 _ [[(0, none)], [(14, some 0)], [(15, some 1)], [(16, some 2)], [(2, none)], [(3, none)], [(3, none)], [(20, some 6)], [(21, some 7)], [(19, some 5), (22, some 8)], [(23, some 9)], [(17, some 3), (18, some 4)]] rfl (by kernel_rfl) (by kernel_rfl) (by rfl) (by rfl) rfl (by kernel_rfl) ?_ [some 14, some 15, some 16, some 17, some 18, some 19, some 20, some 21, some 22, some 23, some 24, some 25] (by kernel_rfl) ?_
      · refine ⟨?_, ?_, ?_, ?_, ?_, ?_, ?_, ?_, ?_, ?_, ?_, ?_, trivial⟩
        · intro ax wx hx hs
          obtain ⟨e0, -⟩ := hs
          have g0 := Reg.ev (v := .pointer (some ⟨d, 0, none⟩)) e0
          exact Reg.obl_free rfl (Reg.wp_eqv (Option.some_ne_none _) (by go_simp) rfl)
        · intro ax wx hx hs
          obtain ⟨e14, -⟩ := hs
          have g14 := Reg.ev (v := .pointer (some ⟨d, 0, none⟩)) e14
          exact Reg.obl_free rfl (Reg.wp_eqv (Option.some_ne_none _) (by go_simp) rfl)
        · intro ax wx hx hs
          obtain ⟨e15, -⟩ := hs
          have g15 := Reg.ev (v := .pointer (some ⟨d, 0, none⟩)) e15
          exact Reg.obl_free rfl (Reg.wp_eqv (Option.some_ne_none _) (by go_simp) rfl)
        · intro ax wx hx hs
          obtain ⟨e16, -⟩ := hs
          have g16 := Reg.ev (v := .pointer (some ⟨d, 0, none⟩)) e16
          have l0 := str10 (HD1.out.next hx)
          exact Reg.obl_free rfl (Reg.wp_eqv (Option.some_ne_none _) (by go_simp) rfl)
        · intro ax wx hx hs
          obtain ⟨e2, -⟩ := hs
          have g2 := Reg.ev (v := .int .i64 ((k : Int))) e2
          exact Reg.obl_free rfl (Reg.wp_eqv (Option.some_ne_none _) (by go_simp) rfl)
        · intro ax wx hx hs
          obtain ⟨e3, -⟩ := hs
          have g3 := Reg.ev (v := .slice (some ⟨bk, 0, none⟩) (u + 1) cn) e3
          exact Reg.obl_free rfl (Reg.wp_eqv (Option.some_ne_none _) (by go_simp) rfl)
        · intro ax wx hx hs
          obtain ⟨e3, -⟩ := hs
          have g3 := Reg.ev (v := .slice (some ⟨bk, 0, none⟩) (u + 1) cn) e3
          exact Reg.obl_free rfl (Reg.wp_eqv (Option.some_ne_none _) (by go_simp) rfl)
        · intro ax wx hx hs
          obtain ⟨e20, -⟩ := hs
          have g20 := Reg.ev (v := .slice (some ⟨bk, 0, none⟩) (u + 1) cn) e20
          exact Reg.obl_free rfl (Reg.wp_eqv (Option.some_ne_none _) (by go_simp) rfl)
        · intro ax wx hx hs
          obtain ⟨e21, -⟩ := hs
          have g21 := Reg.ev (v := .int .i64 ((u : Int) + 1)) e21
          refine Reg.obl_free rfl ?_
          exact Reg.wp_eqv (Option.some_ne_none _) (by go_simp; exact IntWalk.i64_in _ (by omega)) rfl
        · intro ax wx hx hs
          obtain ⟨e19, e22, -⟩ := hs
          have g19 := Reg.ev (v := .slice (some ⟨bk, 0, none⟩) (u + 1) cn) e19
          have g22 := Reg.ev (v := .int .i64 (u : Int)) e22
          refine Reg.obl_free rfl ?_
          exact Reg.wp_eqv (Option.some_ne_none _) (by go_simp; intro h; omega) rfl
        · intro ax wx hx hs
          obtain ⟨e23, -⟩ := hs
          have g23 := Reg.ev (v := .pointer (some ⟨bk, u * 512, none⟩)) e23
          have l0 := str10 (HD1.out.next hx)
          refine Reg.obl_free rfl ?_
          have hld := (HPS.out.at_ (hx.block bk hbkl)).load HQU.out
          exact Reg.wp_eqv (Option.some_ne_none _) (by go_simp) rfl
        · intro ax wx hx hs
          obtain ⟨e17, e18, -⟩ := hs
          have g17 := Reg.ev (v := .slice (some ⟨sb, 0, none⟩) X.safe.length X.safe.length) e17
          have g18 := Reg.ev (v := .int .i64 ((k : Int))) e18
          exact Reg.obl_free rfl (Reg.wp_eqv (Option.some_ne_none _) (by go_simp) rfl)
      · intro W2 hwf
        simp only [Reg.Fin]
        rintro _ rfl _ rfl _ rfl _ rfl _ rfl _ rfl _ rfl _ rfl _ rfl _ rfl _ rfl _ rfl
        have hwf' : Below w1.heap.size w1 W2 := hwf
        obtain ⟨W3, hst, hsf3, hg3, hz3⟩ := (HSF.out.at_ (hwf'.block sb hsbl)).store (k := k) hk hq5
        have HK3 := Lib.hid ((HK1.out.step hwf' HK1.out.size).grown hg3 (by have := HK1.out.size; have := hwf'.size; omega) (.inr (by simp)))
        have HSF3 := Lib.hid hsf3
        have HRG3 := Lib.hid ((HRG1.out.kept (row := none) ⟨hwf'.os, hwf'.tape, hwf'.output, hwf'.size, fun i hi _ => hwf'.block i hi⟩ (by simp) (by simp)).kept hg3 (by intro e; injection e with e; exact hsm e.symm) (by intro e; injection e with e; omega))
        clear hwf hwf' hsf3 hg3
        refine Reg.Goal.mk ?_
        go_simp
        clear hst
        go_wp2
        go_roundw
        case rel =>
          refine ⟨_, cnt1, sf.set k q, Lib.hid ⟨HRG3.out, HSF3.out, fun i hi hl => ?_, HK3.out⟩⟩
          by_cases hik : i = k
          · subst hik
            rw [List.getElem?_set_self (by omega), HNOW.out]
          · rw [List.getElem?_set_ne (by omega)]
            refine HLEFT.out i hi ?_
            have hs := intK.same (i : Int) (k : Int)
            have hd : decide ((i : Int) = (k : Int)) = false := by simp; omega
            rw [hd] at hs
            have hl2 : (left (intK.lit (i : Int)) && !(intK.lit (i : Int)).sameKey (intK.lit (k : Int))) = false := hl
            rw [hs] at hl2
            simpa using hl2
        case measure => rw [HRG3.out.left_eq, HRGO.out.left_eq]; exact HCL.out
set_option maxRecDepth 100000 in
set_option maxHeartbeats 1000000 in
theorem Sync_any (w : World) (hD : Dev w d bs X) (hs : X.ops ≤ 1000000000) :
    Calls Tryz.prog 31 #[.pointer (some ⟨d, 0, none⟩)] w (Told w d bs (DevP.op X true (DevP.synced X)) (.int .i64 (DevP.err X true))) := by
  have hmf : ∀ (fn : Fn) (first cap : Array Value) (w : World), (Instr.makeFunc fn first cap).run Tryz.prog w = .ok (.func fn first cap) w := fun _ _ _ _ => rfl
  go_enter Tryz.func31, Tryz.ntmps31
  go_wp2_with fail
  refine (do_any 52 #[.pointer (some ⟨d, 0, none⟩)] (fun _ => True) [] true w (DevP.synced X) hD hs (by simp) (fun _ _ _ _ => trivial) rfl rfl rfl (fun _ => rfl) (fun _ W hb => ?_)).mono ?_
  · refine (sync_act W (hD.below hb)).mono ?_
    exact fun e w' h => h
  · rintro e w1 h
    have HT := Lib.hid (h.told (bsame w) (by simp))
    obtain ⟨rfl, -⟩ := h
    go_wp2
    go_ret
    exact HT.out
end Go.Proofs.YtcfieofcnpalgaaGreat.DevW
end
section
namespace Go.Proofs.YtcfieofcnpalgaaGreat
set_option linter.unusedVariables false
namespace PoolP
/-- so many operations more are none too many -/
def Room (k : Nat) (X : DevX) : Prop := X.ops + k ≤ 1000000000 ∧ X.head + X.log.length ≤ 100000000000000 ∧ X.wr + k ≤ 1000000000
theorem Room.small {k : Nat} {X : DevX} (h : Room k X) : DevP.Small X := ⟨by have := h.1; omega, h.2.1, by have := h.2.2; omega⟩
theorem Room.less {k j : Nat} {X : DevX} (h : Room k X) (hj : j ≤ k) : Room j X := ⟨by have := h.1; omega, h.2.1, by have := h.2.2; omega⟩
theorem Room.op {k : Nat} {X Y : DevX} (h : Room (k + 1) X) (fits : Bool) (h1 : Y.ops = X.ops) (h2 : Y.head = X.head) (h3 : Y.log = X.log) (h4 : Y.wr ≤ X.wr + 1) : Room k (DevP.op X fits Y) := by
  obtain ⟨a, b, c⟩ := h
  unfold DevP.op
  split
  · refine ⟨?_, ?_, ?_⟩
    · show Y.ops + 1 + (k : Nat) ≤ 1000000000; omega
    · show Y.head + Y.log.length ≤ 100000000000000; rw [h2, h3]; exact b
    · show Y.wr + k ≤ 1000000000; omega
  · unfold DevP.stop
    have hx : Room k X := Room.less (k := k + 1) ⟨a, b, c⟩ (by omega)
    split
    · exact hx
    split
    · exact hx
    · exact ⟨hx.1, hx.2.1, hx.2.2⟩
theorem Room.wrote {k : Nat} {X : DevX} (h : Room (k + 1) X) (fits : Bool) (n : Nat) (p : List UInt8) : Room k (DevP.op X fits (DevP.wrote X n p)) := h.op fits rfl rfl rfl (Nat.le_refl _)
theorem Room.synced {k : Nat} {X : DevX} (h : Room (k + 1) X) : Room k (DevP.op X true (DevP.synced X)) := h.op true rfl rfl rfl (by show X.wr ≤ X.wr + 1; omega)
theorem Room.same {k : Nat} {X : DevX} (h : Room (k + 1) X) (fits : Bool) : Room k (DevP.op X fits X) := h.op fits rfl rfl rfl (by omega)
def sync (s : PoolX) : PoolX × Int := ({ s with D := DevP.op s.D true (DevP.synced s.D) }, DevP.err s.D true)
def flushAll : List Int → PoolX → PoolX × Int
  | [], s => (s, 0)
  | no :: r, s => match find s.fs no with
    | none => flushAll r s
    | some i => match s.fs[i]? with
      | none => flushAll r s
      | some f => if (writeAt s i f).2 = 0 then flushAll r (writeAt s i f).1 else writeAt s i f
theorem writeAt_fst {s : PoolX} {i : Nat} {f : Fr} : (writeAt s i f).1 = ⟨DevP.op s.D (fits s.D f.no) (DevP.wrote s.D f.no.toNat (PageP.sealed f.x)), force s.far (lsn f.x), s.n, if DevP.err s.D (fits s.D f.no) = 0 then s.fs.set i { f with dirty := false } else s.fs⟩ := by
  unfold writeAt write
  simp only
  split <;> rfl
theorem writeAt_snd {s : PoolX} {i : Nat} {f : Fr} : (writeAt s i f).2 = DevP.err s.D (fits s.D f.no) := by
  unfold writeAt write
  simp only
  split
  · rename_i h; exact h.symm
  · rfl
theorem writeAt_room {s : PoolX} {i : Nat} {f : Fr} {k : Nat} (h : Room (k + 1) s.D) : Room k (writeAt s i f).1.D := by
  rw [writeAt_fst]
  exact h.wrote _ _ _
theorem writeAt_len {s : PoolX} {i : Nat} {f : Fr} : (writeAt s i f).1.fs.length = s.fs.length := by
  rw [writeAt_fst]
  simp only
  split
  · rw [List.length_set]
  · rfl
theorem free_room {s : PoolX} {k : Nat} (h : Room (k + 1) s.D) : Room k (free s).1.D := by
  unfold free
  repeat' split
  all_goals first
    | exact h.less (by omega)
    | exact writeAt_room h
theorem free_len {s : PoolX} : (free s).1.fs.length ≤ s.fs.length := by
  unfold free
  repeat' split
  all_goals first
    | exact Nat.le_refl _
    | exact List.length_eraseIdx_le _ _
    | exact Nat.le_of_eq writeAt_len
theorem free_less {s : PoolX} (h : (s.fs.length : Int) ≤ s.n) (h0 : (free s).2 = 0) (h1 : 1 ≤ s.n) : ((free s).1.fs.length : Int) < s.n := by
  unfold free at h0 ⊢
  split
  · assumption
  · rename_i hn
    rw [if_neg hn] at h0
    cases hv : victim s.fs with
    | none => rw [hv] at h0; simp at h0
    | some i =>
      have hi : i < s.fs.length := by
        unfold victim at hv
        rw [List.findIdx?_eq_some_iff_getElem] at hv
        exact hv.1
      rw [hv] at h0
      simp only [List.getElem?_eq_getElem hi] at h0 ⊢
      have hl : (s.fs.eraseIdx i).length = s.fs.length - 1 := List.length_eraseIdx_of_lt hi
      split
      · rename_i hd
        rw [if_pos hd] at h0
        split
        · show ((s.fs.eraseIdx i).length : Int) < s.n; omega
        · rename_i hw; rw [if_neg hw] at h0; exact absurd h0 hw
      · show ((s.fs.eraseIdx i).length : Int) < s.n; omega
def dirty (F : List Fr) : List Int := ((F.filter (·.dirty)).map (·.no)).mergeSort fun x y => decide (x ≤ y)
def flush (s : PoolX) : PoolX × Int := if (flushAll (dirty s.fs) s).2 = 0 then sync (flushAll (dirty s.fs) s).1 else flushAll (dirty s.fs) s
end PoolP
end Go.Proofs.YtcfieofcnpalgaaGreat
end
section
namespace Go.Proofs.YtcfieofcnpalgaaGreat
set_option linter.unusedVariables false
namespace PoolP
section
variable {α : Type} {p : α → Bool} {l : List α} {i : Nat} {f g : α}
theorem find_erase : ∀ {l : List α} {i : Nat}, l.find? p = some f → l[i]? = some g → (p g = false ∨ g ≠ f) → (l.eraseIdx i).find? p = some f
  | [], i, h, hi, hg => by simp at h
  | a :: l, 0, h, hi, hg => by
    simp only [List.getElem?_cons_zero, Option.some.injEq] at hi
    subst hi
    rw [List.find?_cons] at h
    show l.find? p = some f
    cases hp : p a with
    | true =>
      rw [hp] at h
      simp only [Option.some.injEq] at h
      rcases hg with hg | hg
      · rw [hp] at hg; cases hg
      · exact absurd h hg
    | false => rw [hp] at h; exact h
  | a :: l, i + 1, h, hi, hg => by
    rw [List.getElem?_cons_succ] at hi
    rw [List.find?_cons] at h
    show (a :: l.eraseIdx i).find? p = some f
    rw [List.find?_cons]
    cases hp : p a with
    | true => rw [hp] at h; exact h
    | false => rw [hp] at h; exact find_erase h hi hg
theorem find_app (h : l.find? p = some f) (m : List α) : (l ++ m).find? p = some f := by rw [List.find?_append, h]; rfl
theorem find_set {g' : α} : ∀ {l : List α} {i : Nat}, l.find? p = some f → l[i]? = some g → p g' = p g → (l.set i g').find? p = some f ∨ (g = f ∧ (l.set i g').find? p = some g')
  | [], i, h, hi, hg => by simp at h
  | a :: l, 0, h, hi, hg => by
    simp only [List.getElem?_cons_zero, Option.some.injEq] at hi
    subst hi
    rw [List.find?_cons] at h
    show (g' :: l).find? p = some f ∨ _
    rw [List.set_cons_zero, List.find?_cons, hg]
    cases hp : p a with
    | true =>
      rw [hp] at h
      simp only [Option.some.injEq] at h
      exact .inr ⟨h, rfl⟩
    | false => rw [hp] at h; exact .inl h
  | a :: l, i + 1, h, hi, hg => by
    rw [List.getElem?_cons_succ] at hi
    rw [List.find?_cons] at h
    rw [List.set_cons_succ, List.find?_cons]
    cases hp : p a with
    | true => rw [hp] at h; exact .inl h
    | false => rw [hp] at h; exact find_set h hi hg
end
/-- the page k is there as x, pinned m times -/
def Kept (fs : List Fr) (k : Int) (x : List UInt8) (m : Int) : Prop := ∃ f, fs.find? (fun f => f.no == k) = some f ∧ f.x = x ∧ f.pins = m
section
variable {s : PoolX} {k no m : Int} {x : List UInt8} {i : Nat} {f : Fr}
theorem find_at : ∀ {fs : List Fr}, fs.find? (fun f => f.no == k) = some f → ∃ i, find fs k = some i ∧ fs[i]? = some f
  | [], h => by simp at h
  | a :: l, h => by
    rw [List.find?_cons] at h
    unfold find
    rw [List.findIdx?_cons]
    cases hp : (a.no == k) with
    | true =>
      rw [hp] at h
      simp only [Option.some.injEq] at h
      subst h
      exact ⟨0, by simp, rfl⟩
    | false =>
      rw [hp] at h
      obtain ⟨i, h1, h2⟩ := find_at h
      unfold find at h1
      exact ⟨i + 1, by simp [h1], by simpa using h2⟩
theorem Kept.writeAt (h : Kept s.fs k x m) (hi : s.fs[i]? = some f) : Kept (writeAt s i f).1.fs k x m := by
  rw [writeAt_fst]
  simp only
  split
  · obtain ⟨g, h1, h2, h3⟩ := h
    rcases find_set (g' := { f with dirty := false }) h1 hi rfl with h | ⟨rfl, h⟩
    · exact ⟨g, h, h2, h3⟩
    · exact ⟨_, h, h2, h3⟩
  · exact h
theorem victim_some {fs : List Fr} (h : victim fs = some i) : ∃ f, fs[i]? = some f ∧ f.pins ≤ 0 := by
  unfold victim at h
  rw [List.findIdx?_eq_some_iff_getElem] at h
  obtain ⟨h1, h2, -⟩ := h
  exact ⟨_, List.getElem?_eq_getElem h1, by simpa using h2⟩
theorem Kept.free (h : Kept s.fs k x m) (hm : 0 < m) : Kept (free s).1.fs k x m := by
  unfold PoolP.free
  split
  · exact h
  · cases hv : victim s.fs with
    | none => exact h
    | some i =>
      obtain ⟨f, hf, hp⟩ := victim_some hv
      simp only [hf]
      obtain ⟨g, h1, h2, h3⟩ := h
      have hne : f ≠ g := fun e => by subst e; omega
      split
      · split
        · exact ⟨g, find_erase h1 hf (.inr hne), h2, h3⟩
        · exact Kept.writeAt ⟨g, h1, h2, h3⟩ hf
      · exact ⟨g, find_erase h1 hf (.inr hne), h2, h3⟩
theorem Kept.use (h : Kept s.fs k x m) (hi : s.fs[i]? = some f) (hn : f.no ≠ k) (r : List Fr) : Kept (s.fs.eraseIdx i ++ r) k x m := by
  obtain ⟨g, h1, h2, h3⟩ := h
  exact ⟨g, find_app (find_erase h1 hi (.inl (by simpa using hn))) r, h2, h3⟩
theorem Kept.get (h : Kept s.fs k x m) (hm : 0 < m) (hn : no ≠ k) : Kept (PoolP.get s no).1.fs k x m := by
  cases hf : PoolP.find s.fs no with
  | some i =>
    obtain ⟨f, hi, e⟩ := PoolP.find_some hf
    rw [PoolP.get_some hf hi]
    exact h.use hi (by rw [e]; exact hn) _
  | none =>
    rw [PoolP.get_none hf]
    have h2 := h.free hm
    split
    · unfold fetch
      split
      · exact h2
      · split
        · obtain ⟨g, h1, h3, h4⟩ := h2
          exact ⟨g, find_app h1 _, h3, h4⟩
        · exact h2
    · exact h2
theorem Kept.fresh (h : Kept s.fs k x m) (hm : 0 < m) (hn : no ≠ k) : Kept (PoolP.fresh s no).1.fs k x m := by
  cases hf : PoolP.find s.fs no with
  | some i =>
    obtain ⟨f, hi, e⟩ := PoolP.find_some hf
    rw [PoolP.fresh_some hf hi]
    exact h.use hi (by rw [e]; exact hn) _
  | none =>
    rw [PoolP.fresh_none hf]
    have h2 := h.free hm
    split
    · exact h
    · split
      · obtain ⟨g, h1, h3, h4⟩ := h2
        exact ⟨g, find_app h1 _, h3, h4⟩
      · exact h2
theorem Kept.flushAll : ∀ (l : List Int) {s : PoolX}, Kept s.fs k x m → Kept (PoolP.flushAll l s).1.fs k x m
  | [], s, h => h
  | no :: r, s, h => by
    unfold PoolP.flushAll
    cases hf : PoolP.find s.fs no with
    | none => exact Kept.flushAll r h
    | some i =>
      obtain ⟨f, hi, -⟩ := PoolP.find_some hf
      simp only [hi]
      split
      · exact Kept.flushAll r (h.writeAt hi)
      · exact h.writeAt hi
theorem Kept.flush (h : Kept s.fs k x m) : Kept (PoolP.flush s).1.fs k x m := by
  unfold PoolP.flush
  split
  · exact Kept.flushAll _ h
  · exact Kept.flushAll _ h
end
end PoolP
end Go.Proofs.YtcfieofcnpalgaaGreat
end
section
namespace Go.Proofs.YtcfieofcnpalgaaGreat
set_option linter.unusedVariables false
namespace PoolP
def Once (fs : List Fr) : Prop := (fs.map (·.no)).Nodup
section
variable {s : PoolX} {fs : List Fr} {k no m : Int} {x : List UInt8} {i : Nat} {f g : Fr}
theorem Once.erase (h : Once fs) (i : Nat) : Once (fs.eraseIdx i) := List.Nodup.sublist ((List.eraseIdx_sublist fs i).map _) h
theorem find_no (h : find fs no = none) : ∀ f ∈ fs, f.no ≠ no := fun f hf => by
  unfold find at h
  rw [List.findIdx?_eq_none_iff] at h
  simpa using h f hf
theorem Once.add (h : Once fs) (hn : ∀ g ∈ fs, g.no ≠ f.no) : Once (fs ++ [f]) := by
  unfold Once at *
  rw [List.map_append, List.nodup_append]
  refine ⟨h, by simp, fun a ha b hb e => ?_⟩
  simp only [List.map_cons, List.map_nil, List.mem_singleton] at hb
  obtain ⟨g, hg, rfl⟩ := List.mem_map.1 ha
  exact hn g hg (e.trans hb)
theorem Once.others : ∀ {fs : List Fr} {i : Nat}, Once fs → fs[i]? = some f → ∀ g ∈ fs.eraseIdx i, g.no ≠ f.no
  | [], i, h, hi => by simp at hi
  | a :: l, 0, h, hi => by
    simp only [List.getElem?_cons_zero, Option.some.injEq] at hi
    subst hi
    intro g hg e
    have h' := List.nodup_cons.1 h
    exact h'.1 (List.mem_map.2 ⟨g, hg, e⟩)
  | a :: l, i + 1, h, hi => by
    rw [List.getElem?_cons_succ] at hi
    intro g hg e
    have h' := List.nodup_cons.1 h
    have hg' : g ∈ a :: l.eraseIdx i := hg
    rcases List.mem_cons.1 hg' with rfl | hg'
    · exact h'.1 (List.mem_map.2 ⟨f, List.mem_of_getElem? hi, e.symm⟩)
    · exact Once.others h'.2 hi g hg' e
theorem Once.use (h : Once fs) (hi : fs[i]? = some f) (he : g.no = f.no) : Once (fs.eraseIdx i ++ [g]) := (h.erase i).add fun q hq => by rw [he]; exact h.others hi q hq
theorem Once.set (h : Once fs) (hi : fs[i]? = some f) (he : g.no = f.no) : Once (fs.set i g) := by
  unfold Once at *
  have e : (fs.set i g).map (·.no) = fs.map (·.no) := by
    rw [List.map_set, he]
    have h1 : (fs.map (·.no))[i]? = some f.no := by rw [List.getElem?_map, hi]; rfl
    obtain ⟨h2, h3⟩ := List.getElem?_eq_some_iff.1 h1
    rw [← h3]
    exact List.set_getElem_self h2
  rw [e]
  exact h
theorem Once.writeAt (h : Once s.fs) (hi : s.fs[i]? = some f) : Once (writeAt s i f).1.fs := by
  rw [writeAt_fst]
  simp only
  split
  · exact h.set hi rfl
  · exact h
theorem Once.free (h : Once s.fs) : Once (free s).1.fs := by
  unfold PoolP.free
  split
  · exact h
  · cases hv : victim s.fs with
    | none => exact h
    | some i =>
      obtain ⟨f, hf, hp⟩ := victim_some hv
      simp only [hf]
      split
      · split
        · exact h.erase i
        · exact h.writeAt hf
      · exact h.erase i
theorem free_sub {g : Fr} : ∀ g ∈ (free s).1.fs, ∃ q ∈ s.fs, q.no = g.no ∧ q.x = g.x ∧ q.pins = g.pins := by
  have hw : ∀ (i : Nat) (f : Fr), s.fs[i]? = some f → ∀ g ∈ (PoolP.writeAt s i f).1.fs, ∃ q ∈ s.fs, q.no = g.no ∧ q.x = g.x ∧ q.pins = g.pins := fun i f hf g hg => by
    rw [writeAt_fst] at hg
    simp only at hg
    split at hg
    · rcases List.mem_or_eq_of_mem_set hg with h | h
      · exact ⟨g, h, rfl, rfl, rfl⟩
      · subst h; exact ⟨f, List.mem_of_getElem? hf, rfl, rfl, rfl⟩
    · exact ⟨g, hg, rfl, rfl, rfl⟩
  unfold PoolP.free
  split
  · exact fun g hg => ⟨g, hg, rfl, rfl, rfl⟩
  · cases hv : victim s.fs with
    | none => exact fun g hg => ⟨g, hg, rfl, rfl, rfl⟩
    | some i =>
      obtain ⟨f, hf, hp⟩ := victim_some hv
      simp only [hf]
      split
      · split
        · exact fun g hg => ⟨g, List.mem_of_mem_eraseIdx hg, rfl, rfl, rfl⟩
        · exact hw i f hf
      · exact fun g hg => ⟨g, List.mem_of_mem_eraseIdx hg, rfl, rfl, rfl⟩
theorem free_no (h : find s.fs no = none) : ∀ g ∈ (free s).1.fs, g.no ≠ no := fun g hg => by
  obtain ⟨q, hq, e, -⟩ := free_sub (g := g) g hg
  rw [← e]
  exact find_no h q hq
theorem Once.get (h : Once s.fs) : Once (PoolP.get s no).1.fs := by
  cases hf : PoolP.find s.fs no with
  | some i =>
    obtain ⟨f, hi, e⟩ := PoolP.find_some hf
    rw [PoolP.get_some hf hi]
    exact h.use hi rfl
  | none =>
    rw [PoolP.get_none hf]
    split
    · unfold fetch
      split
      · exact h.free
      · split
        · exact h.free.add (free_no hf)
        · exact h.free
    · exact h.free
theorem Once.fresh (h : Once s.fs) : Once (PoolP.fresh s no).1.fs := by
  cases hf : PoolP.find s.fs no with
  | some i =>
    obtain ⟨f, hi, e⟩ := PoolP.find_some hf
    rw [PoolP.fresh_some hf hi]
    exact h.use hi rfl
  | none =>
    rw [PoolP.fresh_none hf]
    split
    · exact h
    · split
      · exact h.free.add (free_no hf)
      · exact h.free
theorem Once.flushAll : ∀ (l : List Int) {s : PoolX}, Once s.fs → Once (PoolP.flushAll l s).1.fs
  | [], s, h => h
  | no :: r, s, h => by
    unfold PoolP.flushAll
    cases hf : PoolP.find s.fs no with
    | none => exact Once.flushAll r h
    | some i =>
      obtain ⟨f, hi, -⟩ := PoolP.find_some hf
      simp only [hi]
      split
      · exact Once.flushAll r (h.writeAt hi)
      · exact h.writeAt hi
theorem Once.flush (h : Once s.fs) : Once (PoolP.flush s).1.fs := by
  unfold PoolP.flush
  split
  · exact Once.flushAll _ h
  · exact Once.flushAll _ h
/-- the frame that was used lies behind -/
theorem kept_use (h : Once fs) (hi : fs[i]? = some f) (he : g.no = f.no) (hk : f.no = k) : Kept (fs.eraseIdx i ++ [g]) k g.x g.pins := by
  refine ⟨g, ?_, rfl, rfl⟩
  have hn : (fs.eraseIdx i).find? (fun f => f.no == k) = none := by
    rw [List.find?_eq_none]
    intro q hq
    have := h.others hi q hq
    simp only [beq_iff_eq]
    rw [← hk]
    exact this
  rw [List.find?_append, hn, List.find?_cons, he, hk]
  simp
theorem Kept.got (h : Kept s.fs k x m) (ho : Once s.fs) : (PoolP.get s k).2 = (x, 0) ∧ (PoolP.get s k).1.D = s.D ∧ Kept (PoolP.get s k).1.fs k x m := by
  obtain ⟨f, h1, rfl, rfl⟩ := h
  obtain ⟨i, h2, h3⟩ := find_at h1
  obtain ⟨f', h4, h5⟩ := find_some h2
  rw [h3] at h4
  cases h4
  rw [get_some h2 h3]
  exact ⟨rfl, rfl, kept_use ho h3 rfl h5⟩
theorem kept_set {g' : Fr} (h : fs.find? (fun f => f.no == k) = some f) : ∃ i, find fs k = some i ∧ fs[i]? = some f ∧ (g'.no = f.no → (fs.set i g').find? (fun f => f.no == k) = some g') := by
  obtain ⟨i, h2, h3⟩ := find_at h
  obtain ⟨h4, h5, h6⟩ := List.findIdx?_eq_some_iff_getElem.1 h2
  refine ⟨i, h2, h3, fun he => ?_⟩
  rw [List.find?_eq_some_iff_getElem]
  obtain ⟨h7, h8⟩ := List.getElem?_eq_some_iff.1 h3
  refine ⟨by rw [he, ← h8]; exact h5, i, by simpa using h4, by simp, fun j hj => ?_⟩
  rw [List.getElem_set_ne (by omega)]
  simpa using h6 j hj
theorem Kept.pins (h : Kept s.fs k x m) : (PoolP.pin s k).2 = 0 ∧ (PoolP.pin s k).1.D = s.D ∧ Kept (PoolP.pin s k).1.fs k x (m + 1) := by
  obtain ⟨f, h1, rfl, rfl⟩ := h
  obtain ⟨i, h2, h3, h4⟩ := kept_set (g' := { f with pins := f.pins + 1 }) h1
  rw [pin_some h2 h3]
  exact ⟨rfl, rfl, _, h4 rfl, rfl, rfl⟩
theorem Kept.unpins (h : Kept s.fs k x m) (hm : m ≠ 0) : (PoolP.unpin s k).2 = true ∧ (PoolP.unpin s k).1.D = s.D ∧ Kept (PoolP.unpin s k).1.fs k x (m - 1) := by
  obtain ⟨f, h1, rfl, rfl⟩ := h
  obtain ⟨i, h2, h3, h4⟩ := kept_set (g' := { f with pins := f.pins - 1 }) h1
  rw [unpin_some h2 h3, if_neg hm]
  exact ⟨rfl, rfl, _, h4 rfl, rfl, rfl⟩
theorem Kept.unpin0 (h : Kept s.fs k x 0) : PoolP.unpin s k = (s, false) := by
  obtain ⟨f, h1, rfl, h0⟩ := h
  obtain ⟨i, h2, h3⟩ := find_at h1
  rw [unpin_some h2 h3, if_pos h0]
end
end PoolP
end Go.Proofs.YtcfieofcnpalgaaGreat
end
