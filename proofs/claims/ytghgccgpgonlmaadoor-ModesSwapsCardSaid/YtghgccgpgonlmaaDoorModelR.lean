/-
  model.Run: operations done one behind the other.
-/
import Derived.Test.YtghgccgpgonlmaaDoorModelH
import Derived.Test.YtghgccgpgonlmaaDoorOpenM
import Derived.Test.YtghgccgpgonlmaaDoorModelE
namespace Go.Proofs.YtghgccgpgonlmaaDoor
open Go.RowKit
set_option linter.unusedVariables false
namespace ModelP
/-- the state behind all, and what they tell -/
def run (s : List Pair) : List OpX → List Pair × List Answer
  | [] => (s, [])
  | x :: l => ((run (step s x).1 l).1, (step s x).2 :: (run (step s x).1 l).2)
/-- the state behind the first k -/
def upto (s : List Pair) (l : List OpX) (k : Nat) : List Pair := (run s (l.take k)).1
/-- what the first k tell -/
def told (s : List Pair) (l : List OpX) (k : Nat) : List Answer := (run s (l.take k)).2
theorem run_append (s : List Pair) (l : List OpX) (x : OpX) : run s (l ++ [x]) = ((step (run s l).1 x).1, (run s l).2 ++ [(step (run s l).1 x).2]) := by
  induction l generalizing s with
  | nil => rfl
  | cons y l ih =>
    show run s (y :: (l ++ [x])) = _
    unfold run
    rw [ih]
    rfl
theorem upto_succ {s : List Pair} {l : List OpX} {k : Nat} {x : OpX} (h : l[k]? = some x) : upto s l (k + 1) = (step (upto s l k) x).1 ∧ told s l (k + 1) = told s l k ++ [(step (upto s l k) x).2] := by
  unfold upto told
  rw [List.take_add_one, h]
  show (run s (l.take k ++ [x])).1 = _ ∧ (run s (l.take k ++ [x])).2 = _
  rw [run_append]
  exact ⟨rfl, rfl⟩
theorem told_length (s : List Pair) (l : List OpX) : (run s l).2.length = l.length := by
  induction l generalizing s with
  | nil => rfl
  | cons y l ih => unfold run; simp [ih]
theorem upto_rises {s : List Pair} (h : Rises s) (l : List OpX) : ∀ k, k ≤ l.length → Rises (upto s l k)
  | 0, _ => by simpa [upto, run] using h
  | k + 1, hk => by
    rw [(upto_succ (List.getElem?_eq_getElem (show k < l.length by omega))).1]
    have ih := upto_rises h l k (by omega)
    unfold step
    split
    · exact ih
    · split
      · exact ih
      · exact put_rises _ _ _ ih
theorem upto_length (s : List Pair) (l : List OpX) : ∀ k, k ≤ l.length → (upto s l k).length ≤ s.length + k
  | 0, _ => by simp [upto, run]
  | k + 1, hk => by
    rw [(upto_succ (List.getElem?_eq_getElem (show k < l.length by omega))).1]
    have := step_length (upto s l k) l[k]
    have := upto_length s l k (by omega)
    omega
theorem rule_data {t : Option Cell} {x : OpX} (ht : ∀ c, t = some c → c.data.length ≤ 100000) (hx : x.data.length ≤ 100000) : ∀ c, (rule t x).2.1 = some c → c.data.length ≤ 100000 := by
  intro c hc
  unfold rule at hc
  split at hc
  · cases t with
    | none => cases hc
    | some d => cases hc; exact ht _ rfl
  · split at hc
    · split at hc
      · cases hc
      · cases hc; exact hx
    · split at hc
      · cases t with
        | some d => cases hc
        | none => cases hc; exact Nat.zero_le _
      · split at hc
        · cases t <;> cases hc
        · cases t with
          | none => cases hc
          | some d =>
            dsimp only at hc
            generalize (if x.act = 4 then d.val + x.n else d.val - x.n) = v at hc
            split at hc
            · cases hc
            · split at hc
              · cases hc
              · simp only [Option.some.injEq] at hc
                subst hc
                exact Nat.zero_le _
theorem step_data {s : List Pair} (h : ∀ p ∈ s, p.cell.data.length ≤ 100000) {x : OpX} (hx : x.data.length ≤ 100000) (hr : Rises s) : ∀ p ∈ (step s x).1, p.cell.data.length ≤ 100000 := by
  unfold step
  split
  · exact h
  · split
    · exact h
    · intro p hp
      rcases mem_put hp with hp | ⟨c, hc, rfl⟩
      · exact h p hp
      · refine rule_data (fun d hd => ?_) hx c hc
        rw [find_eq x.key s hr] at hd
        split at hd
        · obtain ⟨q, hq, rfl⟩ := Option.map_eq_some_iff.1 hd
          exact h q (List.mem_of_getElem? hq)
        · cases hd
theorem upto_data {s : List Pair} (hr : Rises s) (h : ∀ p ∈ s, p.cell.data.length ≤ 100000) {l : List OpX} (hl : ∀ x ∈ l, x.data.length ≤ 100000) : ∀ k, k ≤ l.length → ∀ p ∈ upto s l k, p.cell.data.length ≤ 100000
  | 0, _ => by simpa [upto, run] using h
  | k + 1, hk => by
    rw [(upto_succ (List.getElem?_eq_getElem (show k < l.length by omega))).1]
    exact step_data (upto_data hr h hl k (by omega)) (hl _ (List.getElem_mem _)) (upto_rises hr l k (by omega))
end ModelP
/-- how an answer lies in memory -/
def AnsE : El Answer where
  size := 6
  pos := by decide
  rel w B vs a := ∃ A n c, vs = (ansV A n c a).toList ∧ Bytes w B A n c a.cell.data
  len := by rintro w B vs p ⟨A, n, c, rfl, _⟩; rfl
  one := by
    rintro w B vs p ⟨A, n, c, rfl, _⟩ v hv
    simp only [ansV, List.mem_cons, List.not_mem_nil, or_false] at hv
    rcases hv with rfl | rfl | rfl | rfl | rfl | rfl <;> rfl
  sub := by rintro w w' B vs p hs ⟨A, n, c, e, h⟩; exact ⟨A, n, c, e, h.sub hs⟩
  more := by rintro w B B' vs p hB ⟨A, n, c, e, h⟩; exact ⟨A, n, c, e, h.more hB⟩
theorem AnsE_byt : El.Byt AnsE := by
  intro w w' B vs p hs ⟨A, n, c, e, h⟩
  exact ⟨A, n, c, e, h.subU hs⟩
def zeroAns : Answer := ⟨0, CellP.none⟩
theorem zeroAns_rel (w : World) (B : Nat) : AnsE.rel w B [.int .i64 0, .int .i64 0, .slice none 0 0, .int .i64 0, .int .i64 0, .int .i64 0] zeroAns := ⟨none, 0, 0, rfl, Bytes.none_ _ _⟩
theorem infoA : (Tryd.prog.info? 47).map (fun i => (i.zero, i.size, i.bytes)) = some (some (.agg #[.int .i64 0, .int .i64 0, .slice none 0 0, .int .i64 0, .int .i64 0, .int .i64 0]), 6, 64) := by kernel_rfl
theorem stA_fold (a v : Value) : Instr.storeAt 47 a v = stSem 47 a v := rfl
abbrev TAn : TypeId := 47
/-- the row of what was told: its words hang on no block of the state's row -/
def Told (w : World) (base g m : Nat) (A : Option Addr) (l : List Answer) : Prop := ∃ vs, w.ownsRow base TAn 6 (.slice (some ⟨g, 0, none⟩) m m) m vs.flatten ∧ Rel2 (AnsE.rel (hideL w (blk A)) w.heap.size) vs l
section
variable {w w' : World} {base g m : Nat} {A A2 : Option Addr} {l : List Answer}
theorem Told.len (h : Told w base g m A l) : l.length = m := by
  obtain ⟨vs, h1, h2⟩ := h
  have e1 := h1.1
  rw [h2.flat (fun _ _ => AnsE.len)] at e1
  exact Nat.eq_of_mul_eq_mul_right AnsE.pos e1
theorem Told.next (h : Told w base g m A l) (hb : Below w.heap.size w w') : Told w' base g m A l := by
  obtain ⟨vs, h1, h2⟩ := h
  exact ⟨vs, own_next h1 hb, h2.imp fun _ _ hr => AnsE.more hb.size (AnsE.sub (hideL_below _ hb) hr)⟩
theorem Told.turn (h : Told w base g m A l) (hg : w.grownBy w' ((Value.slice A 0 0).ownBlock)) (hne : ∀ a, A = some a → a.block ≠ g) (hA : A2 = A ∨ ∀ a, A2 = some a → w.heap.size ≤ a.block) : Told w' base g m A2 l := by
  obtain ⟨vs, ⟨h1, h2⟩, h3⟩ := h
  have hob : ∀ k, k ∉ blk A → some k ≠ (Value.slice A 0 0).ownBlock := by
    intro k hk e
    cases A with
    | none => simp [Value.ownBlock] at e
    | some a => simp only [Value.ownBlock, Option.some.injEq] at e; exact hk (by simp [blk, e])
  refine ⟨vs, ⟨h1, ?_⟩, h3.imp fun _ _ hr => AnsE.more hg.size (AnsE.sub (hideL_sub_of fun k hk hn => ⟨?_, hg.block k hk (hob k hn)⟩) hr)⟩
  · rcases h2 with h2 | ⟨g', cap, cur, hv, hb, hh, r⟩
    · exact .inl h2
    · cases hv
      refine .inr ⟨g, m, cur, rfl, hb, (hg.block g (Array.getElem?_eq_some_iff.1 hh).1 (hob g ?_)).trans hh, r⟩
      cases A with
      | none => simp [blk]
      | some a =>
        have := hne a rfl
        simp only [blk, List.mem_cons, List.not_mem_nil, or_false]
        exact fun e => this e.symm
  · rcases hA with rfl | hA
    · exact hn
    · cases A2 with
      | none => simp [blk]
      | some a =>
        have := hA a rfl
        simp only [blk, List.mem_cons, List.not_mem_nil, or_false]
        omega
theorem zeroAns_any {w w' : World} {B B' : Nat} {v : List Value} (h : AnsE.rel w B v zeroAns) : AnsE.rel w' B' v zeroAns := by
  obtain ⟨A, n, c, e, h1, h2, h3, h4⟩ := h
  have hn : n = 0 := h1.symm
  subst hn
  exact ⟨A, 0, c, e, h1, h2, h3, fun hp => absurd hp (by omega)⟩
theorem Rel2.impm {α : Type} {R R' : List Value → α → Prop} : ∀ {vs : List (List Value)} {xs : List α}, (∀ v x, x ∈ xs → R v x → R' v x) → Rel2 R vs xs → Rel2 R' vs xs
  | [], [], _, _ => trivial
  | _ :: vs, _ :: xs, hi, h => ⟨hi _ _ (by simp) h.1, Rel2.impm (fun v x hx => hi v x (by simp [hx])) h.2⟩
  | [], _ :: _, _, h => h.elim
  | _ :: _, [], _, h => h.elim
theorem ansV_notU8 (A : Option Addr) (n c : Nat) (a : Answer) : notU8 (ansV A n c a) = true := rfl
theorem flat_notU8 {B : Nat} : ∀ {vs : List (List Value)} {l : List Answer}, Rel2 (AnsE.rel w B) vs l → notU8 vs.flatten.toArray = true
  | [], [], _ => rfl
  | v :: vs, x :: l, h => by
    obtain ⟨⟨A, n, c, rfl, -⟩, h2⟩ := h
    have ih := flat_notU8 h2
    have h1 := ansV_notU8 A n c x
    unfold notU8 at *
    simp only [List.flatten_cons, List.all_append, Bool.and_eq_true] at *
    exact ⟨h1, ih⟩
  | [], _ :: _, h => h.elim
  | _ :: _, [], h => h.elim
theorem Told.str (h : Told w base g m A l) (hm : 0 < m) : ∃ cs, Str w g cs ∧ notU8 cs = true ∧ base ≤ g ∧ g < w.heap.size := by
  have hl := h.len
  obtain ⟨vs, ⟨h1, h2⟩, h3⟩ := h
  rcases h2 with ⟨e, h0⟩ | ⟨g', cap, cur, hv, hb, hh, hnc, hmx, hsz, htk⟩
  · cases e
  · cases hv
    refine ⟨cur, ⟨_, hh⟩, ?_, hb, (Array.getElem?_eq_some_iff.1 hh).1⟩
    have e : cur = vs.flatten.toArray := by
      rw [← htk, List.take_of_length_le (by simp [hsz])]
    rw [e]
    exact flat_notU8 h3
theorem Told.write {P : Program} (h : Told w base g m A l) {k n c : Nat} {A1 : Option Addr} {a : Answer} (hk : k < m) (hy : BytesH (blk A) w A1 n c a.cell.data) :
    ∃ w1, (storeCells ⟨g, k * 6, none⟩ (ansV A1 n c a).toList).run P w = .ok () w1 ∧ Told w1 base g m A (l.set k a) ∧ w.grownBy w1 (some g) ∧ w1.heap.size = w.heap.size := by
  have hlen := h.len
  have hs := h.str (by omega)
  obtain ⟨vs, ⟨h1, h2⟩, hr⟩ := h
  obtain ⟨cs0, hS, hN, -, -⟩ := hs
  rcases h2 with ⟨e, h0⟩ | ⟨g', cap, cur, hv, hb, hh, hnc, hmx, hsz, htk⟩
  · cases e
  cases hv
  have hvl := hr.length.trans hlen
  have hjs : k * 6 + 6 ≤ m * 6 := by rw [← Nat.succ_mul]; exact Nat.mul_le_mul_right _ hk
  have h1c : ∀ v ∈ (ansV A1 n c a).toList, v.oneCell' = true := by
    intro v hv
    simp only [ansV, List.mem_cons, List.not_mem_nil, or_false] at hv
    rcases hv with rfl | rfl | rfl | rfl | rfl | rfl <;> rfl
  have hrun := run_storeCells_at P g (k * 6) TAn (ansV A1 n c a).toList 0 cur w hh (by rw [hsz]; show k * 6 + 0 + 6 ≤ m * 6; omega) h1c
  simp only [Nat.add_zero] at hrun
  obtain ⟨v, hv, hvr⟩ := hr.get (List.getElem?_eq_getElem (show k < l.length by omega))
  have hvlen := AnsE.len hvr
  have ecur : cur.toList = vs.flatten := by rw [← htk, List.take_of_length_le (by simp [hsz])]
  have hov : cur.toList.take (k * 6) ++ (ansV A1 n c a).toList ++ cur.toList.drop (k * 6 + (ansV A1 n c a).toList.length) = (vs.set k (ansV A1 n c a).toList).flatten := by
    have := over_flat (size := 6) vs hr.all k v 0 (ansV A1 n c a).toList hv (by show 0 + 6 ≤ 6; omega)
    rw [Nat.add_zero] at this
    have e2 : overV v 0 (ansV A1 n c a).toList = (ansV A1 n c a).toList := by
      unfold overV
      rw [List.take_zero, List.nil_append, List.drop_of_length_le (by rw [hvlen]; show 6 ≤ 0 + 6; omega), List.append_nil]
    rw [e2] at this
    rw [← this, ecur]
    simp [overV]
  rw [hov] at hrun
  have hsub : SubU w.heap.size (hideL w (blk A)) (hideL (w.setRow g (vs.set k (ansV A1 n c a).toList).flatten.toArray) (blk A)) := by
    rw [← hid_blk, ← hid_blk]
    exact subU_grown A hS hN (grown_setRow w g _)
  have hset : Rel2 (AnsE.rel (hideL (w.setRow g (vs.set k (ansV A1 n c a).toList).flatten.toArray) (blk A)) w.heap.size) (vs.set k (ansV A1 n c a).toList) (l.set k a) :=
    (hr.set (show AnsE.rel (hideL w (blk A)) w.heap.size (ansV A1 n c a).toList a from ⟨A1, n, c, rfl, hy⟩) k).imp fun _ _ hq => AnsE_byt hsub hq
  have hfl2 : (vs.set k (ansV A1 n c a).toList).flatten.length = m * 6 := by
    have := hset.flat (fun _ _ => AnsE.len)
    rw [this, List.length_set, hlen]; rfl
  refine ⟨_, hrun, ⟨_, ⟨hfl2, .inr ⟨g, m, _, rfl, hb, setRow_heap w g _ _ TAn _ hh, hnc, hmx, by simpa using hfl2, by rw [List.take_of_length_le (Nat.le_of_eq hfl2)]⟩⟩, hset.imp fun _ _ hq => by rw [sz_setRow]; exact hq⟩, grown_setRow w g _, sz_setRow _ _ _⟩
theorem Told.elems (h : Told w base g m A l) : Elems AnsE w w.heap.size (some ⟨g, 0, none⟩) m m l := by
  have hlen := h.len
  obtain ⟨vs, ⟨h1, h2⟩, hr⟩ := h
  rcases h2 with ⟨e, h0⟩ | ⟨g', cap, cur, hv, hb, hh, hnc, hmx, hsz, htk⟩
  · cases e
  cases hv
  refine ⟨vs, hr.imp fun _ _ hq => AnsE.sub (sub_hideL _ w _) hq, hlen, hnc, hmx, fun _ => ⟨g, 0, rfl, (Array.getElem?_eq_some_iff.1 hh).1, fun j u hu => ?_⟩⟩
  rw [← htk, List.getElem?_take] at hu
  split at hu
  · simp only [World.cell?, hh, Nat.zero_add]
    simpa using hu
  · cases hu
end
theorem setA_fill {l : List Answer} {k n : Nat} {p : Answer} (hl : l.length = k) (hk : k < n) : (l ++ List.replicate (n - k) zeroAns).set k p = (l ++ [p]) ++ List.replicate (n - (k + 1)) zeroAns := by
  rw [List.set_append_right _ _ (by omega), hl, Nat.sub_self, show n - k = (n - (k + 1)) + 1 by omega, List.replicate_succ, List.set_cons_zero]
  simp
end Go.Proofs.YtghgccgpgonlmaaDoor
namespace Go.Proofs.YtghgccgpgonlmaaDoor.ModelW
open Go.RowKit
set_option linter.unusedVariables false
attribute [local go_sem ↓] stA_fold
set_option maxRecDepth 100000 in
set_option maxHeartbeats 2000000 in
theorem Run_any (A : Option Addr) (n c B : Nat) (s : List Pair) (Al : Option Addr) (m cl Bl : Nat) (l : List OpX) (w : World) (h : Pairs w B A n c s) (hB : B ≤ w.heap.size) (hr : ModelP.Rises s) (hs : s.length ≤ 500 ∧ ∀ p ∈ s, p.cell.data.length ≤ 100000) (hl : OpsL w Bl Al m cl l) (hBl : Bl ≤ w.heap.size) (hm : m ≤ 500) (hd : ∀ x ∈ l, x.data.length ≤ 100000) :
    Calls Tryd.prog 17 #[.slice A n c, .slice Al m cl] w fun e w' => ∃ A1 n1 c1 A2 c2, e = .returned (.tuple #[.slice A1 n1 c1, .slice A2 m c2]) ∧ Pairs w' w'.heap.size A1 n1 c1 (ModelP.run s l).1 ∧ Elems AnsE w' w'.heap.size A2 m c2 (ModelP.run s l).2 ∧ Below w.heap.size w w' := by
  obtain ⟨i0, hi, hz0, hz1, hz2⟩ := info_parts infoA
  have hlen := h.len
  have hllen := hl.len
  have H := Lib.hid h
  have HO := Lib.hid hl
  have HD := Lib.hid hs.2
  have HR := Lib.hid hr
  have HLL := Lib.hid hllen
  have HSL := Lib.hid hs.1
  have hn : n ≤ 500 := by rw [← hlen]; exact hs.1
  have HDX := Lib.hid hd
  have HI := Lib.hid hi
  clear h hl hs hr hd hi hlen
  go_enter Tryd.func17, Tryd.ntmps17
  go_wp2_with fail
  refine (copyState_any A n c B s _ H.out hB (by omega) HD.out).mono ?_
  rintro e W1 ⟨g, rfl, hO1, hb1⟩
  obtain ⟨W2, hmk, hT2, hb2, hs2⟩ := own_made (P := Tryd.prog) (E := AnsE) 41 i0 _ _ zeroAns Tryd.underlying41 HI.out hz0 hz1 rfl zeroAns_rel m (by rw [hz2]; omega) (by omega) W1
  have hsz1 := hb1.size
  have hgl := hO1.blk_lt g (by simp [blk])
  have HP2 := Lib.hid (hO1.next hb2)
  have HT2 : Hid (Told W2 w.heap.size W1.heap.size m (some ⟨g, 0, none⟩) (ModelP.told s l 0 ++ List.replicate (m - 0) zeroAns)) := Lib.hid (by
    obtain ⟨vs, ⟨q1, q2⟩, h2⟩ := hT2
    exact ⟨vs, ⟨q1, q2.imp id fun ⟨g', cap, cur, e1, hg, r⟩ => ⟨g', cap, cur, e1, Nat.le_trans hsz1 hg, r⟩⟩, Rel2.impm (fun v x hx hq => by rw [List.eq_of_mem_replicate hx] at hq ⊢; exact zeroAns_any hq) h2⟩)
  have HB2 := Lib.hid (bstep hb1 hb2)
  clear hO1 hT2 hb1 hb2 hs2
  go_wp2
  go_loopw [6, 17] (fun sv i wr => ∃ (k : Nat) (A' : Option Addr) (n' c' : Nat), k ≤ m ∧ i = .int .i64 (k : Int) ∧ sv = .slice A' n' c' ∧ Hid (OwnE PairE TPr wr w.heap.size A' n' c' (ModelP.upto s l k) ∧ Told wr w.heap.size W1.heap.size m A' (ModelP.told s l k ++ List.replicate (m - k) zeroAns) ∧ (∀ a, A' = some a → a.block ≠ W1.heap.size) ∧ Below w.heap.size w wr)) (fun _ i _ => m - (intOf i).toNat)
  case atStart => exact ⟨0, some ⟨g, 0, none⟩, n, n, Nat.zero_le _, rfl, rfl, Lib.hid ⟨HP2.out, HT2.out, fun a e => by cases e; show g ≠ _; omega, HB2.out⟩⟩
  case round =>
    obtain ⟨k, A', n', c', hk, rfl, rfl, HK⟩ := hrel
    have hsz := HK.out.2.2.2.size
    by_cases hlt : k < m
    · obtain ⟨b, o, x, Ax, nx, cx, rfl, hbB, hx, hby, hxk, i1, i2, i3, i4, c0, c1, c2, c3, c4, c5⟩ := op_at (HO.out.below (HK.out.2.2.2.mono hBl)) hlt
      have HX := Lib.hid hx
      have hxd := HDX.out x (List.mem_of_getElem? hx)
      have HUP := Lib.hid (ModelP.upto_succ (s := s) hx)
      obtain ⟨xact, xk, xdata, xlo, xhi, xn⟩ := x
      dsimp only at *
      have HY := Lib.hid hby
      have hnx : nx ≤ 100000 := by rw [← hby.len]; exact hxd
      clear hx hby hxd
      have hbw : b < wr.heap.size := by omega
      have hkl : k ≤ l.length := by rw [HLL.out]; exact hk
      have HUR := Lib.hid (ModelP.upto_rises HR.out l k hkl)
      have HUD := Lib.hid (ModelP.upto_data HR.out HD.out HDX.out k hkl)
      have hul : n' ≤ 1000 := by have h1 := ModelP.upto_length s l k hkl; have h2 := HK.out.1.len; have := HSL.out; omega
      have HTL : Hid ((ModelP.told s l k).length = k) := Lib.hid (by unfold ModelP.told; rw [ModelP.told_length, List.length_take, HLL.out]; omega)
      go_wp2_with fail
      generalize hV1 : wr.alloc (.cells #[.int .i64 xact, .string xk, .slice Ax nx cx, .int .i64 xlo, .int .i64 xhi, .int .i64 xn] 25) = V1
      have hba : Below wr.heap.size wr V1 := by rw [← hV1]; exact balloc (bsame _) _
      clear hV1 c0 c1 c2 c3 c4 c5
      have HO1 := Lib.hid (HK.out.1.next hba)
      have HT1 := Lib.hid (HK.out.2.1.next hba)
      have hv1 := hba.size
      have HBV := Lib.hid (HK.out.2.2.2.trans (hba.mono hsz))
      refine (step_any A' n' c' w.heap.size (ModelP.upto s l k) xact xk xdata Ax nx cx Bl xlo xhi xn V1 HO1.out (by omega) HUR.out hul (HY.out.below (hba.mono (by omega))) (by omega) hxk HUD.out i2 i3 i4 hnx).mono ?_
      rintro e V2 ⟨A2, n2, c2, Aa, na, ca, rfl, hO2, hy2, hg2, hA2⟩
      have hT2' := HT1.out.turn hg2 HK.out.2.2.1 hA2
      obtain ⟨V3, hst, hT3, hg3, hs3⟩ := hT2'.write (P := Tryd.prog) (k := k) (a := (ModelP.step (ModelP.upto s l k) ⟨xact, xk, xdata, xlo, xhi, xn⟩).2) hlt hy2
      obtain ⟨cs, hS, hN, hbg, hgl2⟩ := hT2'.str (by omega)
      have hne2 : ∀ a, A2 = some a → a.block ≠ W1.heap.size := by
        intro a ea
        rcases hA2 with h9 | h9
        · exact HK.out.2.2.1 a (by rw [← h9, ea])
        · have h10 := h9 a ea
          have h11 := (HT1.out.str (by omega))
          obtain ⟨_, _, _, _, h12⟩ := h11
          omega
      have HO3 := Lib.hid (hO2.grownU PairE_byt hS hN hg3 hne2)
      have hst5 := run_stS (P := Tryd.prog) (ty := 47) (by kernel_rfl) hst
      have HB3 : Hid (Below w.heap.size w V3) := Lib.hid (below_grownO (below_grownO HBV.out hg2 (by omega) (by
        intro j hj
        cases A' with
        | none => simp [Value.ownBlock] at hj
        | some a => simp only [Value.ownBlock, Option.some.injEq] at hj; have := HO1.out.ge a rfl; omega)) hg3 (by have := hg2.size; omega) (by intro j hj; cases hj; exact hbg))
      rw [setA_fill HTL.out hlt] at hT3
      have HT3 := Lib.hid hT3
      have hv2 := hg2.size
      clear hO2 hy2 hg2 hA2 hT2' hT3 hg3 hs3 hS hN hst
      simp only [ansV] at hst5 ⊢
      go_wp2
      go_roundw
      case rel => exact ⟨k + 1, A2, n2, c2, by omega, by go_num, rfl, Lib.hid ⟨by rw [HUP.out.1]; exact HO3.out, by rw [HUP.out.2]; exact HT3.out, hne2, HB3.out⟩⟩
      case measure => simp [intOf]; omega
    · have hkm : k = m := by omega
      subst hkm
      have HUA : Hid (ModelP.upto s l k = (ModelP.run s l).1 ∧ ModelP.told s l k = (ModelP.run s l).2) := Lib.hid (by unfold ModelP.upto ModelP.told; rw [List.take_of_length_le (by rw [HLL.out]; exact Nat.le_refl _)]; exact ⟨rfl, rfl⟩)
      go_wp2
      go_ret2
      refine ⟨A', n', c', _, k, rfl, ?_, ?_, HK.out.2.2.2⟩
      · rw [← HUA.out.1]; exact HK.out.1.elems
      · have h9 := HK.out.2.1.elems
        rw [show k - k = 0 by omega, List.replicate_zero, List.append_nil, HUA.out.2] at h9
        exact h9
end Go.Proofs.YtghgccgpgonlmaaDoor.ModelW
