/-
  Parts of the proof of LocksSteps.
-/
import Derived.Test.YtkkfabnehhamdaaDoorLkS0
import Derived.Test.YtkkfabnehhamdaaDoorLkS11
section
namespace Go.Proofs.YtkkfabnehhamdaaDoor
open Go.RowKit Go.Maps LockP ModesP
set_option linter.unusedVariables false
set_option linter.unusedSimpArgs false
namespace LockW
theorem all_seqB (n0 : Nat) (hn0 : 1 ≤ n0) (bx : Nat) (o : Option Nat) (bs : List Nat) (l : Row) (w : World) (hb : Str w bx #[.pointer (o.map fun q => ⟨q, 0, none⟩)]) (hr : RowIn bs w o l) :
    SeqB Fence.wide n0 Tryd.prog 52 #[.pointer (some ⟨bx, 0, none⟩)] (fun x : In l => #[.int .i64 (x.1.2 : Int), .agg #[.int .i64 x.1.1.1, .int .i64 x.1.1.2]]) (KpL bs) (fun ys => ys.map (·.1.1) = l) l.length w := by
  intro y J W hW hD hY h0
  rcases hr with ⟨rfl, rfl⟩ | ⟨q, A, n, c, rfl, hQ, hn, hm, hA⟩
  · refine (all1_nil_in n0 hn0 y bx W (hb.next hW)).mono ?_
    rintro e W' ⟨hv, hbl⟩
    exact ⟨hv, [], rfl, hD _ _ _ h0 hbl⟩
  · refine (all1_in n0 hn0 y bx q n c A l (fun pre W => ∃ pr : List (In l), pr.map (·.1) = pre ∧ J pr W) (fun _ _ => False) hn (fun pre x W1 hJ1 hx hl _ => ?_) (fun pre A B ⟨pr, e, h⟩ hb => ⟨pr, e, hD pr A B h hb⟩) W (hb.next hW) (hQ.below hW) ⟨[], rfl, h0⟩).mono ?_
    · obtain ⟨pr, e, hJ1⟩ := hJ1
      obtain ⟨fn, tmps, assign, body, hy, hR⟩ := hY pr ⟨x, List.mem_of_getElem? hx⟩ W1 hJ1 (by rw [← e, List.length_map] at hl; exact hl)
      refine ⟨fn, tmps, assign, body, hy, hR.mono ?_⟩
      rintro e w' ⟨h1, h2, h3⟩
      exact .inl ⟨h1, ⟨_, by rw [List.map_append, ‹pr.map (·.1) = pre›]; rfl, h2⟩, h3 q hm, fun a ha => h3 _ (hA a ha)⟩
    · rintro e W' ⟨hv, h⟩
      refine ⟨hv, ?_⟩
      rcases h with ⟨ys, e, pr, e2, h⟩ | ⟨_, h⟩
      · refine ⟨pr, ?_, h⟩
        rw [e] at e2
        have := congrArg (List.map (·.1)) e2
        rw [List.map_map, List.zipIdx_map_fst] at this
        exact this
      · exact h.elim
end LockW
end Go.Proofs.YtkkfabnehhamdaaDoor
end
section
namespace Go.Proofs.YtkkfabnehhamdaaDoor
open Go.RowKit Go.Maps LockP ModesP
set_option linter.unusedVariables false
set_option linter.unusedSimpArgs false
theorem Modes.Tab.keepB {N : Nat} {bs : List Nat} {w w' : World} (h : Modes.Tab w) (hk : Reg.KeepB N bs w w') (hN : 0 < N) (hb : 0 ∉ bs) : Modes.Tab w' := fun a b ha hb' => (hk.cell (p := ⟨0, a * 4 + b, none⟩) hN hb).trans (h a b ha hb')
/-- neither cells nor a map -/
def Odd (o : Obj) : Prop := o.isCells = false ∧ ∀ es n, o ≠ .map es n
theorem odd_loop (r : Loop) : Odd (.loop r) := ⟨rfl, nofun⟩
theorem odd_deferred (d) : Odd (.deferred d) := ⟨rfl, nofun⟩
theorem MapM.odd {K α : Type} [DecidableEq K] {P : Program} {S : KeyS K} {E : ElS α} {kt : TypeId} {w : World} {b n x : Nat} {L : MapP.T K α} {o o' : Obj} (h : MapM P S E kt w b n L) (hx : w.heap[x]? = some o) (ho : Odd o) : MapM P S E kt (w.putObj x o') b n L := by
  obtain ⟨es, clock, hh, hr⟩ := h.own
  exact h.at_ ((grownBy_putObj' w x o').block b (Array.getElem?_eq_some_iff.1 hh).1 (fun e => by injection e with e; subst e; rw [hx] at hh; cases hh; exact ho.2 _ _ rfl))
theorem Str.odd {w : World} {b x : Nat} {cs : Array Value} {o o' : Obj} (h : Str w b cs) (hx : w.heap[x]? = some o) (ho : Odd o) : Str (w.putObj x o') b cs := h.grownN (grownBy_putObj' w x o') (fun j e => by cases e; exact ⟨_, hx, ho.1⟩)
theorem Str.loop {w : World} {b x : Nat} {cs : Array Value} {r r' : Loop} (h : Str w b cs) (hx : w.heap[x]? = some (.loop r)) : Str (w.putObj x (.loop r')) b cs := h.odd hx (odd_loop r)
theorem tools_of {B : Nat} {W W' : World} (hs : W.heap.size ≤ W'.heap.size) (hb : ∀ k, B ≤ k → k < W.heap.size → W'.heap[k]? = W.heap[k]? ∨ ∃ o, W.heap[k]? = some o ∧ (∀ r, o ≠ .loop r) ∧ ∀ d, o ≠ .deferred d) : Tools B W W' :=
  ⟨hs, fun k r hk e => by
    rcases hb k hk (Array.getElem?_eq_some_iff.1 e).1 with h | ⟨o, h, h1, -⟩
    · exact h.trans e
    · rw [e] at h; cases h; exact absurd rfl (h1 r),
  fun k d hk e => by
    rcases hb k hk (Array.getElem?_eq_some_iff.1 e).1 with h | ⟨o, h, -, h1⟩
    · exact h.trans e
    · rw [e] at h; cases h; exact absurd rfl (h1 d)⟩
theorem tools_below {B : Nat} {W W' : World} (h : Below W.heap.size W W') : Tools B W W' := tools_of h.size fun k _ hk => .inl (h.block k hk)
theorem tools_cells {B : Nat} {W W' : World} {row : Option Nat} (hg : W.grownBy W' row) (hx : ∀ r, row = some r → ∃ cs T f, W.heap[r]? = some (.cells cs T f)) : Tools B W W' := tools_of hg.size fun k _ hk => by
  by_cases e : row = some k
  · obtain ⟨cs, T, f, h⟩ := hx k e
    exact .inr ⟨_, h, nofun, nofun⟩
  · exact .inl (hg.block k hk (fun e2 => e e2.symm))
namespace LockW
section
variable {w w' : World} {t N n b1 b2 b3 b4 x B : Nat} {bs bs' : List Nat} {X : St} {lab lab' : Nat → Role} {es1 es1' : MapP.T ByteArray (Option Nat)} {es2 es2' : MapP.T Int (Option Nat)} {es3 : MapP.T ByteArray (Option Nat)}
theorem LkIn.odd (h : LkIn w t bs N X lab b1 b2 b3 b4 es1 es2 es3) {o o' : Obj} (hx : w.heap[x]? = some o) (hod : Odd o) : LkIn (w.putObj x o') t bs N X lab b1 b2 b3 b4 es1 es2 es3 := by
  refine ⟨h.box.odd hx hod, h.m1.odd hx hod, h.m2.odd hx hod, h.m3.odd hx hod, h.m4.odd hx hod, h.labs, h.inb, fun k o ho => ?_, h.n1, fun u o ho => ?_, h.n2, fun k o ho => ?_, h.n3, fun b hm => Nat.lt_of_lt_of_le (h.lo b hm) (grownBy_putObj' w x o').size⟩
  · obtain ⟨b, e, l, hm, hM⟩ := h.e1 k o ho
    exact ⟨b, e, l, hm, hM.odd hx hod⟩
  · obtain ⟨b, e, l, hm, hM⟩ := h.e2 u o ho
    exact ⟨b, e, l, hm, hM.odd hx hod⟩
  · obtain ⟨q, A, n, c, e, l, hm, hQ, hA, hn⟩ := h.e3 k o ho
    exact ⟨q, A, n, c, e, l, hm, ⟨hQ.1.odd hx hod, own_grownN wishE_pure hQ.2 (grownBy_putObj' w x o') (fun j e => by cases e; exact .inl ⟨_, hx, hod.1⟩)⟩, hA, hn⟩
theorem LkIn.loop (h : LkIn w t bs N X lab b1 b2 b3 b4 es1 es2 es3) {r r' : Loop} (hx : w.heap[x]? = some (.loop r)) : LkIn (w.putObj x (.loop r')) t bs N X lab b1 b2 b3 b4 es1 es2 es3 := h.odd hx (odd_loop r)
theorem LkIn.tools (h : LkIn w t bs' N X lab' b1 b2 b3 b4 es1' es2' es3) (hS : Stay n lab bs es1 es2 lab' bs' es1' es2') (hlo : ∀ b ∈ bs, b < B) (hk : Reg.KeepB w.heap.size (rl lab' bs') w w') : Tools B w w' := tools_of hk.size fun k hB hk' => by
  by_cases hm : k ∈ rl lab' bs'
  · rcases hS.new k (rl_sub hm) with h1 | ⟨-, ⟨y, hy⟩ | ⟨y, hy⟩⟩
    · exact absurd (hlo k h1) (by omega)
    · obtain ⟨b, e, -, -, hM⟩ := h.e1 y _ hy
      cases e
      obtain ⟨es, clock, hh, -⟩ := hM.own
      exact .inr ⟨_, hh, nofun, nofun⟩
    · obtain ⟨b, e, -, -, hM⟩ := h.e2 y _ hy
      cases e
      obtain ⟨es, clock, hh, -⟩ := hM.own
      exact .inr ⟨_, hh, nofun, nofun⟩
  · exact .inl (hk.block k hk' hm)
theorem step_ok {k : ByteArray} {y : St × Int × List Int} {p : Int × Int} (h : Ok0 y.1) (ha : 0 ≤ y.2.1 ∧ y.2.1 < 16) (hp : 0 ≤ p.2 ∧ p.2 < 4) : Ok0 (LockP.step lI lS k y p).1 ∧ 0 ≤ (LockP.step lI lS k y p).2.1 ∧ (LockP.step lI lS k y p).2.1 < 16 := by
  unfold LockP.step
  by_cases hm : may y.1 p.1 k p.2 y.2.1 = true
  · rw [if_pos hm]
    exact ⟨(h.hold hp.1 hp.2 (may_true hm).2).goal (MapP.nd_del h.ndg _), ha⟩
  · rw [if_neg hm]
    have := with_pos ha.1 ha.2 hp.1 hp.2
    exact ⟨h, Int.le_of_lt this.1, this.2⟩
theorem told_len (k : ByteArray) : ∀ (l : Row) (y : St × Int × List Int), (l.foldl (LockP.step lI lS k) y).2.2.length ≤ y.2.2.length + l.length
  | [], y => by simp
  | p :: r, y => by
    have h := told_len k r (LockP.step lI lS k y p)
    have h2 : (LockP.step lI lS k y p).2.2.length ≤ y.2.2.length + 1 := by
      unfold LockP.step
      split
      · simp
      · simp
    rw [List.foldl_cons, List.length_cons]
    omega
/-- what the rounds have come to -/
abbrev grY (k : ByteArray) (X : St) {l : Row} (pre : List (In l)) : St × Int × List Int := (pre.map (·.1.1)).foldl (LockP.step lI lS k) (X, 0, [])
theorem grY_snoc (k : ByteArray) (X : St) {l : Row} (pre : List (In l)) (x : In l) : grY k X (pre ++ [x]) = LockP.step lI lS k (grY k X pre) x.1.1 := by
  unfold grY
  rw [List.map_append, List.foldl_append]
  rfl
/-- the table and those that are told -/
def GrT (w : World) (t : Nat) (bs : List Nat) (N : Nat) (lab : Nat → Role) (b1 b2 b3 b4 : Nat) (es1 : MapP.T ByteArray (Option Nat)) (es2 : MapP.T Int (Option Nat)) (es3 : MapP.T ByteArray (Option Nat)) (g B : Nat) (y : St × Int × List Int) (W : World) : Prop :=
  ∃ bs' lab' es1' es2' A n c, LkIn W t bs' (N + 4 * y.2.2.length) y.1 lab' b1 b2 b3 b4 es1' es2' es3 ∧ Stay B lab bs es1 es2 lab' bs' es1' es2' ∧ Str W g #[.slice A n c] ∧ OwnE IntE 3 W B A n c y.2.2 ∧ ∀ a, A = some a → a.block ∉ bs'
/-- between two rounds of grant -/
structure GrI (w : World) (t : Nat) (k : ByteArray) (bs : List Nat) (N : Nat) (X : St) (lab : Nat → Role) (b1 b2 b3 b4 : Nat) (es1 : MapP.T ByteArray (Option Nat)) (es2 : MapP.T Int (Option Nat)) (es3 : MapP.T ByteArray (Option Nat)) (g B : Nat) {l : Row} (pre : List (In l)) (W : World) : Prop where
  tb : Str W w.heap.size #[.pointer (some ⟨t, 0, none⟩)]
  kb : Str W (w.heap.size + 1) #[.string k]
  ab : Str W (g + 1) #[.int .i64 (grY k X pre).2.1]
  lk : GrT w t bs N lab b1 b2 b3 b4 es1 es2 es3 g B (grY k X pre) W
  kp : Reg.KeepB w.heap.size (rl lab bs) w W
  z : B ≤ W.heap.size
  ok : Ok0 (grY k X pre).1
  ah : 0 ≤ (grY k X pre).2.1 ∧ (grY k X pre).2.1 < 16
theorem intE_pure : IntE.Pure := fun _ _ _ _ _ _ h => h
section
variable {g : Nat} {k : ByteArray} {W W' : World} {l : Row} {pre : List (In l)} {y : St × Int × List Int}
theorem GrT.next (h : GrT w t bs N lab b1 b2 b3 b4 es1 es2 es3 g B y W) (hb : Below W.heap.size W W') : GrT w t bs N lab b1 b2 b3 b4 es1 es2 es3 g B y W' := by
  obtain ⟨bs', lab', es1', es2', A, n, c, h1, h2, h3, h4, h5⟩ := h
  exact ⟨bs', lab', es1', es2', A, n, c, h1.next hb, h2, h3.next hb, h4.next hb, h5⟩
theorem GrT.loop (h : GrT w t bs N lab b1 b2 b3 b4 es1 es2 es3 g B y W) {r r' : Loop} (hx : W.heap[x]? = some (.loop r)) : GrT w t bs N lab b1 b2 b3 b4 es1 es2 es3 g B y (W.putObj x (.loop r')) := by
  obtain ⟨bs', lab', es1', es2', A, n, c, h1, h2, h3, h4, h5⟩ := h
  exact ⟨bs', lab', es1', es2', A, n, c, h1.loop hx, h2, h3.loop hx, own_grownN intE_pure h4 (grownBy_putObj' W x (.loop r')) (fun j e => by cases e; exact .inl ⟨_, hx, rfl⟩), h5⟩
theorem GrI.next (h : GrI w t k bs N X lab b1 b2 b3 b4 es1 es2 es3 g B pre W) (hw : w.heap.size ≤ W.heap.size) (hb : Below W.heap.size W W') : GrI w t k bs N X lab b1 b2 b3 b4 es1 es2 es3 g B pre W' :=
  ⟨h.tb.next hb, h.kb.next hb, h.ab.next hb, h.lk.next hb, h.kp.step hb hw, Nat.le_trans h.z hb.size, h.ok, h.ah⟩
theorem GrI.loop (h : GrI w t k bs N X lab b1 b2 b3 b4 es1 es2 es3 g B pre W) {r r' : Loop} (hx : W.heap[x]? = some (.loop r)) (hlt : w.heap.size ≤ x) : GrI w t k bs N X lab b1 b2 b3 b4 es1 es2 es3 g B pre (W.putObj x (.loop r')) :=
  ⟨h.tb.loop hx, h.kb.loop hx, h.ab.loop hx, h.lk.loop hx, h.kp.grown (grownBy_putObj' W x (.loop r')) h.kp.size (.inl hlt), Nat.le_trans h.z (grownBy_putObj' W x (.loop r')).size, h.ok, h.ah⟩
/-- behind the assignment -/
def GrX (w : World) (t : Nat) (k : ByteArray) (bs : List Nat) (N : Nat) (X : St) (lab : Nat → Role) (b1 b2 b3 b4 : Nat) (es1 : MapP.T ByteArray (Option Nat)) (es2 : MapP.T Int (Option Nat)) (es3 : MapP.T ByteArray (Option Nat)) (g B : Nat) {l : Row} (a1 : In l → Nat → Act) (pre : List (In l)) (x : In l) (a' : Act) (W : World) : Prop :=
  GrI w t k bs N X lab b1 b2 b3 b4 es1 es2 es3 g B pre W ∧ AskX B a1 x a' W
theorem GrX.loop {a1 : In l → Nat → Act} {p : In l} {a' : Act} (h : GrX w t k bs N X lab b1 b2 b3 b4 es1 es2 es3 g B a1 pre p a' W) {r r' : Loop} (hx : W.heap[x]? = some (.loop r)) (hlt : w.heap.size ≤ x) : GrX w t k bs N X lab b1 b2 b3 b4 es1 es2 es3 g B a1 pre p a' (W.putObj x (.loop r')) := by
  obtain ⟨h1, gb, h2, h3, h4⟩ := h
  exact ⟨h1.loop hx hlt, gb, h2, h3, h4.loop hx⟩
end
end
end LockW
end Go.Proofs.YtkkfabnehhamdaaDoor
end
section
namespace Go.Proofs.YtkkfabnehhamdaaDoor
open Go.RowKit Go.Maps LockP ModesP
set_option linter.unusedVariables false
set_option linter.unusedSimpArgs false
theorem Reg.KeepB.low {N M : Nat} {b0 b1 : List Nat} {a b : World} (h : Reg.KeepB M b0 a b) (hM : N ≤ M) (hs : ∀ x ∈ b0, x ∈ b1 ∨ N ≤ x) : Reg.KeepB N b1 a b := ⟨h.os, h.tape, h.output, h.size, fun k hk hn => h.block k (by omega) (fun hm => (hs k hm).elim hn (by omega))⟩
namespace LockW
section
variable {w W : World} {t N n b1 b2 b3 b4 x B : Nat} {bs bs' : List Nat} {X S : St} {lab lab' : Nat → Role} {es1 es1' : MapP.T ByteArray (Option Nat)} {es2 es2' : MapP.T Int (Option Nat)} {es3 : MapP.T ByteArray (Option Nat)}
/-- what lies above the table's start and is no map is none of the table's -/
theorem LkIn.apartO (h : LkIn W t bs' N X lab' b1 b2 b3 b4 es1' es2' es3) (hS : Stay n lab bs es1 es2 lab' bs' es1' es2') (hlo : ∀ b ∈ bs, b < B) {b : Nat} {o : Obj} (hs : W.heap[b]? = some o) (ho : ∀ es n, o ≠ .map es n) (hb : B ≤ b) : b ∉ bs' := fun hm => by
  rcases hS.new b hm with h1 | ⟨-, ⟨y, hy⟩ | ⟨y, hy⟩⟩
  · have := hlo b h1; omega
  · obtain ⟨b', e, -, -, hM⟩ := h.e1 y _ hy
    cases e
    obtain ⟨es, clock, hh, -⟩ := hM.own
    rw [hs] at hh; cases hh; exact ho _ _ rfl
  · obtain ⟨b', e, -, -, hM⟩ := h.e2 y _ hy
    cases e
    obtain ⟨es, clock, hh, -⟩ := hM.own
    rw [hs] at hh; cases hh; exact ho _ _ rfl
theorem LkIn.apart (h : LkIn W t bs' N X lab' b1 b2 b3 b4 es1' es2' es3) (hS : Stay n lab bs es1 es2 lab' bs' es1' es2') (hlo : ∀ b ∈ bs, b < B) {b : Nat} {cs : Array Value} (hs : Str W b cs) (hb : B ≤ b) : b ∉ bs' := by
  obtain ⟨T, hs⟩ := hs
  exact h.apartO hS hlo hs nofun hb
end
/-- grant's boxes -/
structure GrB (w : World) (t : Nat) (k : ByteArray) (g B gb : Nat) (A : Option Addr) (n c : Nat) (av : Int) (told : List Int) (x : Int × Int) (V : World) : Prop where
  tb : Str V w.heap.size #[.pointer (some ⟨t, 0, none⟩)]
  kb : Str V (w.heap.size + 1) #[.string k]
  sb : Str V g #[.slice A n c]
  ab : Str V (g + 1) #[.int .i64 av]
  xb : Str V gb #[.int .i64 x.1, .int .i64 x.2]
  ow : OwnE IntE 3 V B A n c told
section
variable {w W W4 W5 W6 W7 W8 W9 V V' : World} {t N k0 n c b1 b2 b3 b4 g B gb : Nat} {bs bs' bs5 : List Nat} {X S : St} {lab lab' lab5 : Nat → Role} {es1 es1' es15 : MapP.T ByteArray (Option Nat)} {es2 es2' es25 : MapP.T Int (Option Nat)} {es3 : MapP.T ByteArray (Option Nat)} {A A' : Option Addr} {c' : Nat} {k : ByteArray} {av : Int} {told : List Int} {x : Int × Int} {l : Row} {pre : List (In l)}
theorem GrB.next (h : GrB w t k g B gb A n c av told x V) (hb : Below V.heap.size V V') : GrB w t k g B gb A n c av told x V' :=
  ⟨h.tb.next hb, h.kb.next hb, h.sb.next hb, h.ab.next hb, h.xb.next hb, h.ow.next hb⟩
theorem GrB.keep (h : GrB w t k g B gb A n c av told x V) {cs : List Nat} (hk : Reg.KeepB V.heap.size cs V V') (hcs : ∀ b vs, Str V b vs → w.heap.size ≤ b → b ∉ cs) (h1 : w.heap.size + 2 ≤ g) (h2 : g + 2 ≤ B) (h3 : B ≤ gb) : GrB w t k g B gb A n c av told x V' := by
  refine ⟨h.tb.keepB hk (hcs _ _ h.tb (by omega)), h.kb.keepB hk (hcs _ _ h.kb (by omega)), h.sb.keepB hk (hcs _ _ h.sb (by omega)), h.ab.keepB hk (hcs _ _ h.ab (by omega)), h.xb.keepB hk (hcs _ _ h.xb (by omega)), own_at intE_pure h.ow fun a e => ?_⟩
  subst e
  obtain ⟨cur, hc⟩ := ownE_cells h.ow
  exact hk.block _ (Array.getElem?_eq_some_iff.1 hc).1 (hcs _ _ ⟨_, hc⟩ (by have := h.ow.ge a rfl; omega))
/-- behind hold -/
theorem GrB.held (h : GrB w t k g B gb A n c av told x V) {y : St} (hL : LkIn V t bs' N y lab' b1 b2 b3 b4 es1' es2' es3) (hS : Stay B lab bs es1 es2 lab' bs' es1' es2') (hlo : ∀ b ∈ bs, b < w.heap.size) (hk : Reg.KeepB V.heap.size (rl lab' bs') V V') (h1 : w.heap.size + 2 ≤ g) (h2 : g + 2 ≤ B) (h3 : B ≤ gb) : GrB w t k g B gb A n c av told x V' :=
  h.keep hk (fun b vs hs hb hm => hL.apart hS hlo hs hb (rl_sub hm)) h1 h2 h3
/-- one is told -/
theorem GrI.taken {u m : Int} {lr : List Nat} {p : In l} (hp : p.1.1 = (u, m)) (hI : GrI w t k bs N X lab b1 b2 b3 b4 es1 es2 es3 g B pre W) (hy : grY k X pre = (S, av, told)) (hmay : may S u k m av = true) (hm : 0 ≤ m ∧ m < 4)
    (hlo : ∀ b ∈ bs, b < w.heap.size) (hlr : ∀ b ∈ lr, b < w.heap.size ∧ b ∉ rl lab bs) (h1 : w.heap.size + 2 ≤ g) (h2 : g + 2 ≤ B) (h3 : B ≤ gb)
    (hL : LkIn W t bs' (N + 4 * told.length) S lab' b1 b2 b3 b4 es1' es2' es3) (hS : Stay B lab bs es1 es2 lab' bs' es1' es2')
    (hb4 : Below W.heap.size W W4) (hS5 : Stay W4.heap.size lab' bs' es1' es2' lab5 bs5 es15 es25) (hK5 : Reg.KeepB W4.heap.size (rl lab' bs') W4 W5) (hL5 : LkIn W5 t bs5 (N + 4 * told.length + 4) (hold lI lS S u k m) lab5 b1 b2 b3 b4 es15 es25 es3)
    (hb6 : Below W5.heap.size W5 W6) (hL7 : LkIn W7 t bs5 (N + 4 * told.length + 4) (take lI lS S u k m) lab5 b1 b2 b3 b4 es15 es25 es3) (hK7 : Reg.KeepB W6.heap.size (rl lab5 bs5) W6 W7)
    (hb8 : Below W7.heap.size W7 W8) (hG8 : GrB w t k g B gb A n c av told (u, m) W8) (hg9 : W8.grownBy W9 ((Value.slice A 0 0).ownBlock)) (hO9 : OwnE IntE 3 W9 B A' (n + 1) c' (told ++ [u])) :
    Tools B W (W9.setCell ⟨g, 0, none⟩ (.slice A' (n + 1) c')) ∧ KpL lr W (W9.setCell ⟨g, 0, none⟩ (.slice A' (n + 1) c')) ∧ GrI w t k bs N X lab b1 b2 b3 b4 es1 es2 es3 g B (pre ++ [p]) (W9.setCell ⟨g, 0, none⟩ (.slice A' (n + 1) c')) := by
  have hz := hI.z
  have hw := hI.kp.size
  have s4 := hb4.size
  have s5 := hK5.size
  have s6 := hb6.size
  have s7 := hK7.size
  have s8 := hb8.size
  have s9 := hg9.size
  have hS25 := hS.trans hS5 (by omega)
  have hL4 := hL.next hb4
  have hL6 := hL5.next hb6
  have hL8 := hL7.next hb8
  have hlo' : ∀ b ∈ bs, b < B := fun b hb => by have := hlo b hb; omega
  have hg10 : W9.grownBy (W9.setCell ⟨g, 0, none⟩ (.slice A' (n + 1) c')) (some g) := grown_set (grown_refl W9 _) 0 _
  have hown : ∀ r, (Value.slice A 0 0).ownBlock = some r → B ≤ r ∧ ∃ cs T f, W8.heap[r]? = some (.cells cs T f) := fun r e => by
    cases A with
    | none => simp [Value.ownBlock] at e
    | some ad =>
      obtain ⟨cur, hc⟩ := ownE_cells hG8.ow
      have e2 : ad.block = r := by simpa [Value.ownBlock] using e
      rw [← e2]
      exact ⟨hG8.ow.ge ad rfl, _, _, _, hc⟩
  have hown' : ∀ r, (Value.slice A 0 0).ownBlock = some r → r ∉ bs5 := fun r e => by
    cases A with
    | none => simp [Value.ownBlock] at e
    | some ad =>
      obtain ⟨cur, hc⟩ := ownE_cells hG8.ow
      have e2 : ad.block = r := by simpa [Value.ownBlock] using e
      rw [← e2]
      exact hL8.apart hS25 hlo ⟨_, hc⟩ (by have := hG8.ow.ge ad rfl; omega)
  have hne : ∀ b, b < B → (Value.slice A 0 0).ownBlock ≠ some b := fun b hb e => by have := (hown b e).1; omega
  have hst9 : ∀ b vs, b < B → Str W8 b vs → Str W9 b vs := fun b vs hb hs => hs.grownO hg9 (hne b hb)
  have hst10 : ∀ b vs, b ≠ g → Str W9 b vs → Str (W9.setCell ⟨g, 0, none⟩ (.slice A' (n + 1) c')) b vs := fun b vs hb hs => hs.grownO hg10 (fun e => hb (by injection e with e; exact e.symm))
  have hsg9 := hst9 _ _ (by omega) hG8.sb
  have hgn : g ∉ bs5 := hL8.apart hS25 hlo hG8.sb (by omega)
  have hL9 : LkIn W9 t bs5 (N + 4 * told.length + 4) (take lI lS S u k m) lab5 b1 b2 b3 b4 es15 es25 es3 := hL8.at_ fun b hb => hg9.block b (hL8.lo b hb) (fun e => hown' b e.symm hb)
  have hL10 := hL9.at_ (w' := W9.setCell ⟨g, 0, none⟩ (.slice A' (n + 1) c')) fun b hb => hg10.block b (hL9.lo b hb) (fun e => hgn (by injection e with e; rw [← e]; exact hb))
  have hT : Tools B W (W9.setCell ⟨g, 0, none⟩ (.slice A' (n + 1) c')) :=
    (tools_below hb4).trans ((hL4.tools hS hlo' hK5).trans ((tools_below hb6).trans ((hL6.tools hS25 hlo' hK7).trans ((tools_below hb8).trans ((tools_cells hg9 fun r e => (hown r e).2).trans
      (tools_cells hg10 fun r e => by cases e; obtain ⟨T, h⟩ := hsg9; exact ⟨_, _, _, h⟩))))))
  have hK : Reg.KeepB w.heap.size (rl lab bs) W (W9.setCell ⟨g, 0, none⟩ (.slice A' (n + 1) c')) := by
    have k4 : Reg.KeepB w.heap.size (rl lab bs) W W4 := Reg.KeepB.of (hb4.mono (by omega))
    have k5 : Reg.KeepB w.heap.size (rl lab bs) W4 W5 := hK5.low (by omega) fun b hb => (hS.rl b hb).imp id (fun h => by omega)
    have k7 : Reg.KeepB w.heap.size (rl lab bs) W6 W7 := hK7.low (by omega) fun b hb => (hS25.rl b hb).imp id (fun h => by omega)
    have k6 : Reg.KeepB w.heap.size (rl lab bs) W W7 := ((k4.trans k5 (Nat.le_refl _)).step hb6 (by omega)).trans k7 (Nat.le_refl _)
    have k8 := k6.step hb8 (by omega)
    have k9 : Reg.KeepB w.heap.size (rl lab bs) W8 W9 := ⟨hg9.os, hg9.tape, hg9.output, hg9.size, fun i hi hn => hg9.block i (by omega) (fun e => by have := (hown i e.symm).1; omega)⟩
    have k10 : Reg.KeepB w.heap.size (rl lab bs) W9 _ := ⟨hg10.os, hg10.tape, hg10.output, hg10.size, fun i hi hn => hg10.block i (by omega) (fun e => by injection e with e; omega)⟩
    exact (k8.trans k9 (Nat.le_refl _)).trans k10 (Nat.le_refl _)
  refine ⟨hT, fun b hb => hK.block b (hlr b hb).1 (hlr b hb).2, ?_⟩
  have hsy : grY k X (pre ++ [p]) = (take lI lS S u k m, av, told ++ [u]) := by
    rw [grY_snoc, hy, hp]
    unfold LockP.step
    rw [if_pos hmay]
  have hok := step_ok (k := k) (p := (u, m)) hI.ok hI.ah hm
  rw [← hp, ← grY_snoc] at hok
  refine ⟨hst10 _ _ (by omega) (hst9 _ _ (by omega) hG8.tb), hst10 _ _ (by omega) (hst9 _ _ (by omega) hG8.kb), ?_, ?_, hI.kp.trans hK (Nat.le_refl _), by have := hg10.size; omega, hok.1, hok.2⟩
  · rw [hsy]
    exact hst10 _ _ (by omega) (hst9 _ _ (by omega) hG8.ab)
  · rw [hsy]
    refine ⟨bs5, lab5, es15, es25, A', n + 1, c', ?_, hS25, by simpa using hsg9.set 0 (.slice A' (n + 1) c'), own_grownN intE_pure hO9 hg10 (fun r e => .inr (fun a ea e2 => by have := hO9.ge a ea; cases e; omega)), fun a ea => ?_⟩
    · have hl : N + 4 * (told ++ [u]).length = N + 4 * told.length + 4 := by simp; omega
      show LkIn _ t bs5 (N + 4 * (told ++ [u]).length) _ lab5 b1 b2 b3 b4 es15 es25 es3
      rw [hl]
      exact hL10
    · subst ea
      obtain ⟨cur, hc⟩ := ownE_cells hO9
      exact hL9.apart hS25 hlo ⟨_, hc⟩ (by have := hO9.ge a rfl; omega)
/-- one is not told -/
theorem GrI.passed {u m : Int} {lr : List Nat} {p : In l} (hp : p.1.1 = (u, m)) (hI : GrI w t k bs N X lab b1 b2 b3 b4 es1 es2 es3 g B pre W) (hy : grY k X pre = (S, av, told)) (hmay : may S u k m av = false) (hm : 0 ≤ m ∧ m < 4)
    (hlo : ∀ b ∈ bs, b < w.heap.size) (hlr : ∀ b ∈ lr, b < w.heap.size ∧ b ∉ rl lab bs) (h1 : w.heap.size + 2 ≤ g) (h2 : g + 2 ≤ B)
    (hb4 : Below W.heap.size W W4) :
    Tools B W (W4.setCell ⟨g + 1, 0, none⟩ (.int .i64 (withM av m))) ∧ KpL lr W (W4.setCell ⟨g + 1, 0, none⟩ (.int .i64 (withM av m))) ∧ GrI w t k bs N X lab b1 b2 b3 b4 es1 es2 es3 g B (pre ++ [p]) (W4.setCell ⟨g + 1, 0, none⟩ (.int .i64 (withM av m))) := by
  have hz := hI.z
  have hw := hI.kp.size
  have s4 := hb4.size
  have hI4 := hI.next hw hb4
  have hg10 : W4.grownBy (W4.setCell ⟨g + 1, 0, none⟩ (.int .i64 (withM av m))) (some (g + 1)) := grown_set (grown_refl W4 _) 0 _
  have hsy : grY k X (pre ++ [p]) = (S, withM av m, told) := by
    rw [grY_snoc, hy, hp]
    unfold LockP.step
    rw [if_neg (by rw [hmay]; decide)]
  have hok := step_ok (k := k) (p := (u, m)) hI.ok hI.ah hm
  rw [← hp, ← grY_snoc] at hok
  have hlk := hI4.lk
  have hab := hI4.ab
  rw [hy] at hlk hab
  obtain ⟨bs', lab', es1', es2', A, n, c, hL, hS, hT, hO, hA⟩ := hlk
  have hK : Reg.KeepB w.heap.size (rl lab bs) W (W4.setCell ⟨g + 1, 0, none⟩ (.int .i64 (withM av m))) := by
    have k4 : Reg.KeepB w.heap.size (rl lab bs) W W4 := Reg.KeepB.of (hb4.mono (by omega))
    have k10 : Reg.KeepB w.heap.size (rl lab bs) W4 _ := ⟨hg10.os, hg10.tape, hg10.output, hg10.size, fun i hi hn => hg10.block i (by omega) (fun e => by injection e with e; omega)⟩
    exact k4.trans k10 (Nat.le_refl _)
  have hgn : g + 1 ∉ bs' := hL.apart hS hlo hab (by omega)
  have hst10 : ∀ b vs, b ≠ g + 1 → Str W4 b vs → Str (W4.setCell ⟨g + 1, 0, none⟩ (.int .i64 (withM av m))) b vs := fun b vs hb hs => hs.grownO hg10 (fun e => hb (by injection e with e; exact e.symm))
  refine ⟨(tools_below hb4).trans (tools_cells hg10 fun r e => by cases e; obtain ⟨T, h⟩ := hab; exact ⟨_, _, _, h⟩), fun b hb => hK.block b (hlr b hb).1 (hlr b hb).2, hst10 _ _ (by omega) hI4.tb, hst10 _ _ (by omega) hI4.kb, ?_, ?_, hI.kp.trans hK (Nat.le_refl _), by have := hg10.size; omega, hok.1, hok.2⟩
  · rw [hsy]
    simpa using hab.set 0 (.int .i64 (withM av m))
  · rw [hsy]
    exact ⟨bs', lab', es1', es2', A, n, c, hL.at_ fun b hb => hg10.block b (hL.lo b hb) (fun e => hgn (by injection e with e; rw [← e]; exact hb)), hS, hst10 _ _ (by omega) hT, own_grownN intE_pure hO hg10 (fun r e => .inr (fun a ea e2 => by have := hO.ge a ea; cases e; omega)), hA⟩
/-- grant's end: what is told, in memory -/
theorem granted {lab7 : Nat → Role} {bs7 : List Nat} {es39 : MapP.T ByteArray (Option Nat)} {D : Nat} {d : Option (List Deferred)} {o' : Obj} {X' : St} (hlo : ∀ b ∈ bs, b < w.heap.size) (hkp : Reg.KeepB w.heap.size (rl lab bs) w W)
    (hL : LkIn W t bs' N S lab' b1 b2 b3 b4 es1' es2' es3) (hS : Stay B lab bs es1 es2 lab' bs' es1' es2') (hB : w.heap.size ≤ B) (hO : OwnE IntE 3 W B A n c told) (hA : ∀ a, A = some a → a.block ∉ bs') (hd : W.heap[D]? = some (.deferred d)) (hD : w.heap.size ≤ D)
    (h7 : ∀ b ∈ bs7, b ∈ bs' ∨ W.heap.size ≤ b) (hK7 : Reg.KeepB W.heap.size bs' W W7) (hb8 : Below W7.heap.size W7 W8) (hK9 : Reg.KeepB W8.heap.size bs7 W8 W9) (hL9 : LkIn W9 t bs7 N X' lab7 b1 b2 b3 b4 es1' es2' es39) :
    W9.heap[D]? = some (.deferred d) ∧ OwnE IntE 3 (W9.putObj D o') w.heap.size A n c told ∧ Told w t bs N X' (W9.putObj D o') := by
  have hw := hkp.size
  have s7 := hK7.size
  have s8 := hb8.size
  have hDn := hL.apartO hS hlo hd nofun hD
  have hDl := (Array.getElem?_eq_some_iff.1 hd).1
  have key : ∀ b, b < W.heap.size → b ∉ bs' → W9.heap[b]? = W.heap[b]? := fun b hb hn => ((hK9.block b (by omega) (fun hm => (h7 b hm).elim hn (by omega))).trans (hb8.block b (by omega))).trans (hK7.block b hb hn)
  have hD9 := (key D hDl hDn).trans hd
  have hg := grownBy_putObj' W9 D o'
  refine ⟨hD9, ?_, bs7, ⟨_, _, _, _, _, _, _, _, hL9.odd hD9 (odd_deferred d)⟩, fun b hm => ?_, ?_⟩
  · refine own_grownN intE_pure (w := W9) ?_ hg (fun r e => by cases e; exact .inl ⟨_, hD9, rfl⟩)
    obtain ⟨vs, h1, h2⟩ := own_at intE_pure (w' := W9) hO (fun a e => by
      subst e
      obtain ⟨cur, hc⟩ := ownE_cells hO
      exact key _ (Array.getElem?_eq_some_iff.1 hc).1 (hA a rfl))
    refine ⟨vs, ⟨h1.1, ?_⟩, h2.imp fun _ _ hr => intE_pure _ _ _ _ _ _ hr⟩
    rcases h1.2 with e | ⟨g, cap, cur, e, hg2, hh⟩
    · exact .inl e
    · exact .inr ⟨g, cap, cur, e, Nat.le_trans hB hg2, hh⟩
  · rcases h7 b hm with h | h
    · exact (hS.lo b h).imp id (fun h => Nat.le_trans hB h)
    · exact .inr (by omega)
  · have k1 : Reg.KeepB w.heap.size bs w W := ⟨hkp.os, hkp.tape, hkp.output, hkp.size, fun i hi hm => hkp.block i hi (fun hr => hm (rl_sub hr))⟩
    have k7 : Reg.KeepB w.heap.size bs W W7 := hK7.low hw (fun b hb => (hS.lo b hb).imp id (fun h => Nat.le_trans hB h))
    have k9 : Reg.KeepB w.heap.size bs W8 W9 := hK9.low (by omega) (fun b hb => by
      rcases h7 b hb with h | h
      · exact (hS.lo b h).imp id (fun h => Nat.le_trans hB h)
      · exact .inr (by omega))
    exact ((((k1.trans k7 (Nat.le_refl _)).step hb8 (by omega)).trans k9 (Nat.le_refl _))).grown hg (by have := hK9.size; omega) (.inl hD)
end
end LockW
end Go.Proofs.YtkkfabnehhamdaaDoor
end
