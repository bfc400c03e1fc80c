/-
  Parts of the proof of WalStays.
-/
import Derived.Test.YtpdfnlhhnodnjaaGreatWsG0
import Derived.Maps.OwnSet
import Derived.Maps.RangeWalk
import Derived.Test.YtpdfnlhhnodnjaaGreatWsG25
import Derived.Test.YtpdfnlhhnodnjaaGreatWsG7
import Derived.Defers
import Derived.Recover
import Derived.FnLit
import Derived.Scope
import Derived.BigQuiet
import Derived.WalkArith
section
namespace Go.Proofs.YtpdfnlhhnodnjaaGreat
open Go.RowKit Go.Maps
set_option linter.unusedVariables false
set_option linter.unusedSectionVars false
/-- how keys stand in the model -/
structure KeyS (K : Type) [DecidableEq K] where
  val : K → Value
  lit : K → Lit
  same : ∀ a b, (lit a).sameKey (lit b) = decide (a = b)
/-- how elements stand in the model -/
structure ElS (α : Type) where
  val : α → Value
  inv : Value → Option α
  inv_val : ∀ a, inv (val a) = some a
  val_inv : ∀ {v a}, inv v = some a → v = val a
namespace MapP
variable {K α : Type} [DecidableEq K]
abbrev T (K α : Type) := List (K × α)
def del (L : T K α) (k : K) : T K α := L.filter fun p => decide (p.1 ≠ k)
def has (L : T K α) (k : K) : Bool := L.any fun p => decide (p.1 = k)
def get (L : T K α) (k : K) : Option α := (L.find? fun p => decide (p.1 = k)).map (·.2)
def ins (lt : K → K → Bool) (p : K × α) : T K α → T K α
  | [] => [p]
  | y :: r => if lt p.1 y.1 then p :: y :: r else y :: ins lt p r
def put (lt : K → K → Bool) (L : T K α) (k : K) (v : α) : T K α := ins lt (k, v) (del L k)
variable {lt : K → K → Bool}
theorem mem_ins {p y : K × α} : ∀ {L : T K α}, y ∈ ins lt p L ↔ y = p ∨ y ∈ L
  | [] => by simp [ins]
  | z :: r => by
    unfold ins
    split
    · simp
    · simp only [List.mem_cons, mem_ins (L := r)]
      constructor
      · rintro (h | h | h)
        · exact .inr (.inl h)
        · exact .inl h
        · exact .inr (.inr h)
      · rintro (h | h | h)
        · exact .inr (.inl h)
        · exact .inl h
        · exact .inr (.inr h)
theorem mem_del {L : T K α} {k : K} {y : K × α} : y ∈ del L k ↔ y ∈ L ∧ y.1 ≠ k := by simp [del]
theorem mem_put {L : T K α} {k : K} {v : α} {y : K × α} : y ∈ put lt L k v ↔ y = (k, v) ∨ (y ∈ L ∧ y.1 ≠ k) := by rw [put, mem_ins, mem_del]
theorem has_false {L : T K α} {k : K} : has L k = false ↔ ∀ p ∈ L, p.1 ≠ k := by simp [has]
theorem has_get (L : T K α) (k : K) : has L k = (get L k).isSome := by
  unfold has get
  induction L with
  | nil => rfl
  | cons y r ih =>
    rw [List.any_cons, List.find?_cons]
    cases decide (y.1 = k) with
    | true => rfl
    | false => simpa using ih
theorem get_none {L : T K α} {k : K} : get L k = none ↔ ∀ p ∈ L, p.1 ≠ k := by
  rw [← has_false, has_get]
  cases get L k <;> simp
theorem get_mem {L : T K α} {k : K} {v : α} (h : get L k = some v) : (k, v) ∈ L := by
  unfold get at h
  rw [Option.map_eq_some_iff] at h
  obtain ⟨⟨a, b⟩, h1, rfl⟩ := h
  have h2 := List.mem_of_find?_eq_some h1
  have h3 := List.find?_some h1
  simp at h3
  subst h3
  exact h2
def Nd (L : T K α) : Prop := (L.map (·.1)).Nodup
theorem get_of {L : T K α} (h : Nd L) {k : K} {v : α} (hm : (k, v) ∈ L) : get L k = some v := by
  induction L with
  | nil => cases hm
  | cons y r ih =>
    have hn := List.nodup_cons.1 h
    unfold get
    rw [List.find?_cons]
    rcases List.mem_cons.1 hm with e | e
    · subst e; simp
    · have hne : y.1 ≠ k := fun e2 => hn.1 (List.mem_map.2 ⟨_, e, e2.symm⟩)
      have : decide (y.1 = k) = false := by simpa using hne
      rw [this]
      exact ih hn.2 e
theorem nd_del {L : T K α} (h : Nd L) (k : K) : Nd (del L k) := List.Sublist.nodup (List.Sublist.map _ List.filter_sublist) h
theorem perm_ins (p : K × α) : ∀ L : T K α, (ins lt p L).Perm (p :: L)
  | [] => List.Perm.refl _
  | y :: r => by
    unfold ins
    split
    · exact List.Perm.refl _
    · exact ((perm_ins p r).cons y).trans (List.Perm.swap p y r)
theorem nd_put {L : T K α} (h : Nd L) (k : K) (v : α) : Nd (put lt L k v) := by
  unfold Nd put
  rw [((perm_ins (lt := lt) (k, v) (del L k)).map _).nodup_iff]
  refine List.nodup_cons.2 ⟨fun hm => ?_, nd_del h k⟩
  obtain ⟨p, hp, e⟩ := List.mem_map.1 hm
  exact (mem_del.1 hp).2 e
theorem get_put {L : T K α} (h : Nd L) (k : K) (v : α) (k' : K) : get (put lt L k v) k' = if k' = k then some v else get L k' := by
  have hn := nd_put (lt := lt) h k v
  split
  · rename_i e
    subst e
    exact get_of hn (mem_put.2 (.inl rfl))
  · rename_i hne
    cases hg : get L k' with
    | none =>
      refine get_none.2 fun p hp e => ?_
      rcases mem_put.1 hp with rfl | hp
      · exact hne e.symm
      · exact get_none.1 hg p hp.1 e
    | some u => exact get_of hn (mem_put.2 (.inr ⟨get_mem hg, hne⟩))
/-! ### as a map's datum -/
def ent (S : KeyS K) (p : K × α) : Lit × DataW α := (S.lit p.1, .held p.2)
def dat (S : KeyS K) (L : T K α) : DataW α := .map (L.map (ent S))
/-- how a map's elements read -/
def rdE (E : ElS α) (v : Value) : Option (DataW α × List MemPlace) := (E.inv v).map fun a => (.held a, [])
variable (S : KeyS K) (E : ElS α)
theorem rd_val (a : α) : rdE E (E.val a) = some (.held a, []) := by simp [rdE, E.inv_val]
theorem rd_inv {v : Value} {y : DataW α × List MemPlace} (h : rdE E v = some y) : ∃ a, v = E.val a ∧ y = (.held a, []) := by
  unfold rdE at h
  rw [Option.map_eq_some_iff] at h
  obtain ⟨a, h1, rfl⟩ := h
  exact ⟨a, E.val_inv h1, rfl⟩
theorem has_dat (L : T K α) (k : K) : Maps.has (dat S L) (S.lit k) = has L k := by
  unfold dat has
  rw [Maps.has_eq, List.any_map]
  congr 1
  funext y
  exact S.same y.1 k
theorem find_dat (L : T K α) (k : K) : (L.map (ent S)).find? (fun p => p.1.sameKey (S.lit k)) = (L.find? fun y => decide (y.1 = k)).map (ent S) := by
  induction L with
  | nil => rfl
  | cons y r ih =>
    rw [List.map_cons, List.find?_cons, List.find?_cons]
    have e : (ent S y).1.sameKey (S.lit k) = decide (y.1 = k) := S.same y.1 k
    rw [e]
    split
    · rfl
    · exact ih
theorem at_dat (L : T K α) (k : K) (z : α) : (dat S L).atKey (S.lit k) (.held z) = .held ((get L k).getD z) := by
  unfold dat DataW.atKey get
  dsimp only
  rw [find_dat]
  cases L.find? (fun y => decide (y.1 = k)) <;> rfl
theorem filter_dat (L : T K α) (k : K) : (L.map (ent S)).filter (fun p => !p.1.sameKey (S.lit k)) = (del L k).map (ent S) := by
  unfold del
  induction L with
  | nil => rfl
  | cons y r ih =>
    rw [List.map_cons, List.filter_cons, List.filter_cons, ih]
    have e : (ent S y).1.sameKey (S.lit k) = decide (y.1 = k) := S.same y.1 k
    rw [e]
    by_cases h : y.1 = k
    · simp [h]
    · simp [h]
def ltK (S : KeyS K) (a b : K) : Bool := (S.lit a).before (S.lit b)
theorem ins_dat (p : K × α) : ∀ L : T K α, DataW.insert (ent S p) (L.map (ent S)) = (ins (MapP.ltK S) p L).map (ent S)
  | [] => rfl
  | y :: r => by
    rw [List.map_cons]
    unfold DataW.insert ins
    have e : (ent S p).1.before (ent S y).1 = MapP.ltK S p.1 y.1 := rfl
    rw [e]
    by_cases h : MapP.ltK S p.1 y.1 = true
    · simp [h]
    · simp [h, ins_dat p r]
theorem del_dat (L : T K α) (k : K) : (dat S L).del (S.lit k) = dat S (del L k) := by
  unfold dat DataW.del
  dsimp only
  rw [filter_dat]
theorem put_dat (L : T K α) (k : K) (v : α) : (dat S L).put (S.lit k) (.held v) = dat S (put (MapP.ltK S) L k v) := by
  unfold dat DataW.put put
  dsimp only
  rw [filter_dat]
  exact congrArg DataW.map (ins_dat S (k, v) _)
theorem size_dat (L : T K α) : Maps.size (dat S L) = L.length := by simp [dat, Maps.size]
end MapP
/-- a map in memory: its keys' type, its block, at most n entries -/
structure MapM {K α : Type} [DecidableEq K] (P : Program) (S : KeyS K) (E : ElS α) (kt : TypeId) (w : World) (b n : Nat) (L : MapP.T K α) : Prop where
  own : w.ownsMap P kt (MapP.rdE E) b n (MapP.dat S L)
  nd : MapP.Nd L
namespace MapM
variable {K α : Type} [DecidableEq K] {P : Program} {S : KeyS K} {E : ElS α} {kt et t : TypeId} {w w' : World} {b n : Nat} {L : MapP.T K α}
theorem lt (h : MapM P S E kt w b n L) : b < w.heap.size := h.own.lt
theorem at_ (h : MapM P S E kt w b n L) (hb : w'.heap[b]? = w.heap[b]?) : MapM P S E kt w' b n L := by
  obtain ⟨es, clock, hh, r⟩ := h.own
  exact ⟨⟨es, clock, hb.trans hh, r⟩, h.nd⟩
theorem made (w : World) : MapM P S E kt (w.alloc (.map #[] 0)) w.heap.size 0 [] := ⟨World.ownsMap_made w P kt _, List.nodup_nil⟩
theorem mono (h : MapM P S E kt w b n L) {m : Nat} (hm : n ≤ m) : MapM P S E kt w b m L := ⟨h.own.mono hm, h.nd⟩
theorem look (h : MapM P S E kt w b n L) (Kd : Keyed P kt) (ht : P.underlying t = some (.map kt et)) {z : α} (hz : (zeroValue et).run P w = .ok (E.val z) w) {k : K} (hk : keyOf P kt (S.val k) = some (S.lit k)) :
    (Instr.lookup t (.map (some b)) (S.val k) false).run P w = .ok (E.val ((MapP.get L k).getD z)) w := by
  obtain ⟨v, ps, hrun, hv⟩ := h.own.lookup Kd ht hz (MapP.rd_val E z) hk
  rw [MapP.at_dat] at hv
  obtain ⟨a, rfl, e⟩ := MapP.rd_inv E hv
  simp only [Prod.mk.injEq, DataW.held.injEq] at e
  rw [e.1, hrun]
theorem look_ok (h : MapM P S E kt w b n L) (Kd : Keyed P kt) (ht : P.underlying t = some (.map kt et)) {z : α} (hz : (zeroValue et).run P w = .ok (E.val z) w) {k : K} (hk : keyOf P kt (S.val k) = some (S.lit k)) :
    (Instr.lookup t (.map (some b)) (S.val k) true).run P w = .ok (.tuple #[E.val ((MapP.get L k).getD z), .bool (MapP.has L k)]) w := by
  obtain ⟨v, ps, hrun, hv⟩ := h.own.look_ok Kd ht hz (MapP.rd_val E z) hk
  rw [MapP.at_dat] at hv
  obtain ⟨a, rfl, e⟩ := MapP.rd_inv E hv
  simp only [Prod.mk.injEq, DataW.held.injEq] at e
  rw [e.1, hrun, MapP.has_dat]
theorem store (h : MapM P S E kt w b n L) (Kd : Keyed P kt) (ht : P.underlying t = some (.map kt et)) (hn : n < maxLen) {k : K} (hk : keyOf P kt (S.val k) = some (S.lit k)) (v : α) :
    ∃ w', (Instr.mapUpdate t (.map (some b)) (S.val k) (E.val v)).run P w = .ok () w' ∧ MapM P S E kt w' b (n + 1) (MapP.put (MapP.ltK S) L k v) ∧ w.mapTurned w' b := by
  obtain ⟨w', h1, h2, h3⟩ := h.own.store Kd ht hn hk (MapP.rd_val E v)
  rw [MapP.put_dat] at h2
  exact ⟨w', h1, ⟨h2, MapP.nd_put h.nd k v⟩, h3⟩
theorem drop (h : MapM P S E kt w b n L) (Kd : Keyed P kt) (ht : P.underlying t = some (.map kt et)) {k : K} (hk : keyOf P kt (S.val k) = some (S.lit k)) (ty : TypeId) :
    ∃ w', (Builtin.delete_ #[t, kt] ty #[.map (some b), S.val k]).run P w = .ok (.tuple #[]) w' ∧ MapM P S E kt w' b n (MapP.del L k) ∧ w.mapTurned w' b := by
  obtain ⟨w', h1, h2, h3⟩ := h.own.drop Kd ht hk ty
  rw [MapP.del_dat] at h2
  exact ⟨w', h1, ⟨h2, MapP.nd_del h.nd k⟩, h3⟩
theorem len (h : MapM P S E kt w b n L) (ht : P.underlying t = some (.map kt et)) (ty : TypeId) : (Builtin.len_ #[t] ty #[.map (some b)]).run P w = .ok (.int .i64 (L.length : Nat)) w := by
  rw [h.own.len ht ty, MapP.size_dat]
theorem turned_keep {b : Nat} (h : w.mapTurned w' b) : w.grownBy w' (some b) := h.grown
/-- all is taken out -/
theorem clear (h : MapM P S E kt w b n L) (ht : P.underlying t = some (.map kt et)) (ty : TypeId) :
    ∃ w', (Builtin.clear_ #[t] ty #[.map (some b)]).run P w = .ok (.tuple #[]) w' ∧ MapM P S E kt w' b 0 [] ∧ w.mapTurned w' b := by
  obtain ⟨es, clock, hb, F, hs, hD⟩ := h.own
  refine ⟨Go.ChangeMaps.setBlock w b (.map #[] clock), ?_, ⟨⟨#[], clock, Go.ChangeMaps.heap_setBlock_same hb _, ⟨by simp, MapKept.stamped_empty clock, by simp⟩, Nat.le_refl _, rfl⟩, List.nodup_nil⟩, ⟨es, clock, #[], clock, hb, rfl⟩⟩
  unfold Builtin.clear_
  simp [run_underlying ht, MapKept.run_getObj_map hb, MapKept.run_setObj_map _ hb, Go.ChangeMaps.setBlock]
end MapM
/-- numbers as keys -/
def intK : KeyS Int where
  val k := .int .i64 k
  lit k := .int .i64 k
  same a b := by simp [Lit.sameKey]
end Go.Proofs.YtpdfnlhhnodnjaaGreat
end
section
namespace Go.Proofs.YtpdfnlhhnodnjaaGreat
open Go.RowKit Go.Maps
set_option linter.unusedVariables false
set_option linter.unusedSectionVars false
/-- a device: its pages as they are safe, as they are read, its log, the rest -/
structure DevX where
  safe : List (List UInt8)
  now : List (List UInt8)
  log : List UInt8
  stale : Int
  head : Int
  sure : Int
  fused : Bool
  fuse : Int
  off : Bool
  ops : Int
  wr : Nat
/-- a slice as a map's element -/
structure SlV where
  A : Option Addr
  n : Nat
  c : Nat
def slE : ElS SlV where
  val s := .slice s.A s.n s.c
  inv v := match v with
    | .slice A n c => some ⟨A, n, c⟩
    | _ => none
  inv_val _ := rfl
  val_inv := by
    intro v a h
    split at h
    · cases h; rfl
    · cases h
namespace DevP
def new (n : Nat) : DevX := ⟨List.replicate n (SlotP.zeros 512), List.replicate n (SlotP.zeros 512), [], 0, 0, 0, false, 0, false, 0, 0⟩
/-- the error of an operation -/
def err (X : DevX) (fits : Bool) : Int := if X.off then 3 else if !fits then 2 else if X.fused && decide (X.fuse = 0) then 3 else 0
/-- the device, where an operation was not done -/
def stop (X : DevX) (fits : Bool) : DevX := if X.off then X else if !fits then X else { X with off := true }
/-- an operation more -/
def done (X : DevX) : DevX := { X with ops := X.ops + 1, fuse := if X.fused then X.fuse - 1 else X.fuse }
structure Ok (X : DevX) : Prop where
  n0 : 1 ≤ X.safe.length
  n1 : X.safe.length ≤ 1024
  nl : X.now.length = X.safe.length
  h0 : 0 ≤ X.head
  s0 : X.head ≤ X.sure
  s1 : X.sure ≤ X.head + X.log.length
  t0 : 0 ≤ X.stale
  t1 : X.stale ≤ X.head
  o0 : 0 ≤ X.ops
  f0 : 0 ≤ X.fuse
  f1 : X.fuse ≤ 9223372036854775807
  w0 : ∀ p ∈ X.safe, p.length = 512
  w1 : ∀ p ∈ X.now, p.length = 512
/-- so small that no number is too great -/
def Small (X : DevX) : Prop := X.ops ≤ 1000000000 ∧ X.head + X.log.length ≤ 100000000000000 ∧ X.wr ≤ 1000000000
theorem ok_new {n : Nat} (h0 : 1 ≤ n) (h1 : n ≤ 1024) : Ok (new n) := by
  refine ⟨by simpa [new] using h0, by simpa [new] using h1, by simp [new], by simp [new], by simp [new], by simp [new], by simp [new], by simp [new], by simp [new], by simp [new], by simp [new], ?_, ?_⟩
  all_goals
    intro p hp
    rw [new, List.mem_replicate] at hp
    rw [hp.2]
    exact List.length_replicate
theorem ok_done {X : DevX} (h : Ok X) (hf : X.fused = true → X.fuse ≠ 0) : Ok (done X) := by
  obtain ⟨a1, a2, a3, a4, a5, a6, a7, a8, a9, a10, a11, a12, a13⟩ := h
  refine ⟨a1, a2, a3, a4, a5, a6, a7, a8, ?_, ?_, ?_, a12, a13⟩
  · show 0 ≤ X.ops + 1; omega
  · show 0 ≤ (if X.fused then X.fuse - 1 else X.fuse); split
    · rename_i e; have := hf e; omega
    · exact a10
  · show (if X.fused then X.fuse - 1 else X.fuse) ≤ _; split <;> omega
end DevP
namespace DevW
theorem law : Keyed Tryz.prog 3 := int_keyed Tryz.underlying3
theorem keyOf_ {k : Int} (h : In64 k) : keyOf Tryz.prog 3 (intK.val k) = some (intK.lit k) := keyOf_int_mk Tryz.underlying3 (WalkArith.wf_i64 h)
theorem infoP : (Tryz.prog.info? 75).map (fun i => (i.zero, i.size, i.bytes)) = some (some (.agg (Array.replicate 512 (.int .u8 0))), 512, 512) := by kernel_rfl
def blk (s : SlV) : Nat := match s.A with
  | some a => a.block
  | none => 0
/-- the writings of a page -/
structure Ent (w : World) (N : Nat) (now : List (List UInt8)) (ops : Nat) (p : Int × SlV) : Prop where
  k0 : 0 ≤ p.1
  k1 : p.1 < N
  pg : ∃ ps, p.2.A = some ⟨blk p.2, 0, none⟩ ∧ Pgs 75 w (blk p.2) p.2.n p.2.c ps ∧ ps ≠ [] ∧ ps.getLast? = now[p.1.toNat]?
  le : p.2.n ≤ ops
/-- pages in memory: those that are safe, and the writings -/
structure Pages (w : World) (sb mb : Nat) (bp : List Nat) (safe now : List (List UInt8)) (ops : Nat) (nm : Nat) (es : List (Int × SlV)) : Prop where
  row : Pgs 75 w sb safe.length safe.length safe
  map : MapM Tryz.prog intK slE 3 w mb nm es
  ent : ∀ p ∈ es, Ent w safe.length now ops p
  rest : ∀ k : Nat, k < safe.length → MapP.get es (k : Int) = none → now[k]? = safe[k]?
  bpe : bp = sb :: mb :: es.map (fun p => blk p.2)
  nd : bp.Nodup
  nml : nm ≤ ops
/-- a device's box -/
def devC (N sb mb : Nat) (A : Option Addr) (n c : Nat) (X : DevX) : Array Value := #[.slice (some ⟨sb, 0, none⟩) N N, .map (some mb), .slice A n c, .int .i64 X.stale, .int .i64 X.head, .int .i64 X.sure, .bool X.fused, .int .i64 X.fuse, .bool X.off, .int .i64 X.ops]
/-- a device in memory, all of its parts named -/
structure In (w : World) (d sb mb : Nat) (bp : List Nat) (gb : Option Nat) (A : Option Addr) (n c nm : Nat) (es : List (Int × SlV)) (X : DevX) : Prop where
  box : Str w d (devC X.safe.length sb mb A n c X)
  pages : Pages w sb mb bp X.safe X.now X.wr nm es
  log : OwnS w gb A n c X.log
  nd : (d :: (gb.toList ++ bp)).Nodup
  ok : DevP.Ok X
/-- a device in memory, its blocks -/
def Dev (w : World) (d : Nat) (bs : List Nat) (X : DevX) : Prop := ∃ sb mb bp gb A n c nm es, In w d sb mb bp gb A n c nm es X ∧ bs = d :: (gb.toList ++ bp)
section
variable {w w' : World} {d sb mb N : Nat} {bp bs : List Nat} {gb : Option Nat} {A : Option Addr} {n c nm : Nat} {es : List (Int × SlV)} {X : DevX} {safe now : List (List UInt8)} {ops : Nat}
theorem Ent.at_ {p : Int × SlV} (h : Ent w N now ops p) (hb : w'.heap[blk p.2]? = w.heap[blk p.2]?) : Ent w' N now ops p := by
  obtain ⟨ps, e, hp, r⟩ := h.pg
  exact ⟨h.k0, h.k1, ⟨ps, e, hp.at_ hb, r⟩, h.le⟩
theorem Ent.lt {p : Int × SlV} (h : Ent w N now ops p) : blk p.2 < w.heap.size := by
  obtain ⟨ps, e, hp, r⟩ := h.pg
  exact hp.lt
theorem Pages.at_ (h : Pages w sb mb bp safe now ops nm es) (hb : ∀ b ∈ bp, w'.heap[b]? = w.heap[b]?) : Pages w' sb mb bp safe now ops nm es := by
  obtain ⟨a1, a2, a3, a4, rfl, a6, a7⟩ := h
  exact ⟨a1.at_ (hb _ (by simp)), a2.at_ (hb _ (by simp)), fun p hp => (a3 p hp).at_ (hb _ (by simp only [List.mem_cons, List.mem_map]; exact .inr (.inr ⟨p, hp, rfl⟩))), a4, rfl, a6, a7⟩
theorem Pages.lt (h : Pages w sb mb bp safe now ops nm es) : ∀ b ∈ bp, b < w.heap.size := by
  obtain ⟨a1, a2, a3, a4, rfl, a6, a7⟩ := h
  intro b hb
  simp only [List.mem_cons, List.mem_map] at hb
  rcases hb with rfl | rfl | ⟨p, hp, rfl⟩
  · exact a1.lt
  · exact a2.lt
  · exact (a3 p hp).lt
theorem Pages.mono (h : Pages w sb mb bp safe now ops nm es) {ops' : Nat} (ho : ops ≤ ops') : Pages w sb mb bp safe now ops' nm es :=
  ⟨h.row, h.map, fun p hp => ⟨(h.ent p hp).k0, (h.ent p hp).k1, (h.ent p hp).pg, by have := (h.ent p hp).le; omega⟩, h.rest, h.bpe, h.nd, by have := h.nml; omega⟩
theorem In.lt (h : In w d sb mb bp gb A n c nm es X) : ∀ b ∈ d :: (gb.toList ++ bp), b < w.heap.size := by
  intro b hb
  simp only [List.mem_cons, List.mem_append, Option.mem_toList] at hb
  rcases hb with rfl | hb | hb
  · exact h.box.lt
  · exact h.log.lt b hb
  · exact h.pages.lt b hb
theorem In.at_ (h : In w d sb mb bp gb A n c nm es X) (hb : ∀ b ∈ d :: (gb.toList ++ bp), w'.heap[b]? = w.heap[b]?) : In w' d sb mb bp gb A n c nm es X := by
  refine ⟨?_, h.pages.at_ fun b hm => hb b (by simp [hm]), h.log.at_ fun g e => hb g (by simp [e]), h.nd, h.ok⟩
  obtain ⟨t, ht⟩ := h.box
  exact ⟨t, (hb d (by simp)).trans ht⟩
theorem Dev.lt (h : Dev w d bs X) : ∀ b ∈ bs, b < w.heap.size := by
  obtain ⟨sb, mb, bp, gb, A, n, c, nm, es, h, rfl⟩ := h
  exact h.lt
theorem Dev.ok (h : Dev w d bs X) : DevP.Ok X := by
  obtain ⟨sb, mb, bp, gb, A, n, c, nm, es, h, rfl⟩ := h
  exact h.ok
theorem Dev.mem (h : Dev w d bs X) : d ∈ bs := by
  obtain ⟨sb, mb, bp, gb, A, n, c, nm, es, h, rfl⟩ := h
  simp
theorem Dev.at_ (h : Dev w d bs X) (hb : ∀ b ∈ bs, w'.heap[b]? = w.heap[b]?) : Dev w' d bs X := by
  obtain ⟨sb, mb, bp, gb, A, n, c, nm, es, h, rfl⟩ := h
  exact ⟨sb, mb, bp, gb, A, n, c, nm, es, h.at_ hb, rfl⟩
theorem Dev.below (h : Dev w d bs X) (hb : Below w.heap.size w w') : Dev w' d bs X := h.at_ fun b hm => hb.block b (h.lt b hm)
theorem Dev.grown {g : Nat} (h : Dev w d bs X) (hg : w.grownBy w' (some g)) (hn : g ∉ bs) : Dev w' d bs X := h.at_ fun b hm => hg.block b (h.lt b hm) (by intro e; injection e with e; subst e; exact hn hm)
theorem Dev.keepB {b0 : List Nat} (h : Dev w d bs X) (k : Reg.KeepB w.heap.size b0 w w') (hn : ∀ b ∈ b0, b ∉ bs) : Dev w' d bs X := h.at_ fun b hm => k.block b (h.lt b hm) (fun hm2 => hn b hm2 hm)
/-- the box alone has turned -/
theorem In.turn {X' : DevX} (h : In w d sb mb bp gb A n c nm es X) (hg : w.grownBy w' (some d)) (hb : Str w' d (devC X.safe.length sb mb A n c X')) (e1 : X'.safe = X.safe) (e2 : X'.now = X.now) (e3 : X'.log = X.log) (ho : X.wr ≤ X'.wr) (hk : DevP.Ok X') : In w' d sb mb bp gb A n c nm es X' := by
  have hne : ∀ b ∈ gb.toList ++ bp, w'.heap[b]? = w.heap[b]? := fun b hm => hg.block b (h.lt b (List.mem_cons_of_mem _ hm)) (by intro e; injection e with e; subst e; exact (List.nodup_cons.1 h.nd).1 hm)
  have hp := (h.pages.at_ (w' := w') fun b hm => hne b (by simp [hm])).mono ho
  have hl := h.log.at_ (w' := w') fun g e => hne g (by simp [e])
  rw [← e1] at hb
  rw [← e1, ← e2] at hp
  rw [← e3] at hl
  exact ⟨hb, hp, hl, h.nd, hk⟩
end
end DevW
end Go.Proofs.YtpdfnlhhnodnjaaGreat
end
section
namespace Go.Proofs.YtpdfnlhhnodnjaaGreat
open Go.RowKit Go.Maps
set_option linter.unusedVariables false
set_option linter.unusedSimpArgs false
theorem DevW.str10 {w : World} {b : Nat} {c0 c1 c2 c3 c4 c5 c6 c7 c8 c9 : Value} (h : Str w b #[c0, c1, c2, c3, c4, c5, c6, c7, c8, c9]) :
    w.cell? ⟨b, 0, none⟩ = some c0 ∧ w.cell? ⟨b, 1, none⟩ = some c1 ∧ w.cell? ⟨b, 2, none⟩ = some c2 ∧ w.cell? ⟨b, 3, none⟩ = some c3 ∧ w.cell? ⟨b, 4, none⟩ = some c4 ∧ w.cell? ⟨b, 5, none⟩ = some c5 ∧ w.cell? ⟨b, 6, none⟩ = some c6 ∧ w.cell? ⟨b, 7, none⟩ = some c7 ∧ w.cell? ⟨b, 8, none⟩ = some c8 ∧ w.cell? ⟨b, 9, none⟩ = some c9 :=
  ⟨h.cell 0, h.cell 1, h.cell 2, h.cell 3, h.cell 4, h.cell 5, h.cell 6, h.cell 7, h.cell 8, h.cell 9⟩
namespace DevW
variable {d sb mb : Nat} {bp bs : List Nat} {gb : Option Nat} {A : Option Addr} {n c nm : Nat} {es : List (Int × SlV)} {X : DevX}
set_option maxRecDepth 100000 in
set_option maxHeartbeats 1000000 in
theorem do1_any (b : Nat) (u : FrameMode) (w : World) (hB : Str w b #[.pointer (some ⟨d, 0, none⟩)]) (hI : In w d sb mb bp gb A n c nm es X) (hne : b ≠ d) (hs : X.ops ≤ 1000000000) (hf : X.fused = true → X.fuse ≠ 0) :
    CallsD Tryz.prog 58 #[.pointer (some ⟨b, 0, none⟩)] u w fun e u' w' => u' = u ∧ (e = .returned (.tuple #[]) ∧ In w' d sb mb bp gb A n c nm es (DevP.done X) ∧ w.grownBy w' (some d)) := by
  have HI := Lib.hid hI
  have ho := hI.ok.o0
  have hf0 := hI.ok.f0
  have hf1 := hI.ok.f1
  have f0 := str1 hB
  have f1 := str10 hI.box
  have hz := fun j => hI.box.frozen j
  have hb := hI.box
  have hl := hI.box.lt
  have HB := Lib.hid hb
  have HF := Lib.hid hf
  clear hI hb hB hf
  obtain ⟨safe, now, log, stale, head, sure, fused, fuse, off, ops, wr⟩ := X
  dsimp only at ho hf0 hf1 hs f1
  cases fused with
  | false =>
    go_enter_d Tryz.func58, Tryz.ntmps58
    go_wp2
    go_end0
    refine ⟨rfl, ?_, grown_set (grown_refl w d) 9 _⟩
    exact HI.out.turn (X' := DevP.done ⟨safe, now, log, stale, head, sure, false, fuse, off, ops, wr⟩) (grown_set (grown_refl w d) 9 _) (HB.out.set 9 _) rfl rfl rfl (Nat.le_refl _) (DevP.ok_done HI.out.ok (fun h => by cases h))
  | true =>
    have hfu : fuse ≠ 0 := HF.out rfl
    go_enter_d Tryz.func58, Tryz.ntmps58
    go_wp2
    go_end0
    refine ⟨rfl, ?_, grown_set (grown_set (grown_refl w d) 9 _) 7 _⟩
    exact HI.out.turn (X' := DevP.done ⟨safe, now, log, stale, head, sure, true, fuse, off, ops, wr⟩) (grown_set (grown_set (grown_refl w d) 9 _) 7 _) ((HB.out.set 9 _).set 7 _) rfl rfl rfl (Nat.le_refl _) (DevP.ok_done HI.out.ok (fun _ => hfu))
set_option maxRecDepth 100000 in
set_option maxHeartbeats 1000000 in
theorem do_ok (fn : FuncId) (first : Array Value) (E : World → Prop) (js : List Nat) (w : World) (X1 : DevX) (hD : Dev w d bs X) (hs : X.ops ≤ 1000000000) (ho : X.off = false) (hf : X.fused = true → X.fuse ≠ 0) (hj : ∀ b ∈ js, b < w.heap.size)
    (hE : ∀ W1 W2 : World, W1.grownBy W2 (some d) → E W1 → E W2) (h1 : X1.fused = X.fused) (h2 : X1.fuse = X.fuse) (h3 : X1.ops = X.ops)
    (hce : ∀ W : World, (callFunc fn first).run Tryz.prog W = .ok (.enter fn first) W)
    (hact : ∀ W, Below w.heap.size w W → Calls Tryz.prog fn first W fun e W' => e = .returned (.tuple #[]) ∧ ∃ bs', Dev W' d bs' X1 ∧ Reg.KeepB W.heap.size (js ++ bs) W W' ∧ (∀ b ∈ bs', b ∈ bs ∨ W.heap.size ≤ b) ∧ E W') :
    Calls Tryz.prog 36 #[.pointer (some ⟨d, 0, none⟩), .bool true, .func (.func fn) first #[]] w fun e w' => e = .returned (.int .i64 0) ∧ ∃ bs', Dev w' d bs' (DevP.done X1) ∧ Reg.KeepB w.heap.size (js ++ bs) w w' ∧ (∀ b ∈ bs', b ∈ bs ∨ w.heap.size ≤ b) ∧ E w' := by
  have hmf : ∀ (fn : Fn) (first cap : Array Value) (w : World), (Instr.makeFunc fn first cap).run Tryz.prog w = .ok (.func fn first cap) w := fun _ _ _ _ => rfl
  have HD := Lib.hid hD
  have HA := Lib.hid hact
  have HE := Lib.hid hE
  obtain ⟨sb, mb, bp, gb, A, n, c, nm, es, hI, hbs⟩ := hD
  have f1 := str10 hI.box
  have hz := fun j => hI.box.frozen j
  have hl := hI.box.lt
  have HBS := Lib.hid hbs
  have HI := Lib.hid hI
  have HH := Lib.hid (And.intro h1 (And.intro h2 h3))
  have HJ := Lib.hid hj
  have HF := Lib.hid hf
  clear hact hE hI hbs h1 h2 h3 hj hf
  obtain ⟨safe, now, log, stale, head, sure, fused, fuse, off, ops, wr⟩ := X
  dsimp only at ho hs f1
  subst ho
  have hb1 : Below w.heap.size w (w.alloc (.cells #[.pointer (some ⟨d, 0, none⟩)] 24)) := balloc (bsame w) _
  have HS := Lib.hid (Str.new w #[.pointer (some ⟨d, 0, none⟩)] 24)
  cases fused with
  | false =>
    go_enter_defers Tryz.func36, Tryz.ntmps36
    go_wp2_with fail
    refine (HA.out _ hb1).mono ?_
    rintro e W2 ⟨rfl, bs2, hD2, hk2, hn2, hE2⟩
    have hnb : w.heap.size ∉ js ++ bs := fun hm => by
      rcases List.mem_append.1 hm with hm | hm
      · have := HJ.out _ hm; omega
      · have := HD.out.lt _ hm; omega
    have hS2 := HS.out.keepB hk2 hnb
    have hk3 := (Reg.KeepB.of (b0 := js ++ bs) hb1).trans hk2 hb1.size
    have hne : w.heap.size ≠ d := by omega
    have hn3 : ∀ b ∈ bs2, b ∈ bs ∨ w.heap.size ≤ b := fun b hb => (hn2 b hb).imp id fun h => by have := hb1.size; omega
    have hdm : d ∈ js ++ bs := List.mem_append.2 (.inr HD.out.mem)
    have HS2 := Lib.hid hS2
    have HK3 := Lib.hid hk3
    have HN3 := Lib.hid hn3
    have HD2 := Lib.hid hD2
    have HE2 := Lib.hid hE2
    clear hk2 hn2 hS2 hk3 hn3 hD2 hE2 hnb f1 hz hmf hce
    go_wp2
    refine leaves_cons (f := 58) (args := #[.pointer (some ⟨w.heap.size, 0, none⟩)]) (by simp) (by simp [go_sem]) ?_
    obtain ⟨sb2, mb2, bp2, gb2, A2, n2, c2, nm2, es2, hI2, hbs2⟩ := HD2.out
    refine (do1_any w.heap.size .returning W2 HS2.out hI2 hne (by rw [HH.out.2.2]; exact hs) (by rw [HH.out.1, HH.out.2.1]; exact HF.out)).mono ?_
    rintro e u' W3 ⟨rfl, rfl, hI3, hg3⟩
    refine ⟨_, results_tmp rfl _ _ _, rfl, _, ⟨sb2, mb2, bp2, gb2, A2, n2, c2, nm2, es2, hI3, hbs2⟩, HK3.out.grown hg3 HK3.out.size (.inr hdm), HN3.out, HE.out _ _ hg3 HE2.out⟩
  | true =>
    have hfz : ¬ fuse = 0 := HF.out rfl
    go_enter_defers Tryz.func36, Tryz.ntmps36
    go_wp2_with fail
    refine (HA.out _ hb1).mono ?_
    rintro e W2 ⟨rfl, bs2, hD2, hk2, hn2, hE2⟩
    have hnb : w.heap.size ∉ js ++ bs := fun hm => by
      rcases List.mem_append.1 hm with hm | hm
      · have := HJ.out _ hm; omega
      · have := HD.out.lt _ hm; omega
    have hS2 := HS.out.keepB hk2 hnb
    have hk3 := (Reg.KeepB.of (b0 := js ++ bs) hb1).trans hk2 hb1.size
    have hne : w.heap.size ≠ d := by omega
    have hn3 : ∀ b ∈ bs2, b ∈ bs ∨ w.heap.size ≤ b := fun b hb => (hn2 b hb).imp id fun h => by have := hb1.size; omega
    have hdm : d ∈ js ++ bs := List.mem_append.2 (.inr HD.out.mem)
    have HS2 := Lib.hid hS2
    have HK3 := Lib.hid hk3
    have HN3 := Lib.hid hn3
    have HD2 := Lib.hid hD2
    have HE2 := Lib.hid hE2
    clear hk2 hn2 hS2 hk3 hn3 hD2 hE2 hnb f1 hz hmf hce
    go_wp2
    refine leaves_cons (f := 58) (args := #[.pointer (some ⟨w.heap.size, 0, none⟩)]) (by simp) (by simp [go_sem]) ?_
    obtain ⟨sb2, mb2, bp2, gb2, A2, n2, c2, nm2, es2, hI2, hbs2⟩ := HD2.out
    refine (do1_any w.heap.size .returning W2 HS2.out hI2 hne (by rw [HH.out.2.2]; exact hs) (by rw [HH.out.1, HH.out.2.1]; exact fun _ => hfz)).mono ?_
    rintro e u' W3 ⟨rfl, rfl, hI3, hg3⟩
    refine ⟨_, results_tmp rfl _ _ _, rfl, _, ⟨sb2, mb2, bp2, gb2, A2, n2, c2, nm2, es2, hI3, hbs2⟩, HK3.out.grown hg3 HK3.out.size (.inr hdm), HN3.out, HE.out _ _ hg3 HE2.out⟩
theorem In.off (w : World) (hI : In w d sb mb bp gb A n c nm es X) : In (w.setCell ⟨d, 8, none⟩ (.bool true)) d sb mb bp gb A n c nm es { X with off := true } :=
  hI.turn (grown_set (grown_refl w d) 8 _) (hI.box.set 8 _) rfl rfl rfl (Nat.le_refl _) ⟨hI.ok.n0, hI.ok.n1, hI.ok.nl, hI.ok.h0, hI.ok.s0, hI.ok.s1, hI.ok.t0, hI.ok.t1, hI.ok.o0, hI.ok.f0, hI.ok.f1, hI.ok.w0, hI.ok.w1⟩
set_option maxRecDepth 100000 in
set_option maxHeartbeats 1000000 in
theorem do_stop (fits : Bool) (fv : Value) (w : World) (hD : Dev w d bs X) (he : DevP.err X fits ≠ 0) :
    Calls Tryz.prog 36 #[.pointer (some ⟨d, 0, none⟩), .bool fits, fv] w fun e w' => e = .returned (.int .i64 (DevP.err X fits)) ∧ Dev w' d bs (DevP.stop X fits) ∧ Reg.KeepB w.heap.size bs w w' := by
  have HD := Lib.hid hD
  obtain ⟨sb, mb, bp, gb, A, n, c, nm, es, hI, hbs⟩ := hD
  have f1 := str10 hI.box
  have hz := fun j => hI.box.frozen j
  have hl := hI.box.lt
  have HBS := Lib.hid hbs
  have HI := Lib.hid hI
  have hb1 : Below w.heap.size w (w.alloc (.cells #[.pointer (some ⟨d, 0, none⟩)] 24)) := balloc (bsame w) _
  clear hI hbs
  obtain ⟨safe, now, log, stale, head, sure, fused, fuse, off, ops, wr⟩ := X
  dsimp only at f1
  cases off with
  | true =>
    have he1 : DevP.err ⟨safe, now, log, stale, head, sure, fused, fuse, true, ops, wr⟩ fits = 3 := rfl
    have he2 : DevP.stop ⟨safe, now, log, stale, head, sure, fused, fuse, true, ops, wr⟩ fits = ⟨safe, now, log, stale, head, sure, fused, fuse, true, ops, wr⟩ := rfl
    rw [he1, he2]
    clear he1 he2 he
    go_enter_defers Tryz.func36, Tryz.ntmps36
    go_wp2
    exact ⟨_, results_tmp rfl _ _ _, rfl, HD.out.below hb1, Reg.KeepB.of hb1⟩
  | false =>
    cases fits with
    | false =>
      have he1 : DevP.err ⟨safe, now, log, stale, head, sure, fused, fuse, false, ops, wr⟩ false = 2 := rfl
      have he2 : DevP.stop ⟨safe, now, log, stale, head, sure, fused, fuse, false, ops, wr⟩ false = ⟨safe, now, log, stale, head, sure, fused, fuse, false, ops, wr⟩ := rfl
      rw [he1, he2]
      clear he1 he2 he
      go_enter_defers Tryz.func36, Tryz.ntmps36
      go_wp2
      exact ⟨_, results_tmp rfl _ _ _, rfl, HD.out.below hb1, Reg.KeepB.of hb1⟩
    | true =>
      cases fused with
      | false => exact absurd rfl he
      | true =>
        by_cases hf : fuse = 0
        · subst hf
          have he1 : DevP.err ⟨safe, now, log, stale, head, sure, true, 0, false, ops, wr⟩ true = 3 := rfl
          have he2 : DevP.stop ⟨safe, now, log, stale, head, sure, true, 0, false, ops, wr⟩ true = ⟨safe, now, log, stale, head, sure, true, 0, true, ops, wr⟩ := rfl
          rw [he1, he2]
          clear he1 he2 he
          go_enter_defers Tryz.func36, Tryz.ntmps36
          go_wp2
          have hI2 := HI.out.off
          have hg2 := grown_set (grown_refl w d) 8 (.bool true)
          have hb2 : Below (w.setCell ⟨d, 8, none⟩ (.bool true)).heap.size (w.setCell ⟨d, 8, none⟩ (.bool true)) ((w.setCell ⟨d, 8, none⟩ (.bool true)).alloc (.cells #[.pointer (some ⟨d, 0, none⟩)] 24)) := balloc (bsame _) _
          have hI3 := hI2.at_ (fun b hm => hb2.block b (hI2.lt b hm))
          exact ⟨_, results_tmp rfl _ _ _, rfl, ⟨sb, mb, bp, gb, A, n, c, nm, es, hI3, HBS.out⟩, ((Reg.KeepB.of (bsame w)).grown hg2 (Nat.le_refl _) (.inr HD.out.mem)).step hb2 hg2.size⟩
        · have hf2 : decide (fuse = 0) = false := by simpa using hf
          exact absurd (by simp [DevP.err, hf2]) he
end DevW
end Go.Proofs.YtpdfnlhhnodnjaaGreat
end
section
namespace Go.Proofs.YtpdfnlhhnodnjaaGreat
open Go.RowKit Go.Maps
set_option linter.unusedVariables false
set_option linter.unusedSimpArgs false
set_option maxRecDepth 100000
def jobZ : Array Value := (([Value.pointer none, Value.int .i64 0] : List Value) ++ zerosV 512 ++ [Value.slice none 0 0]).toArray
namespace DevW
theorem alJob_fold : Instr.alloc 86 true (.tuple #[]) = alSem 86 := rfl
theorem bdJob_fold (ps : Array (Nat × Value)) : Instr.build 86 ps = bdSem 86 ps := rfl
theorem stJob_fold (a v : Value) : Instr.storeAt 86 a v = stSem 86 a v := rfl
theorem infoJ : (Tryz.prog.info? 86).map (fun i => (i.zero, i.size)) = some (some (.agg jobZ), 515) := by kernel_rfl
theorem jobZ_size : jobZ.size = 515 := by simp [jobZ, zerosV]
theorem job_al (w : World) : (alSem 86).run Tryz.prog w = .ok (.pointer (some ⟨w.heap.size, 0, none⟩)) (w.alloc (.cells jobZ 86)) := by
  obtain ⟨hz, _⟩ := zero_of_info infoJ
  simp [alSem, Instr.alloc, hz, newVar, newRow, Value.cells]
theorem jobC_one (d : Nat) (n : Int) (l : List UInt8) (A : Option Addr) (m c : Nat) : (jobC d n l (.slice A m c)).all (·.oneCell') = true := by
  rw [Array.all_eq_true_iff_forall_mem]
  intro v hv
  simp only [jobC, List.mem_toArray, List.mem_append, List.mem_cons, List.not_mem_nil, or_false] at hv
  rcases hv with ((rfl | rfl) | hv) | rfl
  · rfl
  · rfl
  · exact byteV_one l v hv
  · rfl
theorem job_st {w : World} {b d : Nat} {n : Int} {l : List UInt8} {A : Option Addr} {m c : Nat} (hs : Str w b jobZ) (hl : l.length = 512) :
    (stSem 86 (.pointer (some ⟨b, 0, none⟩)) (.agg (jobC d n l (.slice A m c)))).run Tryz.prog w = .ok () (w.setRow b (jobC d n l (.slice A m c))) := by
  obtain ⟨t', hg⟩ := hs
  have hsz : (Tryz.prog.info? 86).map (·.size) = some 515 := by
    have := infoJ
    cases hq : Tryz.prog.info? 86 with
    | none => simp [hq] at this
    | some i => simp [hq] at this; simp [this.2]
  simp only [stSem, Instr.storeAt, Instr.sureAddr, Sem.run_bind, Sem.run_pure, Result.andThen_ok]
  exact run_storeVar_row w b t' _ jobZ _ hg (by rw [hsz, jobC_size hl]) (by rw [jobC_size hl, jobZ_size]) (jobC_one d n l A m c)
theorem job_bd2 (d : Nat) (n : Int) (w : World) : (bdSem 86 #[(0, .pointer (some ⟨d, 0, none⟩)), (1, .int .i64 n)]).run Tryz.prog w = .ok (.agg (jobC d n (SlotP.zeros 512) (.slice none 0 0))) w := by kernel_rfl
theorem job_bd3 (d : Nat) (A : Option Addr) (m c : Nat) (w : World) : (bdSem 86 #[(0, .pointer (some ⟨d, 0, none⟩)), (3, .slice A m c)]).run Tryz.prog w = .ok (.agg (jobC d 0 (SlotP.zeros 512) (.slice A m c))) w := by kernel_rfl
end DevW
end Go.Proofs.YtpdfnlhhnodnjaaGreat
end
section
namespace Go.Proofs.YtpdfnlhhnodnjaaGreat.DevW
open Go.RowKit Go.Maps
set_option linter.unusedVariables false
set_option linter.unusedSimpArgs false
variable {d sb mb : Nat} {bp bs : List Nat} {gb : Option Nat} {A : Option Addr} {n c nm : Nat} {es : List (Int × SlV)} {X : DevX}
/-- the device's box, its cells, what they are -/
theorem Dev.cells {w : World} (h : Dev w d bs X) : ∃ sb mb A n c, Str w d (devC X.safe.length sb mb A n c X) ∧ X.log.length = n ∧ n ≤ maxLen := by
  obtain ⟨sb, mb, bp, gb, A, n, c, nm, es, hI, -⟩ := h
  exact ⟨sb, mb, A, n, c, hI.box, hI.log.len, Nat.le_trans hI.log.2.1 hI.log.2.2.1⟩
set_option maxRecDepth 100000 in
set_option maxHeartbeats 1000000 in
theorem head_any (w : World) (hD : Dev w d bs X) :
    Calls Tryz.prog 15 #[.pointer (some ⟨d, 0, none⟩)] w fun e w' => e = .returned (.int .i64 (X.head)) ∧ Below w.heap.size w w' := by
  obtain ⟨sb, mb, A, n, c, hS, hn, hm⟩ := hD.cells
  unfold maxLen at hm
  have hk := hD.ok
  have f1 := str10 hS
  have hl := hS.lt
  have hh0 := hk.h0
  have hnp := hk.n1
  clear hD hS hk
  go_enter Tryz.func15, Tryz.ntmps15
  go_wp2
  go_ret
  exact ⟨rfl, bsame w⟩
set_option maxRecDepth 100000 in
set_option maxHeartbeats 1000000 in
theorem end_any (w : World) (hD : Dev w d bs X) (hs : DevP.Small X) :
    Calls Tryz.prog 27 #[.pointer (some ⟨d, 0, none⟩)] w fun e w' => e = .returned (.int .i64 (X.head + (X.log.length : Nat))) ∧ Below w.heap.size w w' := by
  obtain ⟨sb, mb, A, n, c, hS, hn, hm⟩ := hD.cells
  unfold maxLen at hm
  have hk := hD.ok
  have f1 := str10 hS
  have hl := hS.lt
  have hh0 := hk.h0
  have hnp := hk.n1
  have hs2 := hs.2
  clear hs
  clear hD hS hk
  go_enter Tryz.func27, Tryz.ntmps27
  go_wp2_with (first | go_quiet (fail) | go_in)
  go_wp2
  go_ret
  rw [hn]
  exact ⟨rfl, drewN_below (bsame w) _⟩
set_option maxRecDepth 100000 in
set_option maxHeartbeats 1000000 in
theorem spans_any (no : Int) (w : World) (hD : Dev w d bs X) (hs : DevP.Small X) :
    Calls Tryz.prog 37 #[.pointer (some ⟨d, 0, none⟩), .int .i64 no] w fun e w' => e = .returned (.bool (decide (X.head ≤ no) && decide (no ≤ X.head + (X.log.length : Nat)))) ∧ Below w.heap.size w w' := by
  have HD := Lib.hid hD
  obtain ⟨sb, mb, A, n, c, hS, hn, hm⟩ := hD.cells
  unfold maxLen at hm
  have hk := hD.ok
  have f1 := str10 hS
  have hl := hS.lt
  have hh0 := hk.h0
  have hnp := hk.n1
  clear hD hS hk
  by_cases h0 : X.head ≤ no
  · have d0 : decide (X.head ≤ no) = true := by simpa using h0
    rw [d0, Bool.true_and]
    rw [hn]
    go_enter Tryz.func37, Tryz.ntmps37
    go_wp2_with fail
    refine (end_any w HD.out hs).mono ?_
    rintro e w1 ⟨rfl, hb1⟩
    go_wp2
    go_ret
    exact ⟨rfl, hb1⟩
  · have d0 : decide (X.head ≤ no) = false := by simpa using h0
    rw [d0]
    go_enter Tryz.func37, Tryz.ntmps37
    go_wp2
    go_ret
    exact ⟨rfl, bsame w⟩
def _root_.Go.Proofs.YtpdfnlhhnodnjaaGreat.DevP.fused (X : DevX) (m : Int) : DevX := { X with fused := decide (0 ≤ m), fuse := max m 0 }
end Go.Proofs.YtpdfnlhhnodnjaaGreat.DevW
end
