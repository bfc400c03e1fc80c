/-
  A table of transactions in memory: a box, and a map; what the map's operations do.
-/
import Derived.Test.YtbcpepjedhafbaaPTxn
import Derived.Test.YtbcpepjedhafbaaRegB
import Derived.Maps.OwnOps
import Derived.WalkArith
namespace Go.Proofs.Ytbcpepjedhafbaa
open Go.RowKit Go.Maps
set_option linter.unusedVariables false
theorem Reg.KeepB.trans {N M : Nat} {b0 : List Nat} {a b c : World} (h : Reg.KeepB N b0 a b) (k : Reg.KeepB M b0 b c) (hN : N ≤ M) : Reg.KeepB N b0 a c :=
  ⟨k.os.trans h.os, k.tape.trans h.tape, k.output.trans h.output, Nat.le_trans h.size k.size, fun i hi hb => (k.block i (by omega) hb).trans (h.block i hi hb)⟩
theorem Reg.KeepB.more {N : Nat} {b0 b1 : List Nat} {a b : World} (h : Reg.KeepB N b0 a b) (hs : ∀ x ∈ b0, x ∈ b1) : Reg.KeepB N b1 a b :=
  ⟨h.os, h.tape, h.output, h.size, fun i hi hb => h.block i hi (fun hm => hb (hs i hm))⟩
theorem Reg.KeepB.less {N M : Nat} {b0 : List Nat} {a b : World} (h : Reg.KeepB N b0 a b) (hM : M ≤ N) : Reg.KeepB M b0 a b :=
  ⟨h.os, h.tape, h.output, h.size, fun i hi hb => h.block i (by omega) hb⟩
/-- blocks that are none of the call's -/
theorem Reg.KeepB.grown {N : Nat} {b0 : List Nat} {a b c : World} {g : Nat} (h : Reg.KeepB N b0 a b) (k : b.grownBy c (some g)) (hN : N ≤ b.heap.size) (hg : N ≤ g ∨ g ∈ b0) : Reg.KeepB N b0 a c :=
  ⟨k.os.trans h.os, k.tape.trans h.tape, k.output.trans h.output, Nat.le_trans h.size k.size, fun i hi hb => (k.block i (by omega) (by intro e; injection e with e; subst e; rcases hg with h1 | h1; omega; exact hb h1)).trans (h.block i hi hb)⟩
theorem Reg.KeepB.step {N : Nat} {b0 : List Nat} {a b c : World} (h : Reg.KeepB N b0 a b) (k : Below b.heap.size b c) (hN : N ≤ b.heap.size) : Reg.KeepB N b0 a c := h.trans (Reg.KeepB.of k) hN
theorem Str.keepB {w w' : World} {b : Nat} {b0 : List Nat} {cs : Array Value} (h : Str w b cs) (k : Reg.KeepB w.heap.size b0 w w') (hb : b ∉ b0) : Str w' b cs := k.str h h.lt hb
theorem drewN_below {B : Nat} {a w : World} (h : Below B a w) (k : Nat) : Below B a (w.drewN k) := ⟨h.os, h.tape, h.output, h.size, h.block⟩
namespace TxnW
theorem law : Keyed Try.prog 3 := int_keyed Try.underlying3
theorem zeroT (w : World) : (zeroValue 38).run Try.prog w = .ok (.agg #[.int .i64 0, .int .i64 0, .int .i64 0, .int .i64 0]) w := by kernel_rfl
theorem keyOf_ {k : Int} (h : In64 k) : keyOf Try.prog 3 (.int .i64 k) = some (TxnP.key k) := keyOf_int_mk Try.underlying3 (WalkArith.wf_i64 h)
/-- a map of transactions -/
abbrev MapT (w : World) (bm n : Nat) (L : List TxnX) : Prop := w.ownsMap Try.prog 3 TxnP.rd bm n (TxnP.dat L)
/-- a table -/
structure Tab (w : World) (tb bm n : Nat) (nx : Int) (L : List TxnX) : Prop where
  box : Str w tb #[.int .i64 nx, .map (some bm)]
  map : MapT w bm n L
variable {w w' : World} {tb bm n : Nat} {nx : Int} {L : List TxnX}
theorem Tab.ne (h : Tab w tb bm n nx L) : tb ≠ bm := by
  intro e
  obtain ⟨t, ht⟩ := h.box
  obtain ⟨es, clock, hb, _⟩ := h.map
  rw [e, hb] at ht
  cases ht
theorem Tab.lt (h : Tab w tb bm n nx L) : tb < w.heap.size := h.box.lt
theorem Tab.mlt (h : Tab w tb bm n nx L) : bm < w.heap.size := h.map.lt
theorem grownNone (h : Below w.heap.size w w') : w.grownBy w' none := ⟨h.os, h.tape, h.output, h.size, fun k hk _ => h.block k hk⟩
theorem MapT.below (h : MapT w bm n L) (hb : Below w.heap.size w w') : MapT w' bm n L := World.ownsMap.kept h (grownNone hb) (by simp)
theorem Tab.below (h : Tab w tb bm n nx L) (hb : Below w.heap.size w w') : Tab w' tb bm n nx L := ⟨h.box.next hb, MapT.below h.map hb⟩
theorem Tab.grown {g : Nat} (h : Tab w tb bm n nx L) (hg : w.grownBy w' (some g)) (h1 : g ≠ tb) (h2 : g ≠ bm) : Tab w' tb bm n nx L :=
  ⟨h.box.grown hg (fun e => h1 e.symm), World.ownsMap.kept h.map hg (fun e => h2 (by injection e with e; exact e.symm))⟩
theorem Tab.keepB {b0 : List Nat} (h : Tab w tb bm n nx L) (k : Reg.KeepB w.heap.size b0 w w') (h1 : tb ∉ b0) (h2 : bm ∉ b0) : Tab w' tb bm n nx L := by
  refine ⟨h.box.keepB k h1, ?_⟩
  obtain ⟨es, clock, hb, r⟩ := h.map
  exact ⟨es, clock, (k.block bm h.mlt h2).trans hb, r⟩
theorem MapT.look (h : MapT w bm n L) {k : Int} (hk : In64 k) : (Instr.lookup 50 (.map (some bm)) (.int .i64 k) true).run Try.prog w = .ok (.tuple #[.agg #[.int .i64 (TxnP.get L k).id, .int .i64 (TxnP.get L k).first, .int .i64 (TxnP.get L k).last, .int .i64 (TxnP.get L k).kept], .bool (TxnP.has L k)]) w := by
  obtain ⟨v, ps, hrun, hv⟩ := World.ownsMap.look_ok h law Try.underlying50 (zeroT w) (TxnP.rd_val TxnP.zero) (keyOf_ hk)
  rw [TxnP.at_dat] at hv
  obtain rfl := TxnP.rd_enc hv
  rw [hrun, TxnP.has_dat]
  rfl
theorem turned_keep {b : Nat} (h : w.mapTurned w' b) : Reg.KeepB w.heap.size [b] w w' :=
  ⟨h.grown.os, h.grown.tape, h.grown.output, h.grown.size, fun k hk hb => h.grown.block k hk (by intro e; injection e with e; exact hb (by simp [e]))⟩
theorem turned_size {b : Nat} (h : w.mapTurned w' b) : w'.heap.size = w.heap.size := by
  obtain ⟨es, c, es', c', h1, rfl⟩ := h
  simp [Go.ChangeMaps.setBlock]
theorem MapT.store (h : MapT w bm n L) (hn : n < maxLen) (t : TxnX) (hk : In64 t.id) : ∃ w', (Instr.mapUpdate 50 (.map (some bm)) (.int .i64 t.id) (.agg #[.int .i64 t.id, .int .i64 t.first, .int .i64 t.last, .int .i64 t.kept])).run Try.prog w = .ok () w' ∧ MapT w' bm (n + 1) (TxnP.put L t) ∧ w.mapTurned w' bm := by
  obtain ⟨w', h1, h2, h3⟩ := World.ownsMap.store h law Try.underlying50 hn (keyOf_ hk) (TxnP.rd_val t)
  rw [TxnP.put_dat] at h2
  exact ⟨w', h1, h2, h3⟩
theorem MapT.drop (h : MapT w bm n L) {k : Int} (hk : In64 k) (ty : TypeId) : ∃ w', (Builtin.delete_ #[50, 3] ty #[.map (some bm), .int .i64 k]).run Try.prog w = .ok (.tuple #[]) w' ∧ MapT w' bm n (TxnP.del L k) ∧ w.mapTurned w' bm := by
  obtain ⟨w', h1, h2, h3⟩ := World.ownsMap.drop h law Try.underlying50 (keyOf_ hk) ty
  rw [TxnP.del_dat] at h2
  exact ⟨w', h1, h2, h3⟩
theorem Tab.turned {n' : Nat} {L' : List TxnX} (h : Tab w tb bm n nx L) (hm : MapT w' bm n' L') (ht : w.mapTurned w' bm) : Tab w' tb bm n' nx L' :=
  ⟨h.box.keepB (turned_keep ht) (by simpa using h.ne), hm⟩
theorem Tab.mono {m : Nat} (h : Tab w tb bm n nx L) (hm : n ≤ m) : Tab w tb bm m nx L := ⟨h.box, World.ownsMap.mono h.map hm⟩
theorem tab_kept {a b c d d' : Int} (h : Tab w tb bm n nx (TxnP.put L ⟨a, b, c, d⟩)) (e : d' = d) : Tab w tb bm n nx (TxnP.put L ⟨a, b, c, d'⟩) := by rw [e]; exact h
end TxnW
end Go.Proofs.Ytbcpepjedhafbaa
