/-
  Parts of the proof of PoolAhead.
-/
import Derived.Test.YtcfieofcnpalgaaGreatAhG7
import Derived.Test.YtcfieofcnpalgaaGreatAhG16
import Derived.Test.YtcfieofcnpalgaaGreatAhG13
import Derived.Laws.BitsAllLaws
import Derived.IntWalk
import Derived.Test.YtcfieofcnpalgaaGreatProg
import Derived.Test.YtcfieofcnpalgaaGreatAhG5
import Derived.Test.YtcfieofcnpalgaaGreatAhG2
import Derived.Test.YtcfieofcnpalgaaGreatAhG0
section
namespace Go.Proofs.YtcfieofcnpalgaaGreat.CrcW
open Go.RowKit

/-- 256 numbers of 32 bits as cells -/
def rowU (f : Nat → Nat) : Array Value := ((List.range 256).map fun i => Value.int .u32 (f i : Int)).toArray
theorem rowU_size (f : Nat → Nat) : (rowU f).size = 256 := by simp [rowU]
theorem rowU_get (f : Nat → Nat) (i : Nat) (h : i < 256) : (rowU f)[i]? = some (.int .u32 (f i : Int)) := by simp [rowU, h]
theorem rowU_congr {f g : Nat → Nat} (h : ∀ i, i < 256 → f i = g i) : rowU f = rowU g := by
  unfold rowU
  congr 1
  refine List.map_congr_left fun i hi => ?_
  rw [h i (List.mem_range.1 hi)]
theorem rowU_set (f : Nat → Nat) (i v : Nat) : (rowU f).setIfInBounds i (.int .u32 (v : Int)) = rowU fun j => if j = i then v else f j := by
  apply Array.ext_getElem?
  intro j
  rw [Array.getElem?_setIfInBounds]
  by_cases hij : i = j
  · subst hij
    by_cases hl : i < 256
    · rw [if_pos rfl, if_pos (by rw [rowU_size]; exact hl), rowU_get _ _ hl]
      simp
    · rw [if_pos rfl, if_neg (by rw [rowU_size]; exact hl), Array.getElem?_eq_none (by rw [rowU_size]; omega)]
  · rw [if_neg hij]
    by_cases hl : j < 256
    · rw [rowU_get _ _ hl, rowU_get _ _ hl]
      simp [Ne.symm hij]
    · rw [Array.getElem?_eq_none (by rw [rowU_size]; omega), Array.getElem?_eq_none (by rw [rowU_size]; omega)]
theorem rowU_one (f : Nat → Nat) : (rowU f).all (·.oneCell') = true := by
  rw [Array.all_eq_true_iff_forall_mem]
  intro v hv
  simp [rowU] at hv
  obtain ⟨i, _, rfl⟩ := hv
  rfl
theorem zero_row : rowU (fun _ => 0) = Array.replicate 256 (.int .u32 0) := by
  apply Array.ext_getElem?
  intro j
  by_cases hl : j < 256
  · rw [rowU_get _ _ hl]
    simp [hl]
  · rw [Array.getElem?_eq_none (by rw [rowU_size]; omega), Array.getElem?_eq_none (by simp; omega)]
theorem infoT : (Tryz.prog.info? 145).map (fun i => (i.zero, i.size)) = some (some (.agg (Array.replicate 256 (.int .u32 0))), 256) := by kernel_rfl
theorem run_alT (w : World) : (alSem 145).run Tryz.prog w = .ok (.pointer (some ⟨w.heap.size, 0, none⟩)) (w.alloc (.cells (rowU fun _ => 0) 145)) := by
  obtain ⟨hz, _⟩ := zero_of_info infoT
  rw [zero_row]
  simp [alSem, Instr.alloc, hz, newVar, newRow, Value.cells]
theorem run_ldT {w : World} {b : Nat} {f : Nat → Nat} (hs : Str w b (rowU f)) : (ldSem 145 (.pointer (some ⟨b, 0, none⟩))).run Tryz.prog w = .ok (.agg (rowU f)) w := by
  obtain ⟨t', hg⟩ := hs
  simp only [ldSem, Instr.loadAt, Instr.sureAddr, Sem.run_bind, Sem.run_pure, Result.andThen_ok]
  exact run_loadVar_row w b t' 145 (rowU f) (0, 0) _ hg Tryz.underlying145 rfl (by rw [rowU_size]; exact (zero_of_info infoT).2)
theorem run_stT {w : World} {b : Nat} {g f : Nat → Nat} (hs : Str w b (rowU g)) : (stSem 145 (.pointer (some ⟨b, 0, none⟩)) (.agg (rowU f))).run Tryz.prog w = .ok () (w.setRow b (rowU f)) := by
  obtain ⟨t', hg⟩ := hs
  simp only [stSem, Instr.storeAt, Instr.sureAddr, Sem.run_bind, Sem.run_pure, Result.andThen_ok]
  exact run_storeVar_row w b t' 145 (rowU g) (rowU f) hg (by rw [rowU_size]; exact (zero_of_info infoT).2) (by rw [rowU_size, rowU_size]) (rowU_one f)
theorem alT_fold : Instr.alloc 145 true (.tuple #[]) = alSem 145 := rfl
theorem ldT_fold (v : Value) : Instr.loadAt 145 v = ldSem 145 v := rfl
theorem stT_fold (a v : Value) : Instr.storeAt 145 a v = stSem 145 a v := rfl
theorem results_T {fn : Func} {p : Tmp} (hr : fn.results = #[.cell p 145]) (tmps : Array Value) {w : World} {g : Nat} {f : Nat → Nat} (hs : Str w g (rowU f))
    (hp : tmps.getD p undef = .pointer (some ⟨g, 0, none⟩)) : (results fn tmps).run Tryz.prog w = .ok (.agg (rowU f)) w := by
  obtain ⟨t', hg⟩ := hs
  exact results_cell_row hr tmps w g t' (rowU f) (0, 0) _ hp hg Tryz.underlying145 rfl (by rw [rowU_size]; exact (zero_of_info infoT).2)
attribute [local go_sem ↓] alT_fold ldT_fold stT_fold

/-- the two tables while they are made -/
def Tab (w wr : World) (f : Nat → Nat) : Prop := Str wr w.heap.size (rowU fun _ => 0) ∧ Str wr (w.heap.size + 1) (rowU f) ∧ Below w.heap.size w wr
theorem Tab.congr {w wr : World} {f g : Nat → Nat} (h : Tab w wr f) (e : ∀ i, i < 256 → f i = g i) : Tab w wr g := by
  unfold Tab
  rw [← rowU_congr e]
  exact h
theorem Tab.set {w wr : World} {f : Nat → Nat} (h : Tab w wr f) (i v : Nat) : Tab w (wr.setCell ⟨w.heap.size + 1, i, none⟩ (.int .u32 (v : Int))) (fun j => if j = i then v else f j) :=
  ⟨h.1.other _ _ (by omega), by have := h.2.1.set i (.int .u32 (v : Int)); rwa [rowU_set] at this, h.2.2.setCell (by simp) _⟩

def Inner (w : World) (step : Nat) (a : Value) (wr : World) : Prop := ∃ n : Nat, n ≤ 256 ∧ n % (2 * step) = 0 ∧ a = .int .i64 (n : Int) ∧ Tab w wr (CrcP.tabf step n)
def Outer (w : World) (s i : Value) (wr : World) : Prop := ∃ k : Nat, k ≤ 8 ∧ i = .int .i64 (k : Int) ∧ s = .int .u32 ((CrcP.bits k 1 : Nat) : Int) ∧ Tab w wr (CrcP.headf (2 ^ (8 - k)))

set_option maxRecDepth 100000 in
set_option maxHeartbeats 4000000 in
theorem table_any (w : World) : Calls Tryz.prog 96 #[] w fun e w' => e = .returned (.agg (rowU CrcP.step8)) ∧ Below w.heap.size w w' := by
  have hal := fun W => run_alT W
  have HT : Hid (Tab w ((w.alloc (.cells (rowU fun _ => 0) 145)).alloc (.cells (rowU fun _ => 0) 145)) (CrcP.headf 256)) := Lib.hid (Tab.congr ⟨(Str.new w _ _).alloc _, (by have := Str.new (w.alloc (.cells (rowU fun _ => 0) 145)) (rowU fun _ => 0) 145; simpa using this), balloc (balloc (bsame w) _) _⟩ fun i hi => (CrcP.headf_zero i hi).symm)
  go_enter Tryz.func96, Tryz.ntmps96
  go_wp2
  clear hal
  go_loopw [2, 7] (fun s i wr => Outer w s i wr) (fun _ i _ => 8 - (intOf i).toNat)
  case atStart => exact ⟨0, by omega, rfl, rfl, HT.out⟩
  case round =>
    obtain ⟨k, hk, rfl, rfl, hT⟩ := hrel
    clear HT
    obtain ⟨wo, rfl⟩ : ∃ wo : World, wo = wr := ⟨_, rfl⟩
    have hks : k = 0 ∨ k = 1 ∨ k = 2 ∨ k = 3 ∨ k = 4 ∨ k = 5 ∨ k = 6 ∨ k = 7 ∨ k = 8 := by omega
    clear hk
    rcases hks with rfl | rfl | rfl | rfl | rfl | rfl | rfl | rfl | rfl
    · rw [show CrcP.bits 0 1 = 1 by decide +kernel]
      have hand : bits .and .u32 1 1 = 1 := by decide +kernel
      have hxor : bits .xor .u32 0 2197175160 = 2197175160 := by decide +kernel
      have HT0 : Hid (Tab w wo (CrcP.tabf 128 0)) := Lib.hid (hT.congr fun i _ => (CrcP.tabf_start 128 i).symm)
      clear hT
      go_wp2
      go_loopw [6] (fun a wr => Inner w 128 a wr) (fun a _ => 256 - (intOf a).toNat)
      case atStart => exact ⟨0, by omega, by omega, rfl, HT0.out⟩
      case round =>
        obtain ⟨a, ha, hm, rfl, hT⟩ := hrel
        by_cases hlt : a < 256
        · have hc : wr.cell? ⟨w.heap.size + 1, a, none⟩ = some (.int .u32 ((CrcP.step8 a : Nat) : Int)) := by
            rw [hT.2.1.cell, rowU_get _ _ hlt, CrcP.tabf_at128 a hm]
          have hc2 : wr.cell? ⟨w.heap.size + 1, a + 128, none⟩ = some (.int .u32 ((CrcP.tabf 128 a (a + 128) : Nat) : Int)) := by
            rw [hT.2.1.cell, rowU_get _ _ (by omega)]
          have hf := fun i => hT.2.1.frozen i
          have hx : bits .xor .u32 ((CrcP.step8 a : Nat) : Int) 2197175160 = ((CrcP.step8 (a + 128) : Nat) : Int) := by
            have := u32_xor_nat (CrcP.step8 a) 2197175160 (CrcP.step8_lt a (by omega)) (by omega)
            rw [CrcP.step8_at128 a hm] at this
            exact this
          have ht : ((a : Int) + 128).toNat = a + 128 := by omega
          have HT : Hid (Tab w (wr.setCell ⟨w.heap.size + 1, a + 128, none⟩ (.int .u32 ((CrcP.step8 (a + 128) : Nat) : Int))) (CrcP.tabf 128 (a + 2 * 128))) := Lib.hid ((hT.set (a + 128) (CrcP.step8 (a + 128))).congr fun i _ => CrcP.tabf_next128 a i hm)
          have hl1 := hT.2.1.lt
          have hb1 : (a : Int) + 128 < 256 := by omega
          clear hT
          go_wp2
          go_roundw
          case rel => exact ⟨a + 2 * 128, by omega, by omega, by go_num, HT.out⟩
          case measure => simp [intOf]; omega
        · have ha' : a = 256 := by omega
          subst ha'
          have HT : Hid (Tab w wr (CrcP.headf 128)) := Lib.hid (hT.congr fun i hi => CrcP.tabf_end128 i hi)
          clear hT
          go_wp2
          go_roundw
          case rel => exact ⟨1, by omega, by go_num, by rw [show CrcP.bits 1 1 = 2197175160 by decide +kernel]; rfl, HT.out⟩
          case measure => simp [intOf]
    · rw [show CrcP.bits 1 1 = 2197175160 by decide +kernel]
      have hand : bits .and .u32 2197175160 1 = 0 := by decide +kernel
      have HT0 : Hid (Tab w wo (CrcP.tabf 64 0)) := Lib.hid (hT.congr fun i _ => (CrcP.tabf_start 64 i).symm)
      clear hT
      go_wp2
      go_loopw [6] (fun a wr => Inner w 64 a wr) (fun a _ => 256 - (intOf a).toNat)
      case atStart => exact ⟨0, by omega, by omega, rfl, HT0.out⟩
      case round =>
        obtain ⟨a, ha, hm, rfl, hT⟩ := hrel
        by_cases hlt : a < 256
        · have hc : wr.cell? ⟨w.heap.size + 1, a, none⟩ = some (.int .u32 ((CrcP.step8 a : Nat) : Int)) := by
            rw [hT.2.1.cell, rowU_get _ _ hlt, CrcP.tabf_at64 a hm]
          have hc2 : wr.cell? ⟨w.heap.size + 1, a + 64, none⟩ = some (.int .u32 ((CrcP.tabf 64 a (a + 64) : Nat) : Int)) := by
            rw [hT.2.1.cell, rowU_get _ _ (by omega)]
          have hf := fun i => hT.2.1.frozen i
          have hx : bits .xor .u32 ((CrcP.step8 a : Nat) : Int) 1098587580 = ((CrcP.step8 (a + 64) : Nat) : Int) := by
            have := u32_xor_nat (CrcP.step8 a) 1098587580 (CrcP.step8_lt a (by omega)) (by omega)
            rw [CrcP.step8_at64 a hm] at this
            exact this
          have ht : ((a : Int) + 64).toNat = a + 64 := by omega
          have HT : Hid (Tab w (wr.setCell ⟨w.heap.size + 1, a + 64, none⟩ (.int .u32 ((CrcP.step8 (a + 64) : Nat) : Int))) (CrcP.tabf 64 (a + 2 * 64))) := Lib.hid ((hT.set (a + 64) (CrcP.step8 (a + 64))).congr fun i _ => CrcP.tabf_next64 a i hm)
          have hl1 := hT.2.1.lt
          have hb1 : (a : Int) + 64 < 256 := by omega
          clear hT
          go_wp2
          go_roundw
          case rel => exact ⟨a + 2 * 64, by omega, by omega, by go_num, HT.out⟩
          case measure => simp [intOf]; omega
        · have ha' : a = 256 := by omega
          subst ha'
          have HT : Hid (Tab w wr (CrcP.headf 64)) := Lib.hid (hT.congr fun i hi => CrcP.tabf_end64 i hi)
          clear hT
          go_wp2
          go_roundw
          case rel => exact ⟨2, by omega, by go_num, by rw [show CrcP.bits 2 1 = 1098587580 by decide +kernel]; rfl, HT.out⟩
          case measure => simp [intOf]
    · rw [show CrcP.bits 2 1 = 1098587580 by decide +kernel]
      have hand : bits .and .u32 1098587580 1 = 0 := by decide +kernel
      have HT0 : Hid (Tab w wo (CrcP.tabf 32 0)) := Lib.hid (hT.congr fun i _ => (CrcP.tabf_start 32 i).symm)
      clear hT
      go_wp2
      go_loopw [6] (fun a wr => Inner w 32 a wr) (fun a _ => 256 - (intOf a).toNat)
      case atStart => exact ⟨0, by omega, by omega, rfl, HT0.out⟩
      case round =>
        obtain ⟨a, ha, hm, rfl, hT⟩ := hrel
        by_cases hlt : a < 256
        · have hc : wr.cell? ⟨w.heap.size + 1, a, none⟩ = some (.int .u32 ((CrcP.step8 a : Nat) : Int)) := by
            rw [hT.2.1.cell, rowU_get _ _ hlt, CrcP.tabf_at32 a hm]
          have hc2 : wr.cell? ⟨w.heap.size + 1, a + 32, none⟩ = some (.int .u32 ((CrcP.tabf 32 a (a + 32) : Nat) : Int)) := by
            rw [hT.2.1.cell, rowU_get _ _ (by omega)]
          have hf := fun i => hT.2.1.frozen i
          have hx : bits .xor .u32 ((CrcP.step8 a : Nat) : Int) 549293790 = ((CrcP.step8 (a + 32) : Nat) : Int) := by
            have := u32_xor_nat (CrcP.step8 a) 549293790 (CrcP.step8_lt a (by omega)) (by omega)
            rw [CrcP.step8_at32 a hm] at this
            exact this
          have ht : ((a : Int) + 32).toNat = a + 32 := by omega
          have HT : Hid (Tab w (wr.setCell ⟨w.heap.size + 1, a + 32, none⟩ (.int .u32 ((CrcP.step8 (a + 32) : Nat) : Int))) (CrcP.tabf 32 (a + 2 * 32))) := Lib.hid ((hT.set (a + 32) (CrcP.step8 (a + 32))).congr fun i _ => CrcP.tabf_next32 a i hm)
          have hl1 := hT.2.1.lt
          have hb1 : (a : Int) + 32 < 256 := by omega
          clear hT
          go_wp2
          go_roundw
          case rel => exact ⟨a + 2 * 32, by omega, by omega, by go_num, HT.out⟩
          case measure => simp [intOf]; omega
        · have ha' : a = 256 := by omega
          subst ha'
          have HT : Hid (Tab w wr (CrcP.headf 32)) := Lib.hid (hT.congr fun i hi => CrcP.tabf_end32 i hi)
          clear hT
          go_wp2
          go_roundw
          case rel => exact ⟨3, by omega, by go_num, by rw [show CrcP.bits 3 1 = 549293790 by decide +kernel]; rfl, HT.out⟩
          case measure => simp [intOf]
    · rw [show CrcP.bits 3 1 = 549293790 by decide +kernel]
      have hand : bits .and .u32 549293790 1 = 0 := by decide +kernel
      have HT0 : Hid (Tab w wo (CrcP.tabf 16 0)) := Lib.hid (hT.congr fun i _ => (CrcP.tabf_start 16 i).symm)
      clear hT
      go_wp2
      go_loopw [6] (fun a wr => Inner w 16 a wr) (fun a _ => 256 - (intOf a).toNat)
      case atStart => exact ⟨0, by omega, by omega, rfl, HT0.out⟩
      case round =>
        obtain ⟨a, ha, hm, rfl, hT⟩ := hrel
        by_cases hlt : a < 256
        · have hc : wr.cell? ⟨w.heap.size + 1, a, none⟩ = some (.int .u32 ((CrcP.step8 a : Nat) : Int)) := by
            rw [hT.2.1.cell, rowU_get _ _ hlt, CrcP.tabf_at16 a hm]
          have hc2 : wr.cell? ⟨w.heap.size + 1, a + 16, none⟩ = some (.int .u32 ((CrcP.tabf 16 a (a + 16) : Nat) : Int)) := by
            rw [hT.2.1.cell, rowU_get _ _ (by omega)]
          have hf := fun i => hT.2.1.frozen i
          have hx : bits .xor .u32 ((CrcP.step8 a : Nat) : Int) 274646895 = ((CrcP.step8 (a + 16) : Nat) : Int) := by
            have := u32_xor_nat (CrcP.step8 a) 274646895 (CrcP.step8_lt a (by omega)) (by omega)
            rw [CrcP.step8_at16 a hm] at this
            exact this
          have ht : ((a : Int) + 16).toNat = a + 16 := by omega
          have HT : Hid (Tab w (wr.setCell ⟨w.heap.size + 1, a + 16, none⟩ (.int .u32 ((CrcP.step8 (a + 16) : Nat) : Int))) (CrcP.tabf 16 (a + 2 * 16))) := Lib.hid ((hT.set (a + 16) (CrcP.step8 (a + 16))).congr fun i _ => CrcP.tabf_next16 a i hm)
          have hl1 := hT.2.1.lt
          have hb1 : (a : Int) + 16 < 256 := by omega
          clear hT
          go_wp2
          go_roundw
          case rel => exact ⟨a + 2 * 16, by omega, by omega, by go_num, HT.out⟩
          case measure => simp [intOf]; omega
        · have ha' : a = 256 := by omega
          subst ha'
          have HT : Hid (Tab w wr (CrcP.headf 16)) := Lib.hid (hT.congr fun i hi => CrcP.tabf_end16 i hi)
          clear hT
          go_wp2
          go_roundw
          case rel => exact ⟨4, by omega, by go_num, by rw [show CrcP.bits 4 1 = 274646895 by decide +kernel]; rfl, HT.out⟩
          case measure => simp [intOf]
    · rw [show CrcP.bits 4 1 = 274646895 by decide +kernel]
      have hand : bits .and .u32 274646895 1 = 1 := by decide +kernel
      have hxor : bits .xor .u32 137323447 2197175160 = 2329499855 := by decide +kernel
      have HT0 : Hid (Tab w wo (CrcP.tabf 8 0)) := Lib.hid (hT.congr fun i _ => (CrcP.tabf_start 8 i).symm)
      clear hT
      go_wp2
      go_loopw [6] (fun a wr => Inner w 8 a wr) (fun a _ => 256 - (intOf a).toNat)
      case atStart => exact ⟨0, by omega, by omega, rfl, HT0.out⟩
      case round =>
        obtain ⟨a, ha, hm, rfl, hT⟩ := hrel
        by_cases hlt : a < 256
        · have hc : wr.cell? ⟨w.heap.size + 1, a, none⟩ = some (.int .u32 ((CrcP.step8 a : Nat) : Int)) := by
            rw [hT.2.1.cell, rowU_get _ _ hlt, CrcP.tabf_at8 a hm]
          have hc2 : wr.cell? ⟨w.heap.size + 1, a + 8, none⟩ = some (.int .u32 ((CrcP.tabf 8 a (a + 8) : Nat) : Int)) := by
            rw [hT.2.1.cell, rowU_get _ _ (by omega)]
          have hf := fun i => hT.2.1.frozen i
          have hx : bits .xor .u32 ((CrcP.step8 a : Nat) : Int) 2329499855 = ((CrcP.step8 (a + 8) : Nat) : Int) := by
            have := u32_xor_nat (CrcP.step8 a) 2329499855 (CrcP.step8_lt a (by omega)) (by omega)
            rw [CrcP.step8_at8 a hm] at this
            exact this
          have ht : ((a : Int) + 8).toNat = a + 8 := by omega
          have HT : Hid (Tab w (wr.setCell ⟨w.heap.size + 1, a + 8, none⟩ (.int .u32 ((CrcP.step8 (a + 8) : Nat) : Int))) (CrcP.tabf 8 (a + 2 * 8))) := Lib.hid ((hT.set (a + 8) (CrcP.step8 (a + 8))).congr fun i _ => CrcP.tabf_next8 a i hm)
          have hl1 := hT.2.1.lt
          have hb1 : (a : Int) + 8 < 256 := by omega
          clear hT
          go_wp2
          go_roundw
          case rel => exact ⟨a + 2 * 8, by omega, by omega, by go_num, HT.out⟩
          case measure => simp [intOf]; omega
        · have ha' : a = 256 := by omega
          subst ha'
          have HT : Hid (Tab w wr (CrcP.headf 8)) := Lib.hid (hT.congr fun i hi => CrcP.tabf_end8 i hi)
          clear hT
          go_wp2
          go_roundw
          case rel => exact ⟨5, by omega, by go_num, by rw [show CrcP.bits 5 1 = 2329499855 by decide +kernel]; rfl, HT.out⟩
          case measure => simp [intOf]
    · rw [show CrcP.bits 5 1 = 2329499855 by decide +kernel]
      have hand : bits .and .u32 2329499855 1 = 1 := by decide +kernel
      have hxor : bits .xor .u32 1164749927 2197175160 = 3348797215 := by decide +kernel
      have HT0 : Hid (Tab w wo (CrcP.tabf 4 0)) := Lib.hid (hT.congr fun i _ => (CrcP.tabf_start 4 i).symm)
      clear hT
      go_wp2
      go_loopw [6] (fun a wr => Inner w 4 a wr) (fun a _ => 256 - (intOf a).toNat)
      case atStart => exact ⟨0, by omega, by omega, rfl, HT0.out⟩
      case round =>
        obtain ⟨a, ha, hm, rfl, hT⟩ := hrel
        by_cases hlt : a < 256
        · have hc : wr.cell? ⟨w.heap.size + 1, a, none⟩ = some (.int .u32 ((CrcP.step8 a : Nat) : Int)) := by
            rw [hT.2.1.cell, rowU_get _ _ hlt, CrcP.tabf_at4 a hm]
          have hc2 : wr.cell? ⟨w.heap.size + 1, a + 4, none⟩ = some (.int .u32 ((CrcP.tabf 4 a (a + 4) : Nat) : Int)) := by
            rw [hT.2.1.cell, rowU_get _ _ (by omega)]
          have hf := fun i => hT.2.1.frozen i
          have hx : bits .xor .u32 ((CrcP.step8 a : Nat) : Int) 3348797215 = ((CrcP.step8 (a + 4) : Nat) : Int) := by
            have := u32_xor_nat (CrcP.step8 a) 3348797215 (CrcP.step8_lt a (by omega)) (by omega)
            rw [CrcP.step8_at4 a hm] at this
            exact this
          have ht : ((a : Int) + 4).toNat = a + 4 := by omega
          have HT : Hid (Tab w (wr.setCell ⟨w.heap.size + 1, a + 4, none⟩ (.int .u32 ((CrcP.step8 (a + 4) : Nat) : Int))) (CrcP.tabf 4 (a + 2 * 4))) := Lib.hid ((hT.set (a + 4) (CrcP.step8 (a + 4))).congr fun i _ => CrcP.tabf_next4 a i hm)
          have hl1 := hT.2.1.lt
          have hb1 : (a : Int) + 4 < 256 := by omega
          clear hT
          go_wp2
          go_roundw
          case rel => exact ⟨a + 2 * 4, by omega, by omega, by go_num, HT.out⟩
          case measure => simp [intOf]; omega
        · have ha' : a = 256 := by omega
          subst ha'
          have HT : Hid (Tab w wr (CrcP.headf 4)) := Lib.hid (hT.congr fun i hi => CrcP.tabf_end4 i hi)
          clear hT
          go_wp2
          go_roundw
          case rel => exact ⟨6, by omega, by go_num, by rw [show CrcP.bits 6 1 = 3348797215 by decide +kernel]; rfl, HT.out⟩
          case measure => simp [intOf]
    · rw [show CrcP.bits 6 1 = 3348797215 by decide +kernel]
      have hand : bits .and .u32 3348797215 1 = 1 := by decide +kernel
      have hxor : bits .xor .u32 1674398607 2197175160 = 3778769143 := by decide +kernel
      have HT0 : Hid (Tab w wo (CrcP.tabf 2 0)) := Lib.hid (hT.congr fun i _ => (CrcP.tabf_start 2 i).symm)
      clear hT
      go_wp2
      go_loopw [6] (fun a wr => Inner w 2 a wr) (fun a _ => 256 - (intOf a).toNat)
      case atStart => exact ⟨0, by omega, by omega, rfl, HT0.out⟩
      case round =>
        obtain ⟨a, ha, hm, rfl, hT⟩ := hrel
        by_cases hlt : a < 256
        · have hc : wr.cell? ⟨w.heap.size + 1, a, none⟩ = some (.int .u32 ((CrcP.step8 a : Nat) : Int)) := by
            rw [hT.2.1.cell, rowU_get _ _ hlt, CrcP.tabf_at2 a hm]
          have hc2 : wr.cell? ⟨w.heap.size + 1, a + 2, none⟩ = some (.int .u32 ((CrcP.tabf 2 a (a + 2) : Nat) : Int)) := by
            rw [hT.2.1.cell, rowU_get _ _ (by omega)]
          have hf := fun i => hT.2.1.frozen i
          have hx : bits .xor .u32 ((CrcP.step8 a : Nat) : Int) 3778769143 = ((CrcP.step8 (a + 2) : Nat) : Int) := by
            have := u32_xor_nat (CrcP.step8 a) 3778769143 (CrcP.step8_lt a (by omega)) (by omega)
            rw [CrcP.step8_at2 a hm] at this
            exact this
          have ht : ((a : Int) + 2).toNat = a + 2 := by omega
          have HT : Hid (Tab w (wr.setCell ⟨w.heap.size + 1, a + 2, none⟩ (.int .u32 ((CrcP.step8 (a + 2) : Nat) : Int))) (CrcP.tabf 2 (a + 2 * 2))) := Lib.hid ((hT.set (a + 2) (CrcP.step8 (a + 2))).congr fun i _ => CrcP.tabf_next2 a i hm)
          have hl1 := hT.2.1.lt
          have hb1 : (a : Int) + 2 < 256 := by omega
          clear hT
          go_wp2
          go_roundw
          case rel => exact ⟨a + 2 * 2, by omega, by omega, by go_num, HT.out⟩
          case measure => simp [intOf]; omega
        · have ha' : a = 256 := by omega
          subst ha'
          have HT : Hid (Tab w wr (CrcP.headf 2)) := Lib.hid (hT.congr fun i hi => CrcP.tabf_end2 i hi)
          clear hT
          go_wp2
          go_roundw
          case rel => exact ⟨7, by omega, by go_num, by rw [show CrcP.bits 7 1 = 3778769143 by decide +kernel]; rfl, HT.out⟩
          case measure => simp [intOf]
    · rw [show CrcP.bits 7 1 = 3778769143 by decide +kernel]
      have hand : bits .and .u32 3778769143 1 = 1 := by decide +kernel
      have hxor : bits .xor .u32 1889384571 2197175160 = 4067132163 := by decide +kernel
      have HT0 : Hid (Tab w wo (CrcP.tabf 1 0)) := Lib.hid (hT.congr fun i _ => (CrcP.tabf_start 1 i).symm)
      clear hT
      go_wp2
      go_loopw [6] (fun a wr => Inner w 1 a wr) (fun a _ => 256 - (intOf a).toNat)
      case atStart => exact ⟨0, by omega, by omega, rfl, HT0.out⟩
      case round =>
        obtain ⟨a, ha, hm, rfl, hT⟩ := hrel
        by_cases hlt : a < 256
        · have hc : wr.cell? ⟨w.heap.size + 1, a, none⟩ = some (.int .u32 ((CrcP.step8 a : Nat) : Int)) := by
            rw [hT.2.1.cell, rowU_get _ _ hlt, CrcP.tabf_at1 a hm]
          have hc2 : wr.cell? ⟨w.heap.size + 1, a + 1, none⟩ = some (.int .u32 ((CrcP.tabf 1 a (a + 1) : Nat) : Int)) := by
            rw [hT.2.1.cell, rowU_get _ _ (by omega)]
          have hf := fun i => hT.2.1.frozen i
          have hx : bits .xor .u32 ((CrcP.step8 a : Nat) : Int) 4067132163 = ((CrcP.step8 (a + 1) : Nat) : Int) := by
            have := u32_xor_nat (CrcP.step8 a) 4067132163 (CrcP.step8_lt a (by omega)) (by omega)
            rw [CrcP.step8_at1 a hm] at this
            exact this
          have ht : ((a : Int) + 1).toNat = a + 1 := by omega
          have HT : Hid (Tab w (wr.setCell ⟨w.heap.size + 1, a + 1, none⟩ (.int .u32 ((CrcP.step8 (a + 1) : Nat) : Int))) (CrcP.tabf 1 (a + 2 * 1))) := Lib.hid ((hT.set (a + 1) (CrcP.step8 (a + 1))).congr fun i _ => CrcP.tabf_next1 a i hm)
          have hl1 := hT.2.1.lt
          have hb1 : (a : Int) + 1 < 256 := by omega
          clear hT
          go_wp2
          go_roundw
          case rel => exact ⟨a + 2 * 1, by omega, by omega, by go_num, HT.out⟩
          case measure => simp [intOf]; omega
        · have ha' : a = 256 := by omega
          subst ha'
          have HT : Hid (Tab w wr (CrcP.headf 1)) := Lib.hid (hT.congr fun i hi => CrcP.tabf_end1 i hi)
          clear hT
          go_wp2
          go_roundw
          case rel => exact ⟨8, by omega, by go_num, by rw [show CrcP.bits 8 1 = 4067132163 by decide +kernel]; rfl, HT.out⟩
          case measure => simp [intOf]
    · have hld := run_ldT hT.2.1
      have hst := run_stT (f := CrcP.headf 1) hT.1
      have HS := Lib.hid (hT.1.setRow (cs' := rowU (CrcP.headf 1)))
      have HB := Lib.hid (below_setRow hT.2.2 (Nat.le_refl _) (rowU (CrcP.headf 1)))
      have he : rowU CrcP.step8 = rowU (CrcP.headf 1) := rowU_congr fun i _ => (CrcP.headf_one i).symm
      have HE := Lib.hid he
      clear hT he
      go_wp2
      refine bodyPost_ret (v := .agg (rowU (CrcP.headf 1))) (results_T Tryz.results96 _ HS.out rfl) rfl ⟨?_, HB.out⟩
      rw [HE.out]
end Go.Proofs.YtcfieofcnpalgaaGreat.CrcW
end
section
namespace Go.Proofs.YtcfieofcnpalgaaGreat.RefBytes
open Go.RowKit
attribute [local go_sem ↓] app_fold

end Go.Proofs.YtcfieofcnpalgaaGreat.RefBytes
end
section
namespace Go.Proofs.YtcfieofcnpalgaaGreat.CrcW
open Go.RowKit
attribute [local go_sem ↓] alT_fold ldT_fold stT_fold
attribute [local go_sem ↓] app_fold cut_fold

def st (u : Nat) (l : List UInt8) (k : Nat) : Nat := (l.take k).foldl CrcP.round (4294967295 - u)
theorem st_lt (u : Nat) (l : List UInt8) (k : Nat) : st u l k < 4294967296 := CrcP.fold_lt _ _ (by omega)
theorem st_succ (u : Nat) (l : List UInt8) (k : Nat) (h : k < l.length) : st u l (k + 1) = CrcP.round (st u l k) l[k] := by
  unfold st
  rw [List.take_succ_eq_append_getElem h, List.foldl_append]
  rfl
theorem st_all (u : Nat) (l : List UInt8) (k : Nat) (h : l.length ≤ k) : CrcP.more u l = 4294967295 - st u l k := by
  unfold st CrcP.more
  rw [List.take_of_length_le h]
theorem xor_ones (v : Nat) (h : v < 4294967296) : 4294967295 ^^^ v = 4294967295 - v := by
  have e := congrArg BitVec.toNat (BitVec.allOnes_xor (x := BitVec.ofNat 32 v))
  rw [BitVec.toNat_xor, BitVec.toNat_allOnes, BitVec.toNat_not, BitVec.toNat_ofNat, Nat.mod_eq_of_lt (by omega)] at e
  have h2 : (2 : Nat) ^ 32 = 4294967296 := by decide
  rw [h2] at e
  exact e
theorem not32 (v : Nat) (h : v < 4294967296) : bits .xor .u32 IntKind.u32.max (v : Int) = ((4294967295 - v : Nat) : Int) := by
  have e : IntKind.u32.max = ((4294967295 : Nat) : Int) := by decide
  rw [e, u32_xor_nat 4294967295 v (by omega) h, xor_ones v h]
theorem idx_lt (v : Nat) (c : UInt8) : v % 256 ^^^ c.toNat < 256 := by
  have hc := c.toNat_lt
  have : v % 256 ^^^ c.toNat < 2 ^ 8 := Nat.xor_lt_two_pow (by omega) (by omega)
  omega

set_option maxRecDepth 100000 in
set_option maxHeartbeats 1000000 in
theorem more_any (u : Nat) (hu : u < 4294967296) (A : Option Addr) (n c B : Nat) (l : List UInt8) (w : World) (h : Bytes w B A n c l) (hB : B ≤ w.heap.size) :
    Calls Tryz.prog 85 #[.int .u32 (u : Int), .slice A n c] w fun e w' => e = .returned (.int .u32 ((CrcP.more u l : Nat) : Int)) ∧ Below w.heap.size w w' := by
  have hn := Nat.le_trans h.2.1 h.2.2.1
  unfold maxLen at hn
  have hln := h.len
  have H := Lib.hid h
  have HLN := Lib.hid hln
  have hal := fun W => run_alT W
  clear h hln
  go_enter Tryz.func85, Tryz.ntmps85
  go_wp2_with fail
  refine (table_any _).mono ?_
  rintro e W1 ⟨rfl, hb1⟩
  have hst := run_stT (f := CrcP.step8) (Str.new W1 (rowU fun _ => 0) 145)
  obtain ⟨W2, hW2⟩ : ∃ W2, (W1.alloc (.cells (rowU fun _ => 0) 145)).setRow W1.heap.size (rowU CrcP.step8) = W2 := ⟨_, rfl⟩
  have hS : Str W2 W1.heap.size (rowU CrcP.step8) := by rw [← hW2]; exact (Str.new W1 _ _).setRow
  have hB2 : Below w.heap.size w W2 := by rw [← hW2]; exact below_setRow (balloc hb1 _) hb1.size _
  rw [hW2] at hst
  have HS := Lib.hid hS
  have HB := Lib.hid hB2
  have HY := Lib.hid (H.out.below (hB2.mono hB))
  have hnot : bits .xor .u32 IntKind.u32.max (u : Int) = ((st u l 0 : Nat) : Int) := not32 u hu
  clear hS hB2 hW2 hb1
  go_wp2_with fail
  clear hnot hst hal
  go_loop [6, 14] (fun s i => ∃ k : Nat, k ≤ n ∧ i = .int .i64 (k : Int) ∧ s = .int .u32 ((st u l k : Nat) : Int)) (fun _ i => n - (intOf i).toNat)
  case atStart => exact ⟨0, Nat.zero_le _, rfl, rfl⟩
  case round =>
    obtain ⟨k, hk, rfl, rfl⟩ := hrel
    by_cases hlt : k < n
    · have hkl : k < l.length := by rw [HLN.out]; exact hlt
      obtain ⟨b, o, rfl, hbB, hcell⟩ := HY.out.at_ hlt
      unfold byteV at hcell
      have HN := Lib.hid (st_succ u l k hkl)
      have hv := st_lt u l k
      generalize hc : l[k] = cb at *
      generalize hsv : st u l k = v at *
      have HSV := Lib.hid hsv
      clear hsv hc hkl
      have hcl := cb.toNat_lt
      have hj := idx_lt v cb
      have hx8 : bits .xor .u8 ((v : Int) % 256) (cb.toNat : Int) = ((v % 256 ^^^ cb.toNat : Nat) : Int) := by
        have := u8_xor_nat (v % 256) cb.toNat (by omega) (by omega)
        rwa [show ((v % 256 : Nat) : Int) = (v : Int) % 256 by omega] at this
      have hx32 : bits .xor .u32 ((v : Int) / 256) ((CrcP.step8 (v % 256 ^^^ cb.toNat) : Nat) : Int) = ((st u l (k + 1) : Nat) : Int) := by
        rw [HN.out, CrcP.round_table]
        have := u32_xor_nat (v / 256) (CrcP.step8 (v % 256 ^^^ cb.toNat)) (by omega) (CrcP.step8_lt _ (by omega))
        rwa [show ((v / 256 : Nat) : Int) = (v : Int) / 256 by omega] at this
      generalize hjj : v % 256 ^^^ cb.toNat = jx at *
      clear hjj
      have hct : W2.cell? ⟨W1.heap.size, jx, none⟩ = some (.int .u32 ((CrcP.step8 jx : Nat) : Int)) := by rw [HS.out.cell, rowU_get _ _ hj]
      have hj' : (jx : Int) < 256 := by omega
      go_wp2
      go_round
      case rel => exact ⟨k + 1, by omega, by go_num, rfl⟩
      case measure => simp [intOf]; omega
    · have HF := Lib.hid (st_all u l k (by rw [HLN.out]; omega))
      have hnot : bits .xor .u32 IntKind.u32.max ((st u l k : Nat) : Int) = ((CrcP.more u l : Nat) : Int) := by rw [not32 _ (st_lt u l k), HF.out]
      go_wp2
      go_ret
      exact ⟨rfl, HB.out⟩

set_option maxHeartbeats 400000 in
theorem sum_any (A : Option Addr) (n c B : Nat) (l : List UInt8) (w : World) (h : Bytes w B A n c l) (hB : B ≤ w.heap.size) :
    Calls Tryz.prog 65 #[.slice A n c] w fun e w' => e = .returned (.int .u32 ((CrcP.sum l : Nat) : Int)) ∧ Below w.heap.size w w' := by
  have H := Lib.hid h
  clear h
  go_enter Tryz.func65, Tryz.ntmps65
  go_wp2_with fail
  refine (more_any 0 (by omega) A n c B l _ H.out hB).mono ?_
  rintro e w1 ⟨rfl, hb⟩
  go_wp2_with fail
  go_ret
  exact ⟨rfl, hb⟩

end Go.Proofs.YtcfieofcnpalgaaGreat.CrcW
end
