/-
  Parts of the proof of WalStays.
-/
import Derived.Test.YtpdfnlhhnodnjaaGreatWsG9
import Derived.Test.YtpdfnlhhnodnjaaGreatWsG14
import Derived.Test.YtpdfnlhhnodnjaaGreatWsG13
import Derived.Laws.BitsAllLaws
import Derived.IntWalk
import Derived.Test.YtpdfnlhhnodnjaaGreatProg
import Derived.Test.YtpdfnlhhnodnjaaGreatWsG4
import Derived.Test.YtpdfnlhhnodnjaaGreatWsG0
import Derived.Test.YtpdfnlhhnodnjaaGreatWsG3
import Derived.Test.YtpdfnlhhnodnjaaGreatWsG7
section
namespace Go.Proofs.YtpdfnlhhnodnjaaGreat.CrcW
open Go.RowKit

/-- 256 numbers of 32 bits as cells -/
def rowU (f : Nat → Nat) : Array Value := ((List.range 256).map fun i => Value.int .u32 (f i : Int)).toArray
theorem rowU_size (f : Nat → Nat) : (rowU f).size = 256 := by simp [rowU]
theorem rowU_get (f : Nat → Nat) (i : Nat) (h : i < 256) : (rowU f)[i]? = some (.int .u32 (f i : Int)) := by simp [rowU, h]
theorem rowU_congr {f g : Nat → Nat} (h : ∀ i, i < 256 → f i = g i) : rowU f = rowU g := by
  unfold rowU
  congr 1
  refine List.map_congr_left fun i hi => ?_
  rw [h i (List.mem_range.1 hi)]
theorem rowU_set (f : Nat → Nat) (i v : Nat) : (rowU f).setIfInBounds i (.int .u32 (v : Int)) = rowU fun j => if j = i then v else f j := by
  apply Array.ext_getElem?
  intro j
  rw [Array.getElem?_setIfInBounds]
  by_cases hij : i = j
  · subst hij
    by_cases hl : i < 256
    · rw [if_pos rfl, if_pos (by rw [rowU_size]; exact hl), rowU_get _ _ hl]
      simp
    · rw [if_pos rfl, if_neg (by rw [rowU_size]; exact hl), Array.getElem?_eq_none (by rw [rowU_size]; omega)]
  · rw [if_neg hij]
    by_cases hl : j < 256
    · rw [rowU_get _ _ hl, rowU_get _ _ hl]
      simp [Ne.symm hij]
    · rw [Array.getElem?_eq_none (by rw [rowU_size]; omega), Array.getElem?_eq_none (by rw [rowU_size]; omega)]
theorem rowU_one (f : Nat → Nat) : (rowU f).all (·.oneCell') = true := by
  rw [Array.all_eq_true_iff_forall_mem]
  intro v hv
  simp [rowU] at hv
  obtain ⟨i, _, rfl⟩ := hv
  rfl
theorem zero_row : rowU (fun _ => 0) = Array.replicate 256 (.int .u32 0) := by
  apply Array.ext_getElem?
  intro j
  by_cases hl : j < 256
  · rw [rowU_get _ _ hl]
    simp [hl]
  · rw [Array.getElem?_eq_none (by rw [rowU_size]; omega), Array.getElem?_eq_none (by simp; omega)]
theorem infoT : (Tryz.prog.info? 163).map (fun i => (i.zero, i.size)) = some (some (.agg (Array.replicate 256 (.int .u32 0))), 256) := by kernel_rfl
theorem run_alT (w : World) : (alSem 163).run Tryz.prog w = .ok (.pointer (some ⟨w.heap.size, 0, none⟩)) (w.alloc (.cells (rowU fun _ => 0) 163)) := by
  obtain ⟨hz, _⟩ := zero_of_info infoT
  rw [zero_row]
  simp [alSem, Instr.alloc, hz, newVar, newRow, Value.cells]
theorem run_ldT {w : World} {b : Nat} {f : Nat → Nat} (hs : Str w b (rowU f)) : (ldSem 163 (.pointer (some ⟨b, 0, none⟩))).run Tryz.prog w = .ok (.agg (rowU f)) w := by
  obtain ⟨t', hg⟩ := hs
  simp only [ldSem, Instr.loadAt, Instr.sureAddr, Sem.run_bind, Sem.run_pure, Result.andThen_ok]
  exact run_loadVar_row w b t' 163 (rowU f) (0, 0) _ hg Tryz.underlying163 rfl (by rw [rowU_size]; exact (zero_of_info infoT).2)
theorem run_stT {w : World} {b : Nat} {g f : Nat → Nat} (hs : Str w b (rowU g)) : (stSem 163 (.pointer (some ⟨b, 0, none⟩)) (.agg (rowU f))).run Tryz.prog w = .ok () (w.setRow b (rowU f)) := by
  obtain ⟨t', hg⟩ := hs
  simp only [stSem, Instr.storeAt, Instr.sureAddr, Sem.run_bind, Sem.run_pure, Result.andThen_ok]
  exact run_storeVar_row w b t' 163 (rowU g) (rowU f) hg (by rw [rowU_size]; exact (zero_of_info infoT).2) (by rw [rowU_size, rowU_size]) (rowU_one f)
theorem alT_fold : Instr.alloc 163 true (.tuple #[]) = alSem 163 := rfl
theorem ldT_fold (v : Value) : Instr.loadAt 163 v = ldSem 163 v := rfl
theorem stT_fold (a v : Value) : Instr.storeAt 163 a v = stSem 163 a v := rfl
theorem results_T {fn : Func} {p : Tmp} (hr : fn.results = #[.cell p 163]) (tmps : Array Value) {w : World} {g : Nat} {f : Nat → Nat} (hs : Str w g (rowU f))
    (hp : tmps.getD p undef = .pointer (some ⟨g, 0, none⟩)) : (results fn tmps).run Tryz.prog w = .ok (.agg (rowU f)) w := by
  obtain ⟨t', hg⟩ := hs
  exact results_cell_row hr tmps w g t' (rowU f) (0, 0) _ hp hg Tryz.underlying163 rfl (by rw [rowU_size]; exact (zero_of_info infoT).2)
attribute [local go_sem ↓] alT_fold ldT_fold stT_fold

/-- the two tables while they are made -/
def Tab (w wr : World) (f : Nat → Nat) : Prop := Str wr w.heap.size (rowU fun _ => 0) ∧ Str wr (w.heap.size + 1) (rowU f) ∧ Below w.heap.size w wr
theorem Tab.congr {w wr : World} {f g : Nat → Nat} (h : Tab w wr f) (e : ∀ i, i < 256 → f i = g i) : Tab w wr g := by
  unfold Tab
  rw [← rowU_congr e]
  exact h
theorem Tab.set {w wr : World} {f : Nat → Nat} (h : Tab w wr f) (i v : Nat) : Tab w (wr.setCell ⟨w.heap.size + 1, i, none⟩ (.int .u32 (v : Int))) (fun j => if j = i then v else f j) :=
  ⟨h.1.other _ _ (by omega), by have := h.2.1.set i (.int .u32 (v : Int)); rwa [rowU_set] at this, h.2.2.setCell (by simp) _⟩

def Inner (w : World) (step : Nat) (a : Value) (wr : World) : Prop := ∃ n : Nat, n ≤ 256 ∧ n % (2 * step) = 0 ∧ a = .int .i64 (n : Int) ∧ Tab w wr (CrcP.tabf step n)
def Outer (w : World) (s i : Value) (wr : World) : Prop := ∃ k : Nat, k ≤ 8 ∧ i = .int .i64 (k : Int) ∧ s = .int .u32 ((CrcP.bits k 1 : Nat) : Int) ∧ Tab w wr (CrcP.headf (2 ^ (8 - k)))

set_option maxRecDepth 100000 in
set_option maxHeartbeats 4000000 in
theorem table_any (w : World) : Calls Tryz.prog 113 #[] w fun e w' => e = .returned (.agg (rowU CrcP.step8)) ∧ Below w.heap.size w w' := by
  have hal := fun W => run_alT W
  have HT : Hid (Tab w ((w.alloc (.cells (rowU fun _ => 0) 163)).alloc (.cells (rowU fun _ => 0) 163)) (CrcP.headf 256)) := Lib.hid (Tab.congr ⟨(Str.new w _ _).alloc _, (by have := Str.new (w.alloc (.cells (rowU fun _ => 0) 163)) (rowU fun _ => 0) 163; simpa using this), balloc (balloc (bsame w) _) _⟩ fun i hi => (CrcP.headf_zero i hi).symm)
  go_enter Tryz.func113, Tryz.ntmps113
  go_wp2
  clear hal
  go_loopw [2, 7] (fun s i wr => Outer w s i wr) (fun _ i _ => 8 - (intOf i).toNat)
  case atStart => exact ⟨0, by omega, rfl, rfl, HT.out⟩
  case round =>
    obtain ⟨k, hk, rfl, rfl, hT⟩ := hrel
    clear HT
    obtain ⟨wo, rfl⟩ : ∃ wo : World, wo = wr := ⟨_, rfl⟩
    have hks : k = 0 ∨ k = 1 ∨ k = 2 ∨ k = 3 ∨ k = 4 ∨ k = 5 ∨ k = 6 ∨ k = 7 ∨ k = 8 := by omega
    clear hk
    rcases hks with rfl | rfl | rfl | rfl | rfl | rfl | rfl | rfl | rfl
    · rw [show CrcP.bits 0 1 = 1 by decide +kernel]
      have hand : bits .and .u32 1 1 = 1 := by decide +kernel
      have hxor : bits .xor .u32 0 2197175160 = 2197175160 := by decide +kernel
      have HT0 : Hid (Tab w wo (CrcP.tabf 128 0)) := Lib.hid (hT.congr fun i _ => (CrcP.tabf_start 128 i).symm)
      clear hT
      go_wp2
      go_loopw [6] (fun a wr => Inner w 128 a wr) (fun a _ => 256 - (intOf a).toNat)
      case atStart => exact ⟨0, by omega, by omega, rfl, HT0.out⟩
      case round =>
        obtain ⟨a, ha, hm, rfl, hT⟩ := hrel
        by_cases hlt : a < 256
        · have hc : wr.cell? ⟨w.heap.size + 1, a, none⟩ = some (.int .u32 ((CrcP.step8 a : Nat) : Int)) := by
            rw [hT.2.1.cell, rowU_get _ _ hlt, CrcP.tabf_at128 a hm]
          have hc2 : wr.cell? ⟨w.heap.size + 1, a + 128, none⟩ = some (.int .u32 ((CrcP.tabf 128 a (a + 128) : Nat) : Int)) := by
            rw [hT.2.1.cell, rowU_get _ _ (by omega)]
          have hf := fun i => hT.2.1.frozen i
          have hx : bits .xor .u32 ((CrcP.step8 a : Nat) : Int) 2197175160 = ((CrcP.step8 (a + 128) : Nat) : Int) := by
            have := u32_xor_nat (CrcP.step8 a) 2197175160 (CrcP.step8_lt a (by omega)) (by omega)
            rw [CrcP.step8_at128 a hm] at this
            exact this
          have ht : ((a : Int) + 128).toNat = a + 128 := by omega
          have HT : Hid (Tab w (wr.setCell ⟨w.heap.size + 1, a + 128, none⟩ (.int .u32 ((CrcP.step8 (a + 128) : Nat) : Int))) (CrcP.tabf 128 (a + 2 * 128))) := Lib.hid ((hT.set (a + 128) (CrcP.step8 (a + 128))).congr fun i _ => CrcP.tabf_next128 a i hm)
          have hl1 := hT.2.1.lt
          have hb1 : (a : Int) + 128 < 256 := by omega
          clear hT
          go_wp2
          go_roundw
          case rel => exact ⟨a + 2 * 128, by omega, by omega, by go_num, HT.out⟩
          case measure => simp [intOf]; omega
        · have ha' : a = 256 := by omega
          subst ha'
          have HT : Hid (Tab w wr (CrcP.headf 128)) := Lib.hid (hT.congr fun i hi => CrcP.tabf_end128 i hi)
          clear hT
          go_wp2
          go_roundw
          case rel => exact ⟨1, by omega, by go_num, by rw [show CrcP.bits 1 1 = 2197175160 by decide +kernel]; rfl, HT.out⟩
          case measure => simp [intOf]
    · rw [show CrcP.bits 1 1 = 2197175160 by decide +kernel]
      have hand : bits .and .u32 2197175160 1 = 0 := by decide +kernel
      have HT0 : Hid (Tab w wo (CrcP.tabf 64 0)) := Lib.hid (hT.congr fun i _ => (CrcP.tabf_start 64 i).symm)
      clear hT
      go_wp2
      go_loopw [6] (fun a wr => Inner w 64 a wr) (fun a _ => 256 - (intOf a).toNat)
      case atStart => exact ⟨0, by omega, by omega, rfl, HT0.out⟩
      case round =>
        obtain ⟨a, ha, hm, rfl, hT⟩ := hrel
        by_cases hlt : a < 256
        · have hc : wr.cell? ⟨w.heap.size + 1, a, none⟩ = some (.int .u32 ((CrcP.step8 a : Nat) : Int)) := by
            rw [hT.2.1.cell, rowU_get _ _ hlt, CrcP.tabf_at64 a hm]
          have hc2 : wr.cell? ⟨w.heap.size + 1, a + 64, none⟩ = some (.int .u32 ((CrcP.tabf 64 a (a + 64) : Nat) : Int)) := by
            rw [hT.2.1.cell, rowU_get _ _ (by omega)]
          have hf := fun i => hT.2.1.frozen i
          have hx : bits .xor .u32 ((CrcP.step8 a : Nat) : Int) 1098587580 = ((CrcP.step8 (a + 64) : Nat) : Int) := by
            have := u32_xor_nat (CrcP.step8 a) 1098587580 (CrcP.step8_lt a (by omega)) (by omega)
            rw [CrcP.step8_at64 a hm] at this
            exact this
          have ht : ((a : Int) + 64).toNat = a + 64 := by omega
          have HT : Hid (Tab w (wr.setCell ⟨w.heap.size + 1, a + 64, none⟩ (.int .u32 ((CrcP.step8 (a + 64) : Nat) : Int))) (CrcP.tabf 64 (a + 2 * 64))) := Lib.hid ((hT.set (a + 64) (CrcP.step8 (a + 64))).congr fun i _ => CrcP.tabf_next64 a i hm)
          have hl1 := hT.2.1.lt
          have hb1 : (a : Int) + 64 < 256 := by omega
          clear hT
          go_wp2
          go_roundw
          case rel => exact ⟨a + 2 * 64, by omega, by omega, by go_num, HT.out⟩
          case measure => simp [intOf]; omega
        · have ha' : a = 256 := by omega
          subst ha'
          have HT : Hid (Tab w wr (CrcP.headf 64)) := Lib.hid (hT.congr fun i hi => CrcP.tabf_end64 i hi)
          clear hT
          go_wp2
          go_roundw
          case rel => exact ⟨2, by omega, by go_num, by rw [show CrcP.bits 2 1 = 1098587580 by decide +kernel]; rfl, HT.out⟩
          case measure => simp [intOf]
    · rw [show CrcP.bits 2 1 = 1098587580 by decide +kernel]
      have hand : bits .and .u32 1098587580 1 = 0 := by decide +kernel
      have HT0 : Hid (Tab w wo (CrcP.tabf 32 0)) := Lib.hid (hT.congr fun i _ => (CrcP.tabf_start 32 i).symm)
      clear hT
      go_wp2
      go_loopw [6] (fun a wr => Inner w 32 a wr) (fun a _ => 256 - (intOf a).toNat)
      case atStart => exact ⟨0, by omega, by omega, rfl, HT0.out⟩
      case round =>
        obtain ⟨a, ha, hm, rfl, hT⟩ := hrel
        by_cases hlt : a < 256
        · have hc : wr.cell? ⟨w.heap.size + 1, a, none⟩ = some (.int .u32 ((CrcP.step8 a : Nat) : Int)) := by
            rw [hT.2.1.cell, rowU_get _ _ hlt, CrcP.tabf_at32 a hm]
          have hc2 : wr.cell? ⟨w.heap.size + 1, a + 32, none⟩ = some (.int .u32 ((CrcP.tabf 32 a (a + 32) : Nat) : Int)) := by
            rw [hT.2.1.cell, rowU_get _ _ (by omega)]
          have hf := fun i => hT.2.1.frozen i
          have hx : bits .xor .u32 ((CrcP.step8 a : Nat) : Int) 549293790 = ((CrcP.step8 (a + 32) : Nat) : Int) := by
            have := u32_xor_nat (CrcP.step8 a) 549293790 (CrcP.step8_lt a (by omega)) (by omega)
            rw [CrcP.step8_at32 a hm] at this
            exact this
          have ht : ((a : Int) + 32).toNat = a + 32 := by omega
          have HT : Hid (Tab w (wr.setCell ⟨w.heap.size + 1, a + 32, none⟩ (.int .u32 ((CrcP.step8 (a + 32) : Nat) : Int))) (CrcP.tabf 32 (a + 2 * 32))) := Lib.hid ((hT.set (a + 32) (CrcP.step8 (a + 32))).congr fun i _ => CrcP.tabf_next32 a i hm)
          have hl1 := hT.2.1.lt
          have hb1 : (a : Int) + 32 < 256 := by omega
          clear hT
          go_wp2
          go_roundw
          case rel => exact ⟨a + 2 * 32, by omega, by omega, by go_num, HT.out⟩
          case measure => simp [intOf]; omega
        · have ha' : a = 256 := by omega
          subst ha'
          have HT : Hid (Tab w wr (CrcP.headf 32)) := Lib.hid (hT.congr fun i hi => CrcP.tabf_end32 i hi)
          clear hT
          go_wp2
          go_roundw
          case rel => exact ⟨3, by omega, by go_num, by rw [show CrcP.bits 3 1 = 549293790 by decide +kernel]; rfl, HT.out⟩
          case measure => simp [intOf]
    · rw [show CrcP.bits 3 1 = 549293790 by decide +kernel]
      have hand : bits .and .u32 549293790 1 = 0 := by decide +kernel
      have HT0 : Hid (Tab w wo (CrcP.tabf 16 0)) := Lib.hid (hT.congr fun i _ => (CrcP.tabf_start 16 i).symm)
      clear hT
      go_wp2
      go_loopw [6] (fun a wr => Inner w 16 a wr) (fun a _ => 256 - (intOf a).toNat)
      case atStart => exact ⟨0, by omega, by omega, rfl, HT0.out⟩
      case round =>
        obtain ⟨a, ha, hm, rfl, hT⟩ := hrel
        by_cases hlt : a < 256
        · have hc : wr.cell? ⟨w.heap.size + 1, a, none⟩ = some (.int .u32 ((CrcP.step8 a : Nat) : Int)) := by
            rw [hT.2.1.cell, rowU_get _ _ hlt, CrcP.tabf_at16 a hm]
          have hc2 : wr.cell? ⟨w.heap.size + 1, a + 16, none⟩ = some (.int .u32 ((CrcP.tabf 16 a (a + 16) : Nat) : Int)) := by
            rw [hT.2.1.cell, rowU_get _ _ (by omega)]
          have hf := fun i => hT.2.1.frozen i
          have hx : bits .xor .u32 ((CrcP.step8 a : Nat) : Int) 274646895 = ((CrcP.step8 (a + 16) : Nat) : Int) := by
            have := u32_xor_nat (CrcP.step8 a) 274646895 (CrcP.step8_lt a (by omega)) (by omega)
            rw [CrcP.step8_at16 a hm] at this
            exact this
          have ht : ((a : Int) + 16).toNat = a + 16 := by omega
          have HT : Hid (Tab w (wr.setCell ⟨w.heap.size + 1, a + 16, none⟩ (.int .u32 ((CrcP.step8 (a + 16) : Nat) : Int))) (CrcP.tabf 16 (a + 2 * 16))) := Lib.hid ((hT.set (a + 16) (CrcP.step8 (a + 16))).congr fun i _ => CrcP.tabf_next16 a i hm)
          have hl1 := hT.2.1.lt
          have hb1 : (a : Int) + 16 < 256 := by omega
          clear hT
          go_wp2
          go_roundw
          case rel => exact ⟨a + 2 * 16, by omega, by omega, by go_num, HT.out⟩
          case measure => simp [intOf]; omega
        · have ha' : a = 256 := by omega
          subst ha'
          have HT : Hid (Tab w wr (CrcP.headf 16)) := Lib.hid (hT.congr fun i hi => CrcP.tabf_end16 i hi)
          clear hT
          go_wp2
          go_roundw
          case rel => exact ⟨4, by omega, by go_num, by rw [show CrcP.bits 4 1 = 274646895 by decide +kernel]; rfl, HT.out⟩
          case measure => simp [intOf]
    · rw [show CrcP.bits 4 1 = 274646895 by decide +kernel]
      have hand : bits .and .u32 274646895 1 = 1 := by decide +kernel
      have hxor : bits .xor .u32 137323447 2197175160 = 2329499855 := by decide +kernel
      have HT0 : Hid (Tab w wo (CrcP.tabf 8 0)) := Lib.hid (hT.congr fun i _ => (CrcP.tabf_start 8 i).symm)
      clear hT
      go_wp2
      go_loopw [6] (fun a wr => Inner w 8 a wr) (fun a _ => 256 - (intOf a).toNat)
      case atStart => exact ⟨0, by omega, by omega, rfl, HT0.out⟩
      case round =>
        obtain ⟨a, ha, hm, rfl, hT⟩ := hrel
        by_cases hlt : a < 256
        · have hc : wr.cell? ⟨w.heap.size + 1, a, none⟩ = some (.int .u32 ((CrcP.step8 a : Nat) : Int)) := by
            rw [hT.2.1.cell, rowU_get _ _ hlt, CrcP.tabf_at8 a hm]
          have hc2 : wr.cell? ⟨w.heap.size + 1, a + 8, none⟩ = some (.int .u32 ((CrcP.tabf 8 a (a + 8) : Nat) : Int)) := by
            rw [hT.2.1.cell, rowU_get _ _ (by omega)]
          have hf := fun i => hT.2.1.frozen i
          have hx : bits .xor .u32 ((CrcP.step8 a : Nat) : Int) 2329499855 = ((CrcP.step8 (a + 8) : Nat) : Int) := by
            have := u32_xor_nat (CrcP.step8 a) 2329499855 (CrcP.step8_lt a (by omega)) (by omega)
            rw [CrcP.step8_at8 a hm] at this
            exact this
          have ht : ((a : Int) + 8).toNat = a + 8 := by omega
          have HT : Hid (Tab w (wr.setCell ⟨w.heap.size + 1, a + 8, none⟩ (.int .u32 ((CrcP.step8 (a + 8) : Nat) : Int))) (CrcP.tabf 8 (a + 2 * 8))) := Lib.hid ((hT.set (a + 8) (CrcP.step8 (a + 8))).congr fun i _ => CrcP.tabf_next8 a i hm)
          have hl1 := hT.2.1.lt
          have hb1 : (a : Int) + 8 < 256 := by omega
          clear hT
          go_wp2
          go_roundw
          case rel => exact ⟨a + 2 * 8, by omega, by omega, by go_num, HT.out⟩
          case measure => simp [intOf]; omega
        · have ha' : a = 256 := by omega
          subst ha'
          have HT : Hid (Tab w wr (CrcP.headf 8)) := Lib.hid (hT.congr fun i hi => CrcP.tabf_end8 i hi)
          clear hT
          go_wp2
          go_roundw
          case rel => exact ⟨5, by omega, by go_num, by rw [show CrcP.bits 5 1 = 2329499855 by decide +kernel]; rfl, HT.out⟩
          case measure => simp [intOf]
    · rw [show CrcP.bits 5 1 = 2329499855 by decide +kernel]
      have hand : bits .and .u32 2329499855 1 = 1 := by decide +kernel
      have hxor : bits .xor .u32 1164749927 2197175160 = 3348797215 := by decide +kernel
      have HT0 : Hid (Tab w wo (CrcP.tabf 4 0)) := Lib.hid (hT.congr fun i _ => (CrcP.tabf_start 4 i).symm)
      clear hT
      go_wp2
      go_loopw [6] (fun a wr => Inner w 4 a wr) (fun a _ => 256 - (intOf a).toNat)
      case atStart => exact ⟨0, by omega, by omega, rfl, HT0.out⟩
      case round =>
        obtain ⟨a, ha, hm, rfl, hT⟩ := hrel
        by_cases hlt : a < 256
        · have hc : wr.cell? ⟨w.heap.size + 1, a, none⟩ = some (.int .u32 ((CrcP.step8 a : Nat) : Int)) := by
            rw [hT.2.1.cell, rowU_get _ _ hlt, CrcP.tabf_at4 a hm]
          have hc2 : wr.cell? ⟨w.heap.size + 1, a + 4, none⟩ = some (.int .u32 ((CrcP.tabf 4 a (a + 4) : Nat) : Int)) := by
            rw [hT.2.1.cell, rowU_get _ _ (by omega)]
          have hf := fun i => hT.2.1.frozen i
          have hx : bits .xor .u32 ((CrcP.step8 a : Nat) : Int) 3348797215 = ((CrcP.step8 (a + 4) : Nat) : Int) := by
            have := u32_xor_nat (CrcP.step8 a) 3348797215 (CrcP.step8_lt a (by omega)) (by omega)
            rw [CrcP.step8_at4 a hm] at this
            exact this
          have ht : ((a : Int) + 4).toNat = a + 4 := by omega
          have HT : Hid (Tab w (wr.setCell ⟨w.heap.size + 1, a + 4, none⟩ (.int .u32 ((CrcP.step8 (a + 4) : Nat) : Int))) (CrcP.tabf 4 (a + 2 * 4))) := Lib.hid ((hT.set (a + 4) (CrcP.step8 (a + 4))).congr fun i _ => CrcP.tabf_next4 a i hm)
          have hl1 := hT.2.1.lt
          have hb1 : (a : Int) + 4 < 256 := by omega
          clear hT
          go_wp2
          go_roundw
          case rel => exact ⟨a + 2 * 4, by omega, by omega, by go_num, HT.out⟩
          case measure => simp [intOf]; omega
        · have ha' : a = 256 := by omega
          subst ha'
          have HT : Hid (Tab w wr (CrcP.headf 4)) := Lib.hid (hT.congr fun i hi => CrcP.tabf_end4 i hi)
          clear hT
          go_wp2
          go_roundw
          case rel => exact ⟨6, by omega, by go_num, by rw [show CrcP.bits 6 1 = 3348797215 by decide +kernel]; rfl, HT.out⟩
          case measure => simp [intOf]
    · rw [show CrcP.bits 6 1 = 3348797215 by decide +kernel]
      have hand : bits .and .u32 3348797215 1 = 1 := by decide +kernel
      have hxor : bits .xor .u32 1674398607 2197175160 = 3778769143 := by decide +kernel
      have HT0 : Hid (Tab w wo (CrcP.tabf 2 0)) := Lib.hid (hT.congr fun i _ => (CrcP.tabf_start 2 i).symm)
      clear hT
      go_wp2
      go_loopw [6] (fun a wr => Inner w 2 a wr) (fun a _ => 256 - (intOf a).toNat)
      case atStart => exact ⟨0, by omega, by omega, rfl, HT0.out⟩
      case round =>
        obtain ⟨a, ha, hm, rfl, hT⟩ := hrel
        by_cases hlt : a < 256
        · have hc : wr.cell? ⟨w.heap.size + 1, a, none⟩ = some (.int .u32 ((CrcP.step8 a : Nat) : Int)) := by
            rw [hT.2.1.cell, rowU_get _ _ hlt, CrcP.tabf_at2 a hm]
          have hc2 : wr.cell? ⟨w.heap.size + 1, a + 2, none⟩ = some (.int .u32 ((CrcP.tabf 2 a (a + 2) : Nat) : Int)) := by
            rw [hT.2.1.cell, rowU_get _ _ (by omega)]
          have hf := fun i => hT.2.1.frozen i
          have hx : bits .xor .u32 ((CrcP.step8 a : Nat) : Int) 3778769143 = ((CrcP.step8 (a + 2) : Nat) : Int) := by
            have := u32_xor_nat (CrcP.step8 a) 3778769143 (CrcP.step8_lt a (by omega)) (by omega)
            rw [CrcP.step8_at2 a hm] at this
            exact this
          have ht : ((a : Int) + 2).toNat = a + 2 := by omega
          have HT : Hid (Tab w (wr.setCell ⟨w.heap.size + 1, a + 2, none⟩ (.int .u32 ((CrcP.step8 (a + 2) : Nat) : Int))) (CrcP.tabf 2 (a + 2 * 2))) := Lib.hid ((hT.set (a + 2) (CrcP.step8 (a + 2))).congr fun i _ => CrcP.tabf_next2 a i hm)
          have hl1 := hT.2.1.lt
          have hb1 : (a : Int) + 2 < 256 := by omega
          clear hT
          go_wp2
          go_roundw
          case rel => exact ⟨a + 2 * 2, by omega, by omega, by go_num, HT.out⟩
          case measure => simp [intOf]; omega
        · have ha' : a = 256 := by omega
          subst ha'
          have HT : Hid (Tab w wr (CrcP.headf 2)) := Lib.hid (hT.congr fun i hi => CrcP.tabf_end2 i hi)
          clear hT
          go_wp2
          go_roundw
          case rel => exact ⟨7, by omega, by go_num, by rw [show CrcP.bits 7 1 = 3778769143 by decide +kernel]; rfl, HT.out⟩
          case measure => simp [intOf]
    · rw [show CrcP.bits 7 1 = 3778769143 by decide +kernel]
      have hand : bits .and .u32 3778769143 1 = 1 := by decide +kernel
      have hxor : bits .xor .u32 1889384571 2197175160 = 4067132163 := by decide +kernel
      have HT0 : Hid (Tab w wo (CrcP.tabf 1 0)) := Lib.hid (hT.congr fun i _ => (CrcP.tabf_start 1 i).symm)
      clear hT
      go_wp2
      go_loopw [6] (fun a wr => Inner w 1 a wr) (fun a _ => 256 - (intOf a).toNat)
      case atStart => exact ⟨0, by omega, by omega, rfl, HT0.out⟩
      case round =>
        obtain ⟨a, ha, hm, rfl, hT⟩ := hrel
        by_cases hlt : a < 256
        · have hc : wr.cell? ⟨w.heap.size + 1, a, none⟩ = some (.int .u32 ((CrcP.step8 a : Nat) : Int)) := by
            rw [hT.2.1.cell, rowU_get _ _ hlt, CrcP.tabf_at1 a hm]
          have hc2 : wr.cell? ⟨w.heap.size + 1, a + 1, none⟩ = some (.int .u32 ((CrcP.tabf 1 a (a + 1) : Nat) : Int)) := by
            rw [hT.2.1.cell, rowU_get _ _ (by omega)]
          have hf := fun i => hT.2.1.frozen i
          have hx : bits .xor .u32 ((CrcP.step8 a : Nat) : Int) 4067132163 = ((CrcP.step8 (a + 1) : Nat) : Int) := by
            have := u32_xor_nat (CrcP.step8 a) 4067132163 (CrcP.step8_lt a (by omega)) (by omega)
            rw [CrcP.step8_at1 a hm] at this
            exact this
          have ht : ((a : Int) + 1).toNat = a + 1 := by omega
          have HT : Hid (Tab w (wr.setCell ⟨w.heap.size + 1, a + 1, none⟩ (.int .u32 ((CrcP.step8 (a + 1) : Nat) : Int))) (CrcP.tabf 1 (a + 2 * 1))) := Lib.hid ((hT.set (a + 1) (CrcP.step8 (a + 1))).congr fun i _ => CrcP.tabf_next1 a i hm)
          have hl1 := hT.2.1.lt
          have hb1 : (a : Int) + 1 < 256 := by omega
          clear hT
          go_wp2
          go_roundw
          case rel => exact ⟨a + 2 * 1, by omega, by omega, by go_num, HT.out⟩
          case measure => simp [intOf]; omega
        · have ha' : a = 256 := by omega
          subst ha'
          have HT : Hid (Tab w wr (CrcP.headf 1)) := Lib.hid (hT.congr fun i hi => CrcP.tabf_end1 i hi)
          clear hT
          go_wp2
          go_roundw
          case rel => exact ⟨8, by omega, by go_num, by rw [show CrcP.bits 8 1 = 4067132163 by decide +kernel]; rfl, HT.out⟩
          case measure => simp [intOf]
    · have hld := run_ldT hT.2.1
      have hst := run_stT (f := CrcP.headf 1) hT.1
      have HS := Lib.hid (hT.1.setRow (cs' := rowU (CrcP.headf 1)))
      have HB := Lib.hid (below_setRow hT.2.2 (Nat.le_refl _) (rowU (CrcP.headf 1)))
      have he : rowU CrcP.step8 = rowU (CrcP.headf 1) := rowU_congr fun i _ => (CrcP.headf_one i).symm
      have HE := Lib.hid he
      clear hT he
      go_wp2
      refine bodyPost_ret (v := .agg (rowU (CrcP.headf 1))) (results_T Tryz.results113 _ HS.out rfl) rfl ⟨?_, HB.out⟩
      rw [HE.out]
end Go.Proofs.YtpdfnlhhnodnjaaGreat.CrcW
end
section
namespace Go.Proofs.YtpdfnlhhnodnjaaGreat.RefBytes
open Go.RowKit
attribute [local go_sem ↓] app_fold

end Go.Proofs.YtpdfnlhhnodnjaaGreat.RefBytes
end
section
namespace Go.Proofs.YtpdfnlhhnodnjaaGreat.CrcW
open Go.RowKit
attribute [local go_sem ↓] alT_fold ldT_fold stT_fold
attribute [local go_sem ↓] app_fold cut_fold

def st (u : Nat) (l : List UInt8) (k : Nat) : Nat := (l.take k).foldl CrcP.round (4294967295 - u)
theorem st_lt (u : Nat) (l : List UInt8) (k : Nat) : st u l k < 4294967296 := CrcP.fold_lt _ _ (by omega)
theorem st_succ (u : Nat) (l : List UInt8) (k : Nat) (h : k < l.length) : st u l (k + 1) = CrcP.round (st u l k) l[k] := by
  unfold st
  rw [List.take_succ_eq_append_getElem h, List.foldl_append]
  rfl
theorem st_all (u : Nat) (l : List UInt8) (k : Nat) (h : l.length ≤ k) : CrcP.more u l = 4294967295 - st u l k := by
  unfold st CrcP.more
  rw [List.take_of_length_le h]
theorem xor_ones (v : Nat) (h : v < 4294967296) : 4294967295 ^^^ v = 4294967295 - v := by
  have e := congrArg BitVec.toNat (BitVec.allOnes_xor (x := BitVec.ofNat 32 v))
  rw [BitVec.toNat_xor, BitVec.toNat_allOnes, BitVec.toNat_not, BitVec.toNat_ofNat, Nat.mod_eq_of_lt (by omega)] at e
  have h2 : (2 : Nat) ^ 32 = 4294967296 := by decide
  rw [h2] at e
  exact e
theorem not32 (v : Nat) (h : v < 4294967296) : bits .xor .u32 IntKind.u32.max (v : Int) = ((4294967295 - v : Nat) : Int) := by
  have e : IntKind.u32.max = ((4294967295 : Nat) : Int) := by decide
  rw [e, u32_xor_nat 4294967295 v (by omega) h, xor_ones v h]
theorem idx_lt (v : Nat) (c : UInt8) : v % 256 ^^^ c.toNat < 256 := by
  have hc := c.toNat_lt
  have : v % 256 ^^^ c.toNat < 2 ^ 8 := Nat.xor_lt_two_pow (by omega) (by omega)
  omega

set_option maxRecDepth 100000 in
set_option maxHeartbeats 1000000 in
theorem more_any (u : Nat) (hu : u < 4294967296) (A : Option Addr) (n c B : Nat) (l : List UInt8) (w : World) (h : Bytes w B A n c l) (hB : B ≤ w.heap.size) :
    Calls Tryz.prog 98 #[.int .u32 (u : Int), .slice A n c] w fun e w' => e = .returned (.int .u32 ((CrcP.more u l : Nat) : Int)) ∧ Below w.heap.size w w' := by
  have hn := Nat.le_trans h.2.1 h.2.2.1
  unfold maxLen at hn
  have hln := h.len
  have H := Lib.hid h
  have HLN := Lib.hid hln
  have hal := fun W => run_alT W
  clear h hln
  go_enter Tryz.func98, Tryz.ntmps98
  go_wp2_with fail
  refine (table_any _).mono ?_
  rintro e W1 ⟨rfl, hb1⟩
  have hst := run_stT (f := CrcP.step8) (Str.new W1 (rowU fun _ => 0) 163)
  obtain ⟨W2, hW2⟩ : ∃ W2, (W1.alloc (.cells (rowU fun _ => 0) 163)).setRow W1.heap.size (rowU CrcP.step8) = W2 := ⟨_, rfl⟩
  have hS : Str W2 W1.heap.size (rowU CrcP.step8) := by rw [← hW2]; exact (Str.new W1 _ _).setRow
  have hB2 : Below w.heap.size w W2 := by rw [← hW2]; exact below_setRow (balloc hb1 _) hb1.size _
  rw [hW2] at hst
  have HS := Lib.hid hS
  have HB := Lib.hid hB2
  have HY := Lib.hid (H.out.below (hB2.mono hB))
  have hnot : bits .xor .u32 IntKind.u32.max (u : Int) = ((st u l 0 : Nat) : Int) := not32 u hu
  clear hS hB2 hW2 hb1
  go_wp2_with fail
  clear hnot hst hal
  go_loop [6, 14] (fun s i => ∃ k : Nat, k ≤ n ∧ i = .int .i64 (k : Int) ∧ s = .int .u32 ((st u l k : Nat) : Int)) (fun _ i => n - (intOf i).toNat)
  case atStart => exact ⟨0, Nat.zero_le _, rfl, rfl⟩
  case round =>
    obtain ⟨k, hk, rfl, rfl⟩ := hrel
    by_cases hlt : k < n
    · have hkl : k < l.length := by rw [HLN.out]; exact hlt
      obtain ⟨b, o, rfl, hbB, hcell⟩ := HY.out.at_ hlt
      unfold byteV at hcell
      have HN := Lib.hid (st_succ u l k hkl)
      have hv := st_lt u l k
      generalize hc : l[k] = cb at *
      generalize hsv : st u l k = v at *
      have HSV := Lib.hid hsv
      clear hsv hc hkl
      have hcl := cb.toNat_lt
      have hj := idx_lt v cb
      have hx8 : bits .xor .u8 ((v : Int) % 256) (cb.toNat : Int) = ((v % 256 ^^^ cb.toNat : Nat) : Int) := by
        have := u8_xor_nat (v % 256) cb.toNat (by omega) (by omega)
        rwa [show ((v % 256 : Nat) : Int) = (v : Int) % 256 by omega] at this
      have hx32 : bits .xor .u32 ((v : Int) / 256) ((CrcP.step8 (v % 256 ^^^ cb.toNat) : Nat) : Int) = ((st u l (k + 1) : Nat) : Int) := by
        rw [HN.out, CrcP.round_table]
        have := u32_xor_nat (v / 256) (CrcP.step8 (v % 256 ^^^ cb.toNat)) (by omega) (CrcP.step8_lt _ (by omega))
        rwa [show ((v / 256 : Nat) : Int) = (v : Int) / 256 by omega] at this
      generalize hjj : v % 256 ^^^ cb.toNat = jx at *
      clear hjj
      have hct : W2.cell? ⟨W1.heap.size, jx, none⟩ = some (.int .u32 ((CrcP.step8 jx : Nat) : Int)) := by rw [HS.out.cell, rowU_get _ _ hj]
      have hj' : (jx : Int) < 256 := by omega
      go_wp2
      go_round
      case rel => exact ⟨k + 1, by omega, by go_num, rfl⟩
      case measure => simp [intOf]; omega
    · have HF := Lib.hid (st_all u l k (by rw [HLN.out]; omega))
      have hnot : bits .xor .u32 IntKind.u32.max ((st u l k : Nat) : Int) = ((CrcP.more u l : Nat) : Int) := by rw [not32 _ (st_lt u l k), HF.out]
      go_wp2
      go_ret
      exact ⟨rfl, HB.out⟩

set_option maxHeartbeats 400000 in
theorem sum_any (A : Option Addr) (n c B : Nat) (l : List UInt8) (w : World) (h : Bytes w B A n c l) (hB : B ≤ w.heap.size) :
    Calls Tryz.prog 69 #[.slice A n c] w fun e w' => e = .returned (.int .u32 ((CrcP.sum l : Nat) : Int)) ∧ Below w.heap.size w w' := by
  have H := Lib.hid h
  clear h
  go_enter Tryz.func69, Tryz.ntmps69
  go_wp2_with fail
  refine (more_any 0 (by omega) A n c B l _ H.out hB).mono ?_
  rintro e w1 ⟨rfl, hb⟩
  go_wp2_with fail
  go_ret
  exact ⟨rfl, hb⟩

end Go.Proofs.YtpdfnlhhnodnjaaGreat.CrcW
end
section
namespace Go.Proofs.YtpdfnlhhnodnjaaGreat.CrcW
open Go.RowKit
set_option linter.unusedVariables false
set_option linter.unusedSimpArgs false
attribute [local go_sem ↓] app_fold cut_fold
set_option maxRecDepth 100000 in
set_option maxHeartbeats 1000000 in
theorem seal_any (A : Option Addr) (n c B : Nat) (l : List UInt8) (w : World) (h : Bytes w B A n c l) (hB : B ≤ w.heap.size) (hn : n ≤ 1000000000) :
    Calls Tryz.prog 43 #[.slice A n c] w (GivesBytes w (BeP.parts 4 ((CrcP.sum l : Nat) : Int) ++ l)) := by
  have hs := CrcP.sum_lt l
  have H := Lib.hid h
  obtain ⟨W0, hW0⟩ : ∃ W, w.alloc (.cells (zerosV (n + 4)).toArray 5) = W := ⟨_, rfl⟩
  have e : ((n + 4 : Nat) : Int) = 4 + (n : Int) := by omega
  have hmk : (Instr.makeSlice 32 (.int .i64 0) (.int .i64 (4 + (n : Int)))).run Tryz.prog w = .ok (.slice (some ⟨w.heap.size, 0, none⟩) 0 (n + 4)) W0 := by
    have := Be.run_make_b 0 (n + 4) (by omega) (by omega) w
    rw [e, hW0] at this
    exact this
  have hO0 : Own W0 w.heap.size (some ⟨w.heap.size, 0, none⟩) 0 (n + 4) [] := by
    rw [← hW0]
    exact ⟨rfl, .inr ⟨_, _, _, rfl, Nat.le_refl _, heap_alloc_new w _, by omega, by unfold maxLen; omega, by simp [zerosV_length], by simp⟩⟩
  have hb0 : Below w.heap.size w W0 := by rw [← hW0]; exact balloc (bsame w) _
  have HO0 := Lib.hid hO0
  have HB0 := Lib.hid hb0
  have hw0 := hb0.size
  clear hW0 hO0 hb0 e h
  go_enter Tryz.func43, Tryz.ntmps43
  go_wp2_with fail
  refine (sum_any A n c B l W0 (H.out.below (HB0.out.mono hB)) (by omega)).mono ?_
  rintro e W1 ⟨rfl, hb1⟩
  have HO1 := Lib.hid (HO0.out.next hb1)
  have HB1 := Lib.hid (bstep HB0.out hb1)
  clear hb1 HO0 HB0 hmk
  have hwi : IntKind.i64.wrap ((CrcP.sum l : Nat) : Int) = ((CrcP.sum l : Nat) : Int) := IntWalk.i64_in _ (by omega)
  go_wp2_with fail
  refine (Be.put_wide none 0 0 0 [] 4 ((CrcP.sum l : Nat) : Int) W1 (Bytes.none_ _ _) (Nat.zero_le _) (by omega) (by omega) (by omega)).mono ?_
  rintro e W2 ⟨A2, n2, c2, rfl, hy2, hb2⟩
  rw [List.nil_append] at hy2
  have hn2 : n2 = 4 := by rw [← hy2.len, BeP.parts_length]
  subst hn2
  obtain ⟨A3, c3, W3, happ3, hO3, hb3⟩ := (HO1.out.next hb2).app hy2 (by omega) (by have := HB1.out.size; have := hb2.size; omega)
  rw [Nat.zero_add, List.nil_append] at *
  have HO3 := Lib.hid hO3
  have HB3 := Lib.hid ((bstep HB1.out hb2).trans hb3)
  obtain ⟨A4, c4, W4, happ4, hO4, hb4⟩ := HO3.out.app (H.out.below (HB3.out.mono hB)) (by omega) HB3.out.size
  have HO4 := Lib.hid hO4
  have HB4 := Lib.hid (HB3.out.trans hb4)
  clear hO3 hb3 hO4 hb4 hy2 hb2 HO1 HB1
  go_wp2
  go_ret
  exact ⟨A4, _, c4, rfl, HO4.out.bytes, HB4.out⟩
set_option maxRecDepth 100000 in
set_option maxHeartbeats 1000000 in
theorem good_any (A : Option Addr) (n c B : Nat) (l : List UInt8) (w : World) (h : Bytes w B A n c l) (hB : B ≤ w.heap.size) (hn : 4 ≤ n) :
    Calls Tryz.prog 55 #[.slice A n c] w fun e w' => e = .returned (.bool (NumP.val l 0 4 == ((CrcP.sum (l.drop 4) : Nat) : Int))) ∧ Below w.heap.size w w' := by
  have hs := CrcP.sum_lt (l.drop 4)
  have H := Lib.hid h
  have hlen := h.len
  have hcm := h.2.2.1
  have hnc := h.2.1
  unfold maxLen at hcm
  have ht := NumW.there_yes l 0 4 (by omega)
  have hcut := h.cut 4 n c hn (Nat.le_refl _) (by omega) (Nat.le_refl _)
  rw [List.take_of_length_le (by rw [List.length_drop]; omega)] at hcut
  have HC := Lib.hid hcut
  have h4c : (4 : Int) ≤ (c : Int) := by omega
  have h4n : (4 : Int) ≤ (n : Int) := by omega
  have hnc' : (n : Int) ≤ (c : Int) := by omega
  clear h hcut
  go_enter Tryz.func55, Tryz.ntmps55
  go_wp2_with fail
  refine (NumW.num_any A n c B 0 4 l w H.out (by omega) (by omega) (by omega)).mono ?_
  rintro e w' ⟨rfl, rfl⟩
  rw [ht]
  go_wp2_with fail
  refine (sum_any _ _ _ B (l.drop 4) w HC.out hB).mono ?_
  rintro e W1 ⟨rfl, hb1⟩
  have hwi : IntKind.i64.wrap ((CrcP.sum (l.drop 4) : Nat) : Int) = ((CrcP.sum (l.drop 4) : Nat) : Int) := IntWalk.i64_in _ (by omega)
  have HB1 := Lib.hid hb1
  clear hb1
  go_wp2
  go_ret
  exact ⟨rfl, HB1.out⟩
end Go.Proofs.YtpdfnlhhnodnjaaGreat.CrcW
end
section
namespace Go.Proofs.YtpdfnlhhnodnjaaGreat
open Go.RowKit
set_option linter.unusedVariables false
/-- an append in a region, of slices of any kind -/
theorem wp_appT {P : Program} {o : Oper} {a : Act} {w w' : World} {K : Act → World → Prop} {Q : Exit → Act → World → Prop} {A A2 A' : Option Addr} {n c m c2 n' c' : Nat} {t : TypeId} (s x : Operand)
    (ho : o.op = .call { callee := .builtin .append, args := #[s, x], argTypes := #[t, t] }) (hty : o.type = t) (hs : a.eval s = .slice A n c) (hx : a.eval x = .slice A2 m c2)
    (hr : (appSem #[t, t] t #[.slice A n c, .slice A2 m c2]).run P w = .ok (.slice A' n' c') w') (k : K (a.put o.dst (.slice A' n' c')) w') : Oper.wp P o a w K Q := by
  unfold appSem at hr
  unfold Oper.wp execOp
  simp only [ho, hty, resolve, invoke, builtin, Sem.run_bind, Sem.run_pure, Result.andThen_ok, List.map_toArray, List.map_cons, List.map_nil, hs, hx, hr]
  exact k
namespace Reg
theorem eval_ne {t : Tmp} {a : Act} {d : Option Tmp} {v : Value} (h : d ≠ some t) : (a.put d v).eval (.tmp t) = a.eval (.tmp t) := eval_of (put_other a d v t h)
theorem obl_freeL {R : Way} {P : Program} {ops : Array Oper} {Q : Exit → Act → World → Prop} {T : List (SP R)} {j : Nat} {o : Oper} {a : Act} {w : World} (hg : o.guard = none) (h : o.wp P a w (DoneB T j o a w) Q) : (Region.wanted o (yielded ops a.tmps) = true → o.wp P a w (DoneB T j o a w) Q) ∧ (Region.wanted o (yielded ops a.tmps) = false → predAt T j undef w) :=
  ⟨fun _ => h, fun hw => by simp [Region.wanted, hg] at hw⟩
theorem extB_next {N : Nat} {b0 : List Nat} {W : World} (hN : N = W.heap.size) : ∀ w w', (extB N b0).rel W w → Below w.heap.size w w' → (extB N b0).rel w w' := fun w w' h k => KeepB.of (k.mono (by rw [hN]; exact KeepB.size h))
/-- what so many of the line have brought about, and whether the one beside them has come up -/
abbrev LS := Nat → Bool → Act → World → Prop
/-- the line: who they are; the one beside them; what they bring about -/
structure Line where
  C : List Nat
  q : Nat
  S : LS
def LineJ (l : Line) : Word := fun listed a w => ∃ k, k ≤ l.C.length ∧ (∀ i c, l.C[i]? = some c → listed.getD c false = decide (i < k)) ∧ l.S k (listed.getD l.q false) a w
theorem line_zero {l : Line} {listed : Array Bool} {a : Act} {w : World} (h0 : l.S 0 false a w) (h : ∀ i, listed.getD i false = false) : LineJ l listed a w :=
  ⟨0, Nat.zero_le _, fun i c _ => by rw [h]; simp, by rw [h]; exact h0⟩
theorem line_end {l : Line} {listed : Array Bool} {a : Act} {w : World} {n : Nat} (hall : ∀ i, i < n → listed.getD i false = true) (hC : ∀ c ∈ l.C, c < n) (hJ : LineJ l listed a w) : ∃ b, (l.q < n → b = true) ∧ l.S l.C.length b a w := by
  obtain ⟨k, hk, hl, hS⟩ := hJ
  have e : k = l.C.length := by
    by_cases h : k < l.C.length
    · have h1 := hl k l.C[k] (List.getElem?_eq_getElem h)
      rw [hall _ (hC _ (List.getElem_mem h))] at h1
      simp at h1
    · omega
  subst e
  exact ⟨_, fun h => hall _ h, hS⟩
section
variable {R : Way} {l : Line} {P : Program} {ops : Array Oper} {Q : Exit → Act → World → Prop} {T : List (SP R)} {a0 : Act} {W : World} {j : Nat} {o : Oper} {s : List (Tmp × Option Nat)}
/-- an operation that is none of these -/
theorem oblL_ord (hj : j ∉ l.C ∧ j ≠ l.q) (hR : ∀ w w', R.rel W w → Below w.heap.size w w' → R.rel w w') (hst : ∀ k b a w v w', l.S k b a w → Below w.heap.size w w' → l.S k b (a.put o.dst v) w')
    (h : ∀ a w, R.rel W w → sights T a0 a w s → (Region.wanted o (yielded ops a.tmps) = true → o.wp P a w (DoneB T j o a w) Q) ∧ (Region.wanted o (yielded ops a.tmps) = false → predAt T j undef w)) : OblJ P ops Q T (LineJ l) a0 W j o s := by
  intro listed a w hx hs _ _ hun hwt hJ
  obtain ⟨h1, h2⟩ := h a w hx hs
  have key : ∀ v w', Below w.heap.size w w' → LineJ l (listed.setIfInBounds j true) (a.put o.dst v) w' := fun v w' hb => by
    obtain ⟨k, hk, hl, hS⟩ := hJ
    refine ⟨k, hk, fun i c hc => ?_, ?_⟩
    · rw [getD_set_ne false (fun e => hj.1 (by rw [e]; exact List.mem_of_getElem? hc))]
      exact hl i c hc
    · rw [getD_set_ne false hj.2]
      exact hst k _ a w v w' hS hb
  refine ⟨fun hw => Oper.wp_mono (fun a' w' ⟨v, e, hz, hp, hb⟩ => ?_) (h1 hw), fun hw => ⟨h2 hw, key _ _ (bsame w)⟩⟩
  subst e
  exact ⟨⟨v, rfl, hz, hp, hR w w' hx hb⟩, key v w' hb⟩
/-- one of the line -/
theorem oblL_line {k : Nat} (hg : o.guard = none) (hc : l.C[k]? = some j) (hnd : l.C.Nodup) (hq : j ≠ l.q) (hjl : j < ops.size) (hw : k = 0 ∨ ∃ c, l.C[k - 1]? = some c ∧ waits ops j c = true)
    (h : ∀ b a w, R.rel W w → sights T a0 a w s → a.tmps.size = a0.tmps.size → (waits ops j l.q = true → b = true) → l.S k b a w → o.wp P a w (fun a' w' => Done T j o a w a' w' ∧ l.S (k + 1) b a' w') Q) : OblJ P ops Q T (LineJ l) a0 W j o s := by
  intro listed a w hx hs hls has hun hwt hJ
  obtain ⟨k', hk', hl, hS⟩ := hJ
  have h1 := hl k j hc
  rw [getD_ft hun] at h1
  have hle : k' ≤ k := by
    have : ¬ k < k' := by simpa using h1.symm
    omega
  have he : k' = k := by
    rcases hw with rfl | ⟨c, h2, h3⟩
    · omega
    · have h4 := hl _ c h2
      rw [hwt c h3] at h4
      have : k - 1 < k' := by simpa using h4.symm
      omega
  subst he
  have hlt := (List.getElem?_eq_some_iff.1 hc).1
  refine free hg (Oper.wp_mono (fun a' w' ⟨h5, h6⟩ => ⟨h5, k' + 1, hlt, fun i c hi => ?_, ?_⟩) (h _ a w hx hs has (fun hw => hwt _ hw) hS))
  · by_cases e : i = k'
    · subst e
      rw [hc] at hi
      cases hi
      rw [getD_set_self (by omega)]
      simp
    · have hne : j ≠ c := fun e2 => e (by
        subst e2
        have g1 := (List.getElem?_eq_some_iff.1 hi).1
        have g3 := (List.getElem?_eq_some_iff.1 hi).2.trans (List.getElem?_eq_some_iff.1 hc).2.symm
        have g4 := List.pairwise_iff_getElem.1 hnd
        rcases Nat.lt_or_gt_of_ne e with e4 | e4
        · exact absurd g3 (g4 i k' g1 hlt e4)
        · exact absurd g3.symm (g4 k' i hlt g1 e4))
      rw [getD_set_ne false hne, hl i c hi]
      by_cases h7 : i < k'
      · simp [h7]; omega
      · simp [h7]; omega
  · rw [getD_set_ne false hq]
    exact h6
/-- the one beside them -/
theorem oblL_side (hg : o.guard = none) (hj : j = l.q) (hn : j ∉ l.C) (hjl : j < ops.size)
    (h : ∀ k a w, R.rel W w → sights T a0 a w s → a.tmps.size = a0.tmps.size → l.S k false a w → o.wp P a w (fun a' w' => Done T j o a w a' w' ∧ l.S k true a' w') Q) : OblJ P ops Q T (LineJ l) a0 W j o s := by
  intro listed a w hx hs hls has hun hwt hJ
  obtain ⟨k, hk, hl, hS⟩ := hJ
  have hf : listed.getD l.q false = false := by rw [← hj]; exact getD_ft hun
  rw [hf] at hS
  refine free hg (Oper.wp_mono (fun a' w' ⟨h5, h6⟩ => ⟨h5, k, hk, fun i c hi => ?_, ?_⟩) (h k a w hx hs has hS))
  · rw [getD_set_ne false (fun e => hn (by rw [e]; exact List.mem_of_getElem? hi))]
    exact hl i c hi
  · rw [← hj, getD_set_self (by omega)]
    exact h6
end
end Reg
end Go.Proofs.YtpdfnlhhnodnjaaGreat
end
