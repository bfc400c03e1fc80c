/-
  key.Sort: the texts in order, each once.
-/
import Derived.Test.YtcagflakmokoiaaKeyS
import Derived.Test.YtcagflakmokoiaaPSort
import Derived.Test.YtcagflakmokoiaaLayS
import Derived.Test.YtcagflakmokoiaaBytes
import Derived.Sort.OwnSorted
import Derived.Lib.OwnBridge
import Derived.Deep.OwnRows
import Derived.Lib.RowBridge
namespace Go.Proofs.Ytcagflakmokoiaa.KeyS
open Go.RowKit Go.Shelf Go.Sort
set_option linter.unusedVariables false
/-- a list of bytes as a text -/
def txt (l : List UInt8) : ByteArray := ⟨l.toArray⟩
def txts (l : List (List UInt8)) : List ByteArray := l.map txt
def raw (l : List ByteArray) : List (List UInt8) := l.map (·.data.toList)
theorem raw_txts (l : List (List UInt8)) : raw (txts l) = l := by
  simp [raw, txts, txt, Function.comp_def]
theorem txts_raw (l : List ByteArray) : txts (raw l) = l := by
  simp [raw, txts, txt, Function.comp_def]
theorem raw_length (l : List ByteArray) : (raw l).length = l.length := by simp [raw]
def sort (l : List ByteArray) : List ByteArray := txts (SortP.sort (raw l))
theorem sort_sort (l : List ByteArray) : sort (sort l) = sort l := by
  unfold sort
  rw [raw_txts, SortP.sort_sort]
def strV (s : ByteArray) : Value := .string s
theorem strV_one (l : List ByteArray) : ∀ v ∈ l.map strV, v.oneCell' = true := by
  intro v hv
  obtain ⟨s, _, rfl⟩ := List.mem_map.1 hv
  rfl
def zerosS (n : Nat) : List Value := List.replicate n (.string ByteArray.empty)
theorem infoS : (Try.prog.info? 9).map (fun i => (i.zero, i.size, i.bytes)) = some (some (.string ByteArray.empty), 1, 16) := by kernel_rfl
theorem sizeS : (Try.prog.info? 9).map (·.size) = some 1 := by kernel_rfl
theorem run_make_s (n : Nat) (hb : n ≤ 1000000) (w : World) :
    (Instr.makeSlice 73 (.int .i64 (n : Int)) (.int .i64 (n : Int))).run Try.prog w = .ok (.slice (some ⟨w.heap.size, 0, none⟩) n n) (w.alloc (.cells (zerosS n).toArray 9)) := by
  have hr := run_make_row' (P := Try.prog) 73 9 (.string ByteArray.empty) 16 Try.underlying73 infoS rfl .i64 .i64 n (by omega) (by omega) w
  rw [hr]
  have e : madeCells #[.string ByteArray.empty] n = (zerosS n).toArray := by
    apply Array.ext
    · simp [size_madeCells, zerosS]
    · intro i h1 h2
      simp [madeCells, zerosS, Nat.mod_one]
  rw [e]
/-- a block of texts, whole -/
theorem holds_block {w : World} {g : Nat} {l : List ByteArray} {t : TypeId} (h : w.heap[g]? = some (.cells (l.map strV).toArray t (0, 0))) : Holds encStr w g 0 (raw l).toArray := by
  intro j hj
  have hj' : j < l.length := by simpa [raw] using hj
  have e : (raw l).toArray[j]! = l[j].data.toList := by
    rw [getElem!_pos _ j hj]; simp [raw]
  rw [e]
  constructor
  · simp [World.cell?, h, strV, encStr, hj']
  · simp [World.frozen?, h]
theorem strs_holds {w : World} {g c : Nat} {d : List (List UInt8)} (k : Nat) (hk : k ≤ d.length) (hkc : k ≤ c) (hc : c ≤ maxLen) (hg : g < w.heap.size) (hs : ∀ s ∈ d, s.length ≤ maxLen) (h : Holds encStr w g 0 d.toArray) : Strs w w.heap.size (some ⟨g, 0, none⟩) k c (txts (d.take k)) := by
  refine ⟨by simp [txts]; omega, hkc, hc, ?_, fun _ => ⟨g, 0, rfl, hg, fun j u hu => ?_⟩⟩
  · intro s hs'
    obtain ⟨x, hx, rfl⟩ := List.mem_map.1 hs'
    have := hs x (List.mem_of_mem_take hx)
    simpa [txt, ByteArray.size] using this
  · simp only [txts, List.getElem?_map, List.getElem?_take] at hu
    split at hu
    · rename_i hjk
      have hj : j < d.length := by omega
      rw [List.getElem?_eq_getElem hj] at hu
      simp only [Option.map_some, Option.some.injEq] at hu
      subst hu
      have := (h j (by simpa using hj)).1
      rw [getElem!_pos _ j (by simpa using hj)] at this
      simpa [encStr, txt] using this
    · simp at hu
set_option maxRecDepth 100000 in
set_option maxHeartbeats 1000000 in
theorem sort_any (A : Option Addr) (n c B : Nat) (l : List ByteArray) (w : World) (h : Strs w B A n c l) (hB : B ≤ w.heap.size) (hn : n ≤ 1000) :
    Calls Try.prog 53 #[.slice A n c] w fun e w' => ∃ g, e = .returned (.slice (some ⟨g, 0, none⟩) (sort l).length n) ∧ Strs w' w'.heap.size (some ⟨g, 0, none⟩) (sort l).length n (sort l) ∧ Below w.heap.size w w' := by
  have hlen := h.1
  have hmk := fun W => run_make_s n (by omega) W
  obtain ⟨w1, hcp, hrow, hg⟩ := run_copy_to (P := Try.prog) (w := w.alloc (.cells (zerosS n).toArray 9)) 73 73 3 9 Try.underlying73 sizeS (some ⟨w.heap.size, 0, none⟩) n n w.heap.size 0 (zerosS n) 9 (heap_alloc_new w _) A n c (l.map strV) (by simp [hlen])
    (fun h0 => ⟨rfl, by
      obtain ⟨b, o, e, hb, hc⟩ := h.2.2.2.2 (by simpa [hlen] using h0)
      refine ⟨_, e, fun j v hv => ?_⟩
      simp only [List.getElem?_map, Option.map_eq_some_iff] at hv
      obtain ⟨u, hu, rfl⟩ := hv
      rw [add_none, (balloc (bsame w) _).cell (show b < w.heap.size by omega)]
      exact hc j u hu⟩) (by simp [zerosS, hlen]) (strV_one l)
  have hsp : splice (zerosS n) 0 (l.map strV) = l.map strV := by simp [splice, zerosS, hlen]
  rw [hsp] at hrow
  have hb1 : Below w.heap.size w w1 := (balloc (bsame w) _).grown hg (by simp) (fun k e => by cases e; exact Nat.le_refl _)
  have hgl : w.heap.size < w1.heap.size := (Array.getElem?_eq_some_iff.1 hrow).1
  have hH := holds_block hrow
  have hrl : (raw l).length = n := by rw [raw_length, hlen]
  have hso := Any.slices_Sort_string lays190 w.heap.size 0 n (raw l) w1 hH hgl (by omega)
  rw [hrl] at hso
  rw [show lays190_ren.f 190 = 105 from rfl] at hso
  have hm : ∀ s ∈ raw l, s.length ≤ maxLen := by
    intro s hs
    obtain ⟨x, hx, rfl⟩ := List.mem_map.1 hs
    have := h.2.2.2.1 x hx
    rw [Array.length_toList]
    exact this
  have X := Lib.hid (show Below w.heap.size w w1 ∧ w.heap.size < w1.heap.size ∧ Holds encStr w1 w.heap.size 0 (raw l).toArray ∧ (raw l).length = n ∧ ∀ s ∈ raw l, s.length ≤ maxLen from ⟨hb1, hgl, hH, hrl, hm⟩)
  have hE : sort l = txts (Lib.compact ((raw l).mergeSort fun x y => decide (x ≤ y))) := rfl
  rw [hE]
  clear h hrow hg hb1 hH hE hm hrl hlen hsp
  generalize raw l = ss at *
  have HS : ∀ s ∈ Lib.compact (ss.mergeSort fun x y => decide (x ≤ y)), s ∈ ss := fun s hs => (SortP.sort_spec ss |>.2 s).1 hs
  have HS := Lib.hid HS
  go_enter Try.func53, Try.ntmps53
  go_wp2_with fail
  refine hso.mono ?_
  rintro e w2 ⟨rfl, nn, os, rfl⟩
  obtain ⟨hb1, hgl, hH, hrl, hm⟩ := X.out
  have hl2 : (ss.mergeSort fun x y => decide (x ≤ y)).length = n := by rw [List.length_mergeSort]; exact hrl
  have hH2 : Holds encStr (grow (putRow encStr (Sort.ahead w1 nn) w.heap.size 0 (ss.mergeSort fun x y => decide (x ≤ y)).toArray) os) w.heap.size 0 (ss.mergeSort fun x y => decide (x ≤ y)).toArray :=
    holds_grow encStr _ os w.heap.size 0 _ (by simpa [putRow, mapBlock, Sort.ahead] using hgl) (holds_putRow encStr _ w.heap.size 0 _ _ (holds_ahead encStr w1 nn w.heap.size 0 _ hH) (by simp))
  have hb2 : Below w.heap.size w (grow (putRow encStr (Sort.ahead w1 nn) w.heap.size 0 (ss.mergeSort fun x y => decide (x ≤ y)).toArray) os) := hb1.grown (grownBy_sorted _) hb1.size (fun j hj => by cases hj; exact Nat.le_refl _)
  have hg2 : w.heap.size < (grow (putRow encStr (Sort.ahead w1 nn) w.heap.size 0 (ss.mergeSort fun x y => decide (x ≤ y)).toArray) os).heap.size := by simp [grow, putRow, mapBlock, Sort.ahead]; omega
  generalize grow (putRow encStr (Sort.ahead w1 nn) w.heap.size 0 (ss.mergeSort fun x y => decide (x ≤ y)).toArray) os = w2 at *
  have hcomp := Any.slices_Compact_string lays194 w.heap.size 0 n (ss.mergeSort fun x y => decide (x ≤ y)) w2 hH2 (by omega) (by omega)
  have hle := Lib.compact_length_le (ss.mergeSort fun x y => decide (x ≤ y))
  rw [hl2] at hcomp hle
  rw [show lays194_ren.f 194 = 106 from rfl] at hcomp
  clear hso hmk hcp
  have X2 := Lib.hid (show Holds encStr w2 w.heap.size 0 (ss.mergeSort fun x y => decide (x ≤ y)).toArray ∧ Below w.heap.size w w2 ∧ w.heap.size < w2.heap.size ∧ (ss.mergeSort fun x y => decide (x ≤ y)).length = n ∧ ∀ s ∈ ss, s.length ≤ maxLen from ⟨hH2, hb2, hg2, hl2, hm⟩)
  clear hH2 hb2 hg2 hl2 hm hb1 hgl hH hrl X
  generalize hms : ss.mergeSort (fun x y => decide (x ≤ y)) = ms at *
  generalize hcs : Lib.compact ms = cs at *
  have HM := Lib.hid hms
  have HC := Lib.hid hcs
  clear hms hcs
  go_wp2_with fail
  refine hcomp.mono ?_
  rintro e w3 ⟨rfl, q, rfl⟩
  obtain ⟨hH2, hb2, hg2, hl2, hm⟩ := X2.out
  have hH3 := holds_putRow encStr (Sort.ahead w2 q) w.heap.size 0 ms.toArray (cs ++ List.replicate (n - cs.length) []).toArray (holds_ahead encStr w2 q w.heap.size 0 _ hH2) (by simp; omega)
  have hb3 := Lib.below_putRow (enc := encStr) (q := q) (d := (cs ++ List.replicate (n - cs.length) []).toArray) hb2 (Nat.le_refl w.heap.size)
  have hg3 : w.heap.size < (putRow encStr (Sort.ahead w2 q) w.heap.size 0 (cs ++ List.replicate (n - cs.length) []).toArray).heap.size := by simpa [putRow, mapBlock, Sort.ahead] using hg2
  have hS := strs_holds (c := n) cs.length (by simp) hle (by unfold maxLen; omega) hg3 (by
    intro s hs
    rcases List.mem_append.1 hs with hs | hs
    · exact hm s (HS.out s hs)
    · rw [(List.mem_replicate.1 hs).2]; simp) hH3
  rw [List.take_left] at hS
  have X3 := Lib.hid (And.intro hS hb3)
  clear hS hb3 hH3 hg3 hH2 hb2 hg2 hm hcomp X2
  generalize putRow encStr (Sort.ahead w2 q) w.heap.size 0 (cs ++ List.replicate (n - cs.length) []).toArray = w3 at *
  go_wp2
  go_ret
  have e : (txts cs).length = cs.length := by simp [txts]
  rw [HM.out, HC.out, e]
  exact ⟨w.heap.size, rfl, X3.out⟩
end Go.Proofs.Ytcagflakmokoiaa.KeyS
