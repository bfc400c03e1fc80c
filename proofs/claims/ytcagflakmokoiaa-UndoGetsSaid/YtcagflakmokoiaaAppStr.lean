/-
  An append of a text onto bytes of the call's own.
-/
import Derived.Test.YtcagflakmokoiaaApp
import Derived.Lib.AppendStr
namespace Go.Proofs.Ytcagflakmokoiaa
open Go.RowKit

theorem Own.appStr {w : World} {base n c : Nat} {A : Option Addr} {l : List UInt8} (h : Own w base A n c l) (s : ByteArray) (hn : n + s.size ≤ 140737488355328) (hb : base ≤ w.heap.size) :
    ∃ A' c' w', (appSem #[22, 9] 22 #[.slice A n c, .string s]).run Try.prog w = .ok (.slice A' (n + s.size) c') w' ∧ Own w' base A' (n + s.size) c' (l ++ s.data.toList) ∧ Below base w w' := by
  obtain ⟨i0, hi, hz0, hz1, hz2⟩ := info_parts Be.infoU8
  obtain ⟨v', w', happ, hown, hgrow, _⟩ := Lib.run_append_own_string (P := Try.prog) w base 22 9 22 5 i0 Try.underlying22 Try.underlying9 hi hz0 hz1 hz2 (.slice A n c) n (l.map byteV) h s (by unfold maxLen; omega) hn hb
  obtain ⟨A', c', rfl⟩ := own_slice hown
  have hm : (l ++ s.data.toList).map byteV = l.map byteV ++ Lib.strCells s := by rw [List.map_append]; rfl
  refine ⟨A', c', w', happ, ?_, (Below.refl _ w).grown hgrow hb (own_block h)⟩
  unfold Own
  rw [hm]
  exact hown
end Go.Proofs.Ytcagflakmokoiaa
