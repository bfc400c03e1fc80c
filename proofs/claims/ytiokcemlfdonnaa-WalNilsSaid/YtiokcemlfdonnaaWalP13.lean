/-
  Parts of the proof of WalNils.
-/
import Derived.Test.YtiokcemlfdonnaaWalP12
import Derived.Test.YtiokcemlfdonnaaWalP10
import Derived.Test.YtiokcemlfdonnaaWalP1
import Derived.Lib.Overlaps
import Derived.Test.YtiokcemlfdonnaaWalP2
import Derived.Test.YtiokcemlfdonnaaWalP0
section
namespace Go.Proofs.Ytiokcemlfdonnaa
open Go.RowKit Go.Maps
set_option linter.unusedVariables false
set_option linter.unusedSimpArgs false
namespace DevP
def op (X : DevX) (fits : Bool) (X1 : DevX) : DevX := if err X fits = 0 then done X1 else stop X fits
theorem err_zero {X : DevX} {fits : Bool} (h : err X fits = 0) : X.off = false ∧ fits = true ∧ (X.fused = true → X.fuse ≠ 0) := by
  unfold err at h
  cases ho : X.off with
  | true => simp [ho] at h
  | false =>
    cases fits with
    | false => simp [ho] at h
    | true =>
      refine ⟨rfl, rfl, fun hf h0 => ?_⟩
      simp [ho, hf, h0] at h
end DevP
namespace DevW
variable {d sb mb : Nat} {bp bs : List Nat} {gb : Option Nat} {A : Option Addr} {n c nm : Nat} {es : List (Int × SlV)} {X : DevX}
def Did (w : World) (d : Nat) (bs js : List Nat) (X : DevX) (fits : Bool) (X1 : DevX) (E : World → Prop) (e : Ending) (w' : World) : Prop :=
  e = .returned (.int .i64 (DevP.err X fits)) ∧ ∃ bs', Dev w' d bs' (DevP.op X fits X1) ∧ (∀ b ∈ bs', b ∈ bs ∨ w.heap.size ≤ b) ∧ Reg.KeepB w.heap.size (js ++ bs) w w' ∧ (DevP.err X fits = 0 → E w') ∧ (DevP.err X fits ≠ 0 → Reg.KeepB w.heap.size bs w w')
theorem do_any (fn : FuncId) (first : Array Value) (E : World → Prop) (js : List Nat) (fits : Bool) (w : World) (X1 : DevX) (hD : Dev w d bs X) (hs : X.ops ≤ 1000000000) (hj : ∀ b ∈ js, b < w.heap.size)
    (hE : ∀ W1 W2 : World, W1.grownBy W2 (some d) → E W1 → E W2) (h1 : X1.fused = X.fused) (h2 : X1.fuse = X.fuse) (h3 : X1.ops = X.ops)
    (hce : ∀ W : World, (callFunc fn first).run Try.prog W = .ok (.enter fn first) W)
    (hact : fits = true → ∀ W, Below w.heap.size w W → Calls Try.prog fn first W (Acts W d bs js X1 E)) :
    Calls Try.prog 97 #[.pointer (some ⟨d, 0, none⟩), .bool fits, .func (.func fn) first #[]] w (Did w d bs js X fits X1 E) := by
  by_cases he : DevP.err X fits = 0
  · obtain ⟨e1, rfl, e3⟩ := DevP.err_zero he
    refine (do_ok fn first E js w X1 hD hs e1 e3 hj hE h1 h2 h3 hce (hact rfl)).mono ?_
    rintro e w' ⟨rfl, bs', k1, k2, k3, k4⟩
    refine ⟨by rw [he], bs', ?_, k3, k2, fun _ => k4, fun hn => absurd he hn⟩
    unfold DevP.op
    rw [if_pos he]
    exact k1
  · refine (do_stop fits _ w hD he).mono ?_
    rintro e w' ⟨rfl, k1, k2⟩
    refine ⟨rfl, bs, ?_, fun b hb => .inl hb, k2.more (fun b hb => List.mem_append.2 (.inr hb)), fun h => absurd h he, fun _ => k2⟩
    unfold DevP.op
    rw [if_neg he]
    exact k1
/-- a device's method has told r -/
def Told (w : World) (d : Nat) (bs : List Nat) (X : DevX) (r : Value) (e : Ending) (w' : World) : Prop :=
  e = .returned r ∧ ∃ bs', Dev w' d bs' X ∧ (∀ b ∈ bs', b ∈ bs ∨ w.heap.size ≤ b) ∧ Reg.KeepB w.heap.size bs w w'
/-- what a call that began later has kept, of what was there before -/
theorem keep_since {w W1 w' : World} {js bs : List Nat} (h1 : Below w.heap.size w W1) (h2 : Reg.KeepB W1.heap.size (js ++ bs) W1 w') (hj : ∀ b ∈ js, w.heap.size ≤ b) : Reg.KeepB w.heap.size bs w w' :=
  ⟨h2.os.trans h1.os, h2.tape.trans h1.tape, h2.output.trans h1.output, Nat.le_trans h1.size h2.size, fun i hi hb => (h2.block i (Nat.lt_of_lt_of_le hi h1.size) (fun hm => by
    rcases List.mem_append.1 hm with hm | hm
    · have := hj i hm; omega
    · exact hb hm)).trans (h1.block i hi)⟩
theorem Did.told {w W1 w' : World} {js : List Nat} {fits : Bool} {X1 : DevX} {E : World → Prop} {e : Ending} (h : Did W1 d bs js X fits X1 E e w') (h1 : Below w.heap.size w W1) (hj : ∀ b ∈ js, w.heap.size ≤ b) : Told w d bs (DevP.op X fits X1) (.int .i64 (DevP.err X fits)) e w' := by
  obtain ⟨rfl, bs', k1, k2, k3, -⟩ := h
  exact ⟨rfl, bs', k1, fun b hb => (k2 b hb).imp id fun h => Nat.le_trans h1.size h, keep_since h1 k3 hj⟩
attribute [local go_sem ↓] alJob_fold bdJob_fold stJob_fold
set_option maxRecDepth 100000 in
set_option maxHeartbeats 1000000 in
theorem Cut_any (no : Int) (w : World) (hD : Dev w d bs X) (hs : DevP.Small X) :
    Calls Try.prog 62 #[.pointer (some ⟨d, 0, none⟩), .int .i64 no] w (Told w d bs (DevP.op X (decide (X.head ≤ no) && decide (no ≤ X.head + (X.log.length : Nat))) { X with log := X.log.take (no - X.head).toNat, sure := min X.sure no }) (.int .i64 (DevP.err X (decide (X.head ≤ no) && decide (no ≤ X.head + (X.log.length : Nat)))))) := by
  have hmf : ∀ (fn : Fn) (first cap : Array Value) (w : World), (Instr.makeFunc fn first cap).run Try.prog w = .ok (.func fn first cap) w := fun _ _ _ _ => rfl
  have hz512 : (SlotP.zeros 512).length = 512 := List.length_replicate
  have hal := job_al
  have hbd := fun W => job_bd2 d no W
  have hst := job_st (d := d) (n := no) (l := SlotP.zeros 512) (A := none) (m := 0) (c := 0) (Str.new w jobZ 138) hz512
  obtain ⟨W1, hW1⟩ : ∃ W, (w.alloc (.cells jobZ 138)).setRow w.heap.size (jobC d no (SlotP.zeros 512) (.slice none 0 0)) = W := ⟨_, rfl⟩
  rw [hW1] at hst
  have hJ1 : Str W1 w.heap.size (jobC d no (SlotP.zeros 512) (.slice none 0 0)) := by rw [← hW1]; exact (Str.new _ _ _).setRow
  have hb1 : Below w.heap.size w W1 := by rw [← hW1]; exact below_setRow (balloc (bsame _) _) (Nat.le_refl _) _
  have hD1 := hD.below hb1
  have hj : w.heap.size ∉ bs := fun hm => by have := hD.lt _ hm; omega
  have HJ1 := Lib.hid hJ1
  have HB1 := Lib.hid hb1
  have HD1 := Lib.hid hD1
  have HJN := Lib.hid hj
  clear hW1 hJ1 hb1 hD1 hj
  obtain ⟨fits, hfits⟩ : ∃ f, (decide (X.head ≤ no) && decide (no ≤ X.head + (X.log.length : Nat))) = f := ⟨_, rfl⟩
  rw [hfits]
  have HFI := Lib.hid hfits
  clear hfits
  go_enter Try.func62, Try.ntmps62
  go_wp2_with fail
  refine (spans_any no W1 HD1.out hs).mono ?_
  rintro e W2 ⟨rfl, hb2⟩
  rw [HFI.out]
  have hd2 := HD1.out.below hb2
  have hJ2 := HJ1.out.next hb2
  have hjl := hJ2.lt
  have hb3 := bstep HB1.out hb2
  clear hst hbd hal hb2
  go_wp2_with fail
  refine (do_any 103 #[.pointer (some ⟨w.heap.size, 0, none⟩)] (fun _ => True) [] fits W2 { X with log := X.log.take (no - X.head).toNat, sure := min X.sure no } hd2 hs.1 (by simp) (fun _ _ _ _ => trivial) rfl rfl rfl (fun _ => rfl) (fun hf W hb => ?_)).mono ?_
  · subst hf
    have hf := HFI.out
    simp only [Bool.and_eq_true, decide_eq_true_eq] at hf
    refine (cut_act w.heap.size no _ _ W (hJ2.next hb) hz512 (hd2.below hb) hs HJN.out hf.1 hf.2).mono ?_
    exact fun e w' h => h
  · rintro e w1 h
    have HT := Lib.hid (h.told hb3 (by simp))
    obtain ⟨rfl, -⟩ := h
    go_wp2
    go_ret
    exact HT.out
end DevW
end Go.Proofs.Ytiokcemlfdonnaa
end
section
namespace Go.Proofs.Ytiokcemlfdonnaa
open Go.RowKit
set_option linter.unusedVariables false
theorem cutA_zero (b o c s : Nat) : cutA (some ⟨b, o, none⟩) 0 c s = some ⟨b, o, none⟩ := by
  unfold cutA
  split
  · rfl
  · simp [add_none]
theorem cutA_pos {b o k c s : Nat} (h : c ≠ k) : cutA (some ⟨b, o, none⟩) k c s = some ⟨b, o + k * s, none⟩ := by
  unfold cutA
  rw [if_neg h]
  simp [add_none]
theorem cutA_some (b o k c s : Nat) : ∃ o', cutA (some ⟨b, o, none⟩) k c s = some ⟨b, o', none⟩ := by
  by_cases h : c = k
  · exact ⟨o, by unfold cutA; rw [if_pos h]⟩
  · exact ⟨_, cutA_pos h⟩
section
variable {α : Type} {E : El α} {T : TypeId} {w w' : World} {base n c : Nat} {A : Option Addr} {l : List α}
theorem OwnE.del {P : Program} (t ty : TypeId) (i : TypeInfo) (ht : P.underlying t = some (.slice T)) (hi : P.info? T = some i) (hs : i.size = E.size) (h : OwnE E T w base A n c l) (k : Nat) (hk : k < n) :
    ∃ g w1, A = some ⟨g, 0, none⟩ ∧ base ≤ g ∧ g < w.heap.size ∧ (appSem #[t, t] ty #[.slice (cutA A 0 c E.size) k c, .slice (cutA A (k + 1) c E.size) (n - (k + 1)) (c - (k + 1))]).run P w = .ok (.slice A (n - 1) c) w1 ∧ OwnE E T w1 base A (n - 1) c (l.eraseIdx k) ∧ w.grownBy w1 (some g) ∧ w1.heap.size = w.heap.size := by
  have hlen := h.len
  have hcap := h.elemsIn.cap
  obtain ⟨g, cur, vs, rfl, hg, hh, hnc, hm, hc, hx, hr, hvl⟩ := h.row (by omega)
  have hgl := (Array.getElem?_eq_some_iff.1 hh).1
  have hsz : 0 < E.size := E.pos
  have hall := hr.all
  have hnl : (vs.drop (k + 1)).flatten.length = (n - (k + 1)) * E.size := by rw [(hr.drop (k + 1)).flat (fun _ _ => E.len)]; simp [hlen]
  have hmul : k * E.size + (n - (k + 1)) * E.size = (n - 1) * E.size := by rw [← Nat.add_mul]; congr 1; omega
  have hle1 : (n - 1) * E.size ≤ c * E.size := Nat.mul_le_mul_right _ (by omega)
  have hkn : k * E.size ≤ n * E.size := Nat.mul_le_mul_right _ (by omega)
  obtain ⟨o', ho'⟩ := cutA_some g 0 (k + 1) c E.size
  have hsrc : ∀ j u, (vs.drop (k + 1)).flatten[j]? = some u → w.cell? ((⟨g, o', none⟩ : Addr).add j) = some u := by
    intro j u hu
    have hpos : 0 < (n - (k + 1)) * E.size := by rw [← hnl]; exact Nat.lt_of_le_of_lt (Nat.zero_le _) (List.getElem?_eq_some_iff.1 hu).1
    have hne : c ≠ k + 1 := by
      rintro rfl
      have : n - (k + 1) = 0 := by omega
      rw [this] at hpos; simp at hpos
    rw [cutA_pos hne] at ho'
    injection ho' with ho'
    injection ho' with _ ho' _
    rw [add_none, ← ho', Nat.zero_add]
    rw [flat_drop vs hall, List.getElem?_drop, ← hx, List.getElem?_take] at hu
    split at hu
    · simp only [World.cell?, hh]
      simpa using hu
    · cases hu
  have hrun := run_append_room (P := P) w t ty T i ht hi g k c cur hh ⟨g, o', none⟩ (n - (k + 1)) (c - (k + 1)) (vs.drop (k + 1)).flatten (by rw [hs]; exact hnl) hsrc (fun u hu => Rel2.one (hr.drop (k + 1)) u hu) (by omega) (by rw [hs, hnl, hmul, hc]; exact hle1)
  rw [hs, hnl, hmul, show k + (n - (k + 1)) = n - 1 by omega] at hrun
  refine ⟨g, _, rfl, hg, hgl, by rw [cutA_zero, ho']; exact hrun, ?_, grown_setRow w g _, sz_setRow _ _ _⟩
  have hrel : Rel2 (E.rel (hide w g) w.heap.size) (vs.eraseIdx k) (l.eraseIdx k) := by
    rw [List.eraseIdx_eq_take_drop_succ, List.eraseIdx_eq_take_drop_succ]
    exact Rel2.append (hr.drop (k + 1)) (hr.take k)
  have htk : (vs.take k).flatten = cur.toList.take (k * E.size) := by rw [flat_take vs hall, ← hx, List.take_take, Nat.min_eq_left hkn]
  have hcl : cur.toList.length = c * E.size := by simpa using hc
  refine OwnE.mk' (vs := vs.eraseIdx k) hg (setRow_heap w g _ _ T _ hh) (by omega) hm ?_ ?_ (hrel.imp fun _ _ hq => by rw [sz_setRow]; exact E.sub (hide_setRow _ _ _ _) hq) (by rw [List.length_eraseIdx_of_lt (by omega), hlen])
  · simp only [List.length_append, List.length_take, List.length_drop, hnl, hcl]
    omega
  · rw [List.eraseIdx_eq_take_drop_succ, List.flatten_append, htk, List.take_append_of_le_length (by simp only [List.length_append, List.length_take, hnl, hcl]; omega), List.take_of_length_le (by simp only [List.length_append, List.length_take, hnl, hcl]; omega)]
end
end Go.Proofs.Ytiokcemlfdonnaa
end
section
namespace Go.Proofs.Ytiokcemlfdonnaa
open Go.RowKit
set_option linter.unusedVariables false
theorem run_copy_k {P : Program} {w : World} (dT sT ty elem : TypeId) (size : Nat) (hu : P.underlying dT = some (.slice elem)) (hsz : (P.info? elem).map (·.size) = some size)
    {g off dLen dCap : Nat} {cur : Array Value} {t : TypeId} (hg : w.heap[g]? = some (.cells cur t (0, 0))) {a : Addr} {sLen sCap : Nat} {cs : List Value} (hn : cs.length = Nat.min sLen dLen * size)
    (hsrc : ∀ j v, cs[j]? = some v → w.cell? (a.add j) = some v) (hfit : off + cs.length ≤ cur.size) (h1 : ∀ v ∈ cs, v.oneCell' = true) :
    (cpSem #[dT, sT] ty #[.slice (some ⟨g, off, none⟩) dLen dCap, .slice (some a) sLen sCap]).run P w = .ok (.int .i64 (Nat.min sLen dLen : Nat)) (w.setRow g (overV cur.toList off cs).toArray) := by
  have hl := run_loadCells_list (P := P) w a cs hsrc
  have hst := run_storeCells_at P g off t cs 0 cur w hg (by simpa using hfit) h1
  simp only [Nat.add_zero] at hst
  have hov : cur.toList.take off ++ cs ++ cur.toList.drop (off + cs.length) = overV cur.toList off cs := by simp [overV]
  rw [hov] at hst
  cases hq : P.info? elem with
  | none => simp [hq] at hsz
  | some i =>
    have hi : i.size = size := by simpa [hq] using hsz
    simp [cpSem, Builtin.copy_, run_underlying hu, Builtin.lenOf, Builtin.firstCells, sizeOf, typeInfo, hq, hi, ← hn, hl, hst, goInt]
theorem over_mid (p m q s : List Value) (h : m.length = s.length) : overV (p ++ (m ++ q)) p.length s = p ++ (s ++ q) := by
  have := overV_shift p (m ++ q) s 0
  rw [Nat.add_zero] at this
  rw [this]
  unfold overV
  rw [List.take_zero, List.nil_append, Nat.zero_add, ← h, List.drop_left]
section
variable {α : Type} {E : El α} {T : TypeId} {w : World} {base n c : Nat} {A : Option Addr} {l : List α}
theorem OwnE.ins {P : Program} (t tn ty ti : TypeId) (i : TypeInfo) (z : Value) (bytes : Nat) (ht : P.underlying t = some (.slice T)) (htn : P.underlying tn = some (.int .i64)) (hi : P.info? T = some i) (hz : i.zero = some z) (hs : i.size = E.size) (hby : i.bytes = bytes) (hzs : z.cells.size = E.size)
    (h : OwnE E T w base A n c l) (k : Nat) (hk : k < n) (hc : c = n) (hn : n ≤ 100000) (hb8 : bytes ≤ 1000) {b o cv : Nat} {x : α} (hv : ElemsIn E (hid A w) w w.heap.size (some ⟨b, o, none⟩) 1 cv [x]) :
    ∃ cap wA wB wC, n + 1 ≤ cap ∧ cap ≤ maxLen ∧ (appSem #[t, tn] ty #[.slice (cutA A 0 c E.size) k c, .int .i64 ((n + 1 - k : Nat) : Int)]).run P w = .ok (.slice (some ⟨w.heap.size, 0, none⟩) (n + 1) cap) wA ∧
      (cpSem #[t, t] ti #[.slice (cutA (some ⟨w.heap.size, 0, none⟩) k cap E.size) (n + 1 - k) (cap - k), .slice (some ⟨b, o, none⟩) 1 cv]).run P wA = .ok (.int .i64 1) wB ∧
      (cpSem #[t, t] ti #[.slice (cutA (some ⟨w.heap.size, 0, none⟩) (k + 1) cap E.size) (n - k) (cap - (k + 1)), .slice (cutA A k c E.size) (n - k) (c - k)]).run P wB.drew = .ok (.int .i64 ((n - k : Nat) : Int)) wC ∧
      OwnE E T wC w.heap.size (some ⟨w.heap.size, 0, none⟩) (n + 1) cap (l.take k ++ x :: l.drop k) ∧ Below w.heap.size w wC ∧ wC.heap.size = w.heap.size + 1 := by
  subst hc
  have hlen := h.len
  obtain ⟨g, cur, vs, rfl, hg, hh, hnc, hm, hcs, hx, hr, hvl⟩ := h.row (by omega)
  have hgl := (Array.getElem?_eq_some_iff.1 hh).1
  have hall := hr.all
  have hsz : 0 < E.size := E.pos
  obtain ⟨vv, hrv, hlv, -, -, hxv⟩ := hv
  obtain ⟨b', o', e, hbl, hcv⟩ := hxv (by omega)
  cases e
  have hvv : vv.flatten.length = E.size := by rw [hrv.flat (fun _ _ => E.len)]; simp
  have hcell : ∀ m j u, (vs.drop m).flatten[j]? = some u → w.cell? ⟨g, m * E.size + j, none⟩ = some u := by
    intro m j u hu
    rw [flat_drop vs hall, List.getElem?_drop, ← hx, List.getElem?_take] at hu
    split at hu
    · simp only [World.cell?, hh]
      simpa using hu
    · cases hu
  have hol : (vs.take k).flatten.length = k * E.size := by rw [(hr.take k).flat (fun _ _ => E.len), List.length_take, hlen, Nat.min_eq_left (by omega)]
  have hdl : (vs.drop k).flatten.length = (c - k) * E.size := by rw [(hr.drop k).flat (fun _ _ => E.len)]; simp [hlen]
  have hold := run_firstCells_some (P := P) w.drew i.size k ⟨g, 0, none⟩ k c (vs.take k).flatten (by rw [hs]; exact hol) (by
    intro j u hu
    rw [add_none, Nat.zero_add]
    show w.cell? _ = _
    have := hcell 0 j u (by
      rw [List.drop_zero]
      rw [flat_take vs hall, List.getElem?_take] at hu
      split at hu
      · exact hu
      · cases hu)
    rwa [Nat.zero_mul, Nat.zero_add] at this)
  have happ := Lib.run_append_grow_zeros (P := P) w t tn ty T i z .i64 .i64 ht htn hi hz (some ⟨g, 0, none⟩) k c (vs.take k).flatten hold (c + 1 - k) (by omega) (by omega) (by omega) (by omega) (by rw [hby]; exact Nat.le_trans (Nat.mul_le_mul (show c + 1 - k ≤ 100001 by omega) hb8) (by decide)) (growslice_fits (by omega) (by rw [hby]; exact Nat.le_trans (Nat.mul_le_mul (show k + (c + 1 - k) ≤ 100001 by omega) hb8) (by decide)))
  rw [show k + (c + 1 - k) = c + 1 by omega] at happ
  have hge := grownCap_ge w (c + 1) c T
  have hle := grownCap_le_maxLen w (c + 1) c T (by unfold maxLen; omega)
  generalize grownCap w (c + 1) c T = cap at happ hge hle
  generalize hZ : Builtin.zeroCells z.cells (c + 1 - k) ++ Builtin.zeroCells z.cells (cap - (c + 1)) = Z at happ
  rw [Array.append_assoc, hZ] at happ
  have hZl : Z.toList.length = (cap - k) * E.size := by
    rw [← hZ]
    simp only [Array.toList_append, List.length_append, Array.length_toList, size_zeroCells, hzs]
    rw [← Nat.add_mul]; congr 1; omega
  obtain ⟨zl, hzl⟩ : ∃ zl, Z.toList = zl := ⟨_, rfl⟩
  rw [hzl] at hZl
  have hrow : (vs.take k).flatten.toArray ++ Z = ((vs.take k).flatten ++ zl).toArray := by rw [← hzl]; simp
  rw [hrow] at happ
  clear hrow hZ hzl
  -- the second part of the new row
  have hm1 : (cap - k) * E.size = E.size + ((c - k) * E.size + (cap - (c + 1)) * E.size) := by
    rw [show cap - k = 1 + ((c - k) + (cap - (c + 1))) by omega, Nat.add_mul, Nat.add_mul, Nat.one_mul]
  obtain ⟨z1, z2, z3, rfl, hz1, hz2, hz3⟩ : ∃ z1 z2 z3 : List Value, zl = z1 ++ (z2 ++ z3) ∧ z1.length = E.size ∧ z2.length = (c - k) * E.size ∧ z3.length = (cap - (c + 1)) * E.size :=
    ⟨zl.take E.size, (zl.drop E.size).take ((c - k) * E.size), (zl.drop E.size).drop ((c - k) * E.size), by rw [List.take_append_drop, List.take_append_drop], by simp; omega, by simp; omega, by simp; omega⟩
  have hkc : k * E.size + (cap - k) * E.size = cap * E.size := by rw [← Nat.add_mul]; congr 1; omega
  have hA : (w.drew.alloc (.cells ((vs.take k).flatten ++ (z1 ++ (z2 ++ z3))).toArray T)).heap[w.heap.size]? = some (.cells ((vs.take k).flatten ++ (z1 ++ (z2 ++ z3))).toArray T (0, 0)) := heap_alloc_new w.drew _
  generalize hwA : w.drew.alloc (.cells ((vs.take k).flatten ++ (z1 ++ (z2 ++ z3))).toArray T) = wA at happ hA
  have hbA : Below w.heap.size w wA := by rw [← hwA]; exact ((bsame w).drew).alloc (by simp) _
  have hzA : wA.heap.size = w.heap.size + 1 := by rw [← hwA]; simp
  have hcpB := run_copy_k (P := P) (w := wA) t t ti T E.size ht (by rw [hi]; simp [hs]) (g := w.heap.size) (off := k * E.size) (dLen := c + 1 - k) (dCap := cap - k) hA (a := ⟨b, o, none⟩) (sLen := 1) (sCap := cv) (cs := vv.flatten) (by rw [hvv, show Nat.min 1 (c + 1 - k) = 1 from Nat.min_eq_left (by omega), Nat.one_mul])
    (by intro j u hu; rw [add_none]; exact (hbA.cell (p := ⟨b, o + j, none⟩) hbl).trans (hcv j u hu)) (by simp only [List.size_toArray, List.length_append, hol, hz1, hvv]; omega) (Rel2.one hrv)
  rw [show Nat.min 1 (c + 1 - k) = 1 from Nat.min_eq_left (by omega)] at hcpB
  have eB : overV ((vs.take k).flatten ++ (z1 ++ (z2 ++ z3))) (k * E.size) vv.flatten = ((vs.take k).flatten ++ vv.flatten) ++ (z2 ++ z3) := by
    have := over_mid (vs.take k).flatten z1 (z2 ++ z3) vv.flatten (by rw [hz1, hvv])
    rw [hol] at this
    rw [this, List.append_assoc]
  rw [show (((vs.take k).flatten ++ (z1 ++ (z2 ++ z3))).toArray).toList = (vs.take k).flatten ++ (z1 ++ (z2 ++ z3)) from by simp, eB] at hcpB
  have hB := setRow_heap wA w.heap.size _ (((vs.take k).flatten ++ vv.flatten) ++ (z2 ++ z3)).toArray T _ hA
  have hbB : Below w.heap.size w (wA.setRow w.heap.size (((vs.take k).flatten ++ vv.flatten) ++ (z2 ++ z3)).toArray) := below_setRow hbA (Nat.le_refl _) _
  have hzB : (wA.setRow w.heap.size (((vs.take k).flatten ++ vv.flatten) ++ (z2 ++ z3)).toArray).heap.size = w.heap.size + 1 := (sz_setRow _ _ _).trans hzA
  generalize wA.setRow w.heap.size (((vs.take k).flatten ++ vv.flatten) ++ (z2 ++ z3)).toArray = wB at hcpB hB hbB hzB
  have hlp : ((vs.take k).flatten ++ vv.flatten).length = (k + 1) * E.size := by rw [List.length_append, hol, hvv, Nat.add_mul, Nat.one_mul]
  have hcpC := run_copy_k (P := P) (w := wB.drew) t t ti T E.size ht (by rw [hi]; simp [hs]) (g := w.heap.size) (off := (k + 1) * E.size) (dLen := c - k) (dCap := cap - (k + 1)) (cur := (((vs.take k).flatten ++ vv.flatten) ++ (z2 ++ z3)).toArray) hB (a := ⟨g, k * E.size, none⟩) (sLen := c - k) (sCap := c - k) (cs := (vs.drop k).flatten) (by rw [hdl, show Nat.min (c - k) (c - k) = c - k from Nat.min_self _])
    (by intro j u hu; rw [add_none]; exact (hbB.cell (p := ⟨g, k * E.size + j, none⟩) hgl).trans (hcell k j u hu)) (by
      have : (k + 1) * E.size + (c - k) * E.size ≤ (k + 1) * E.size + ((c - k) * E.size + z3.length) := by omega
      simp only [List.size_toArray, List.length_append, hz2, hdl] at *
      omega) (Rel2.one (hr.drop k))
  rw [show Nat.min (c - k) (c - k) = c - k from Nat.min_self _] at hcpC
  have eC : overV (((vs.take k).flatten ++ vv.flatten) ++ (z2 ++ z3)) ((k + 1) * E.size) (vs.drop k).flatten = ((vs.take k).flatten ++ vv.flatten) ++ ((vs.drop k).flatten ++ z3) := by
    have := over_mid ((vs.take k).flatten ++ vv.flatten) z2 z3 (vs.drop k).flatten (by rw [hz2, hdl])
    rw [hlp] at this
    exact this
  rw [show ((((vs.take k).flatten ++ vv.flatten) ++ (z2 ++ z3)).toArray).toList = ((vs.take k).flatten ++ vv.flatten) ++ (z2 ++ z3) from by simp, eC] at hcpC
  refine ⟨cap, wA, wB, _, hge, hle, by rw [cutA_zero]; exact happ, by rw [cutA_pos (by omega), Nat.zero_add]; exact hcpB, by rw [cutA_pos (by omega), cutA_pos (by omega), Nat.zero_add, Nat.zero_add]; exact hcpC, ?_, below_setRow (hbB.drew) (Nat.le_refl _) _, by rw [sz_setRow]; exact hzB⟩
  have hsubC : Sub w.heap.size (hide w g) (hide (wB.drew.setRow w.heap.size (((vs.take k).flatten ++ vv.flatten) ++ ((vs.drop k).flatten ++ z3)).toArray) w.heap.size) :=
    (sub_hide _ w g).trans ((sub_below (below_setRow (hbB.drew) (Nat.le_refl _) _)).trans (sub_hide_lt _ (Nat.le_refl _)))
  have hup : w.heap.size ≤ (wB.drew.setRow w.heap.size (((vs.take k).flatten ++ vv.flatten) ++ ((vs.drop k).flatten ++ z3)).toArray).heap.size := by rw [sz_setRow]; show _ ≤ wB.heap.size; omega
  have hrl : Rel2 (E.rel (hide w g) w.heap.size) (vs.take k ++ (vv ++ vs.drop k)) (l.take k ++ x :: l.drop k) := Rel2.append (Rel2.append (hr.drop k) hrv) (hr.take k)
  have hcl : (c + 1) * E.size = (k + 1) * E.size + (c - k) * E.size := by rw [← Nat.add_mul]; congr 1; omega
  have hcap2 : cap * E.size = (c + 1) * E.size + (cap - (c + 1)) * E.size := by rw [← Nat.add_mul]; congr 1; omega
  refine OwnE.mk' (vs := vs.take k ++ (vv ++ vs.drop k)) (Nat.le_refl _) (setRow_heap wB.drew w.heap.size _ _ T _ hB) hge hle ?_ ?_ (hrl.imp fun _ _ hq => E.more hup (E.sub hsubC hq)) (by simp [hlen]; omega)
  · rw [List.length_append, hlp, List.length_append, hdl, hz3, hcap2, hcl]; omega
  · rw [← List.append_assoc, List.take_append_of_le_length (by rw [List.length_append, hlp, hdl, hcl]; exact Nat.le_refl _), List.take_of_length_le (by rw [List.length_append, hlp, hdl, hcl]; exact Nat.le_refl _)]
    simp [List.append_assoc]
end
end Go.Proofs.Ytiokcemlfdonnaa
end
section
namespace Go.Proofs.Ytiokcemlfdonnaa
open Go.RowKit
set_option linter.unusedVariables false
section
variable {α : Type} {E : El α} {T : TypeId} {w : World} {base n c : Nat} {A : Option Addr} {l : List α}
end
end Go.Proofs.Ytiokcemlfdonnaa
end
section
namespace Go.Proofs.Ytiokcemlfdonnaa
open Go.RowKit
set_option linter.unusedVariables false
/-- whatever byte is read there is read here -/
def SubU (B : Nat) (w w' : World) : Prop := ∀ (p : Addr) (u : UInt8), p.block < B → w.cell? p = some (byteV u) → w'.cell? p = some (byteV u)
theorem Bytes.subU {w w' : World} {B n c : Nat} {A : Option Addr} {l : List UInt8} (h : Bytes w B A n c l) (hs : SubU B w w') : Bytes w' B A n c l :=
  ⟨h.1, h.2.1, h.2.2.1, fun hn => by
    obtain ⟨b, o, e, hb, hc⟩ := h.2.2.2 hn
    exact ⟨b, o, e, hb, fun j u hu => hs _ _ hb (hc j u hu)⟩⟩
/-- an element's words hang on bytes alone -/
def El.Byt {α : Type} (E : El α) : Prop := ∀ {w w' : World} {B : Nat} {vs : List Value} {x : α}, SubU B w w' → E.rel w B vs x → E.rel w' B vs x
theorem notU8_cell {w : World} {g : Nat} {cs : Array Value} (hs : Str w g cs) (hn : notU8 cs = true) (i : Nat) (u : UInt8) : w.cell? ⟨g, i, none⟩ ≠ some (byteV u) := by
  intro h
  rw [hs.cell] at h
  have hm : byteV u ∈ cs.toList := by rw [Array.mem_toList_iff]; exact Array.mem_of_getElem? h
  have := List.all_eq_true.1 hn _ hm
  simp [byteV] at this
theorem subU_grown {w w' : World} {g : Nat} {cs : Array Value} (A : Option Addr) (hs : Str w g cs) (hn : notU8 cs = true) (hg : w.grownBy w' (some g)) : SubU w.heap.size (hid A w) (hid A w') := by
  have key : ∀ (p : Addr) (u : UInt8), p.block < w.heap.size → w.cell? p = some (byteV u) → w'.cell? p = some (byteV u) := fun p u hp hv => by
    by_cases e : p.block = g
    · subst e
      obtain ⟨b, o, s⟩ := p
      have h0 : s = none := World.cell?_spot (w := w) (a := ⟨b, o, s⟩) hv
      subst h0
      exact absurd hv (notU8_cell hs hn o u)
    · exact (World.cell?_of_block (a := p) (hg.block p.block hp (by intro e2; injection e2 with e2; exact e e2))).trans hv
  cases A with
  | none => exact key
  | some a =>
    intro p u hp hv
    by_cases e : p.block = a.block
    · have : (hide w a.block).cell? p = none := by rw [← e]; exact hide_none w p
      change (hide w a.block).cell? p = _ at hv
      rw [this] at hv; cases hv
    · change (hide w a.block).cell? p = _ at hv
      rw [hide_other w a.block p e] at hv
      show (hide w' a.block).cell? p = _
      rw [hide_other w' a.block p e]
      exact key p u hp hv
theorem own_grown {w w' : World} {base : Nat} {e : TypeId} {size n g : Nat} {A : Option Addr} {c : Nat} {xs : List Value} (h : w.ownsRow base e size (.slice A n c) n xs) (hg : w.grownBy w' (some g)) (hne : ∀ a, A = some a → a.block ≠ g) : w'.ownsRow base e size (.slice A n c) n xs := by
  obtain ⟨h1, h2⟩ := h
  refine ⟨h1, ?_⟩
  rcases h2 with h2 | ⟨g', cap, cur, hv, hb, hh, r⟩
  · exact .inl h2
  · cases hv
    exact .inr ⟨g', c, cur, rfl, hb, (hg.block g' (Array.getElem?_eq_some_iff.1 hh).1 (by intro e2; injection e2 with e2; exact hne _ rfl e2)).trans hh, r⟩
section
variable {α : Type} {E : El α} {T : TypeId} {w w' : World} {base n c g : Nat} {A : Option Addr} {l : List α} {cs : Array Value}
/-- a block without bytes is written: the row stands -/
theorem OwnE.grownU (hE : E.Byt) (h : OwnE E T w base A n c l) (hs : Str w g cs) (hn : notU8 cs = true) (hg : w.grownBy w' (some g)) (hne : ∀ a, A = some a → a.block ≠ g) : OwnE E T w' base A n c l := by
  obtain ⟨vs, h1, h2⟩ := h
  exact ⟨vs, own_grown h1 hg hne, h2.imp fun _ _ hr => E.more hg.size (hE (subU_grown A hs hn hg) hr)⟩
end
theorem Str.grownO {w w' : World} {b : Nat} {cs : Array Value} {ob : Option Nat} (h : Str w b cs) (hg : w.grownBy w' ob) (hne : ob ≠ some b) : Str w' b cs := by
  have hl := h.lt
  obtain ⟨t, h⟩ := h
  exact ⟨t, (hg.block b hl (fun e => hne e.symm)).trans h⟩
theorem below_grownO {base : Nat} {w a b : World} {ob : Option Nat} (h : Below base w a) (hg : a.grownBy b ob) (hb : base ≤ a.heap.size) (hge : ∀ k, ob = some k → base ≤ k) : Below base w b := h.grown hg hb hge
end Go.Proofs.Ytiokcemlfdonnaa
end
section
namespace Go.Proofs.Ytiokcemlfdonnaa
open Go.RowKit
set_option linter.unusedVariables false
set_option linter.unusedSimpArgs false
/-- a number in a slice -/
def IntE : El Int where
  size := 1
  pos := by decide
  rel w B vs x := vs = [.int .i64 x]
  len := by rintro w B vs p rfl; rfl
  one := by rintro w B vs p rfl v hv; simp only [List.mem_singleton] at hv; subst hv; rfl
  sub := by rintro w w' B vs p hs h; exact h
  more := by rintro w B B' vs p hB h; exact h
theorem intE_flat {w : World} {B : Nat} : ∀ {vs : List (List Value)} {l : List Int}, Rel2 (IntE.rel w B) vs l → vs.flatten = l.map (Value.int .i64)
  | [], [], _ => rfl
  | [], _ :: _, h => h.elim
  | _ :: _, [], h => h.elim
  | v :: vs, x :: l, h => by
    have h1 : v = [.int .i64 x] := h.1
    rw [List.flatten_cons, h1, intE_flat h.2]
    rfl
theorem intE_rel (w : World) (B : Nat) : ∀ l : List Int, Rel2 (IntE.rel w B) (l.map fun x => [.int .i64 x]) l
  | [] => trivial
  | x :: l => ⟨rfl, intE_rel w B l⟩
theorem intE_map (l : List Int) : (l.map fun x => [Value.int .i64 x]).flatten = l.map (Value.int .i64) := by
  induction l with
  | nil => rfl
  | cons x l ih => rw [List.map_cons, List.flatten_cons, ih]; rfl
theorem IntE.own {w : World} {T : TypeId} {base n c : Nat} {A : Option Addr} {l : List Int} (h : OwnE IntE T w base A n c l) : w.ownsRow base T 1 (.slice A n c) n (l.map (Value.int .i64)) := by
  obtain ⟨vs, h1, h2⟩ := h
  rw [← intE_flat h2]
  exact h1
theorem IntE.mk' {w : World} {T : TypeId} {base n c : Nat} {A : Option Addr} {l : List Int} (h : w.ownsRow base T 1 (.slice A n c) n (l.map (Value.int .i64))) : OwnE IntE T w base A n c l :=
  ⟨l.map fun x => [.int .i64 x], by rw [intE_map]; exact h, intE_rel _ _ l⟩
theorem IntE.grown {w w' : World} {T : TypeId} {base n c g : Nat} {A : Option Addr} {l : List Int} (h : OwnE IntE T w base A n c l) (hg : w.grownBy w' (some g)) (hne : g < base) : OwnE IntE T w' base A n c l :=
  IntE.mk' (own_grown (IntE.own h) hg (fun a e => by have := h.ge a e; omega))
/-- a number typed out, as a source -/
theorem IntE.lit {w wr : World} {b : Nat} {x : Int} (hs : Str w b #[.int .i64 x]) : ElemsIn IntE wr w w.heap.size (some ⟨b, 0, none⟩) 1 1 [x] :=
  ⟨[[.int .i64 x]], ⟨rfl, trivial⟩, rfl, Nat.le_refl _, by unfold maxLen; omega, fun _ => ⟨b, 0, rfl, hs.lt, fun j v hv => by
    have hj : j = 0 := by have := (List.getElem?_eq_some_iff.1 hv).1; simp at this; omega
    subst hj
    simp at hv
    subst hv
    exact hs.cell 0⟩⟩
theorem infoI : (Try.prog.info? 3).map (fun i => (i.zero, i.size, i.bytes)) = some (some (.int .i64 0), 1, 8) := by kernel_rfl
end Go.Proofs.Ytiokcemlfdonnaa
end
section
namespace Go.Proofs.Ytiokcemlfdonnaa
open Go.RowKit Go.Maps
set_option linter.unusedVariables false
/-- a struct as a map's element -/
def recS : ElS (Array Value) where
  val cs := .agg cs
  inv v := match v with
    | .agg cs => some cs
    | _ => none
  inv_val _ := rfl
  val_inv := by
    intro v a h
    split at h
    · cases h; rfl
    · cases h
theorem own_at {w w' : World} {base : Nat} {e : TypeId} {size n c : Nat} {A : Option Addr} {xs : List Value} (h : w.ownsRow base e size (.slice A n c) n xs) (hb : ∀ a, A = some a → w'.heap[a.block]? = w.heap[a.block]?) : w'.ownsRow base e size (.slice A n c) n xs := by
  obtain ⟨h1, h2 | ⟨g, cap, cur, h3, h4, h5, h6⟩⟩ := h
  · exact ⟨h1, .inl h2⟩
  · refine ⟨h1, .inr ⟨g, cap, cur, h3, h4, ?_, h6⟩⟩
    cases h3
    exact (hb _ rfl).trans h5
theorem IntE.at_ {w w' : World} {T : TypeId} {base n c : Nat} {A : Option Addr} {l : List Int} (h : OwnE IntE T w base A n c l) (hb : ∀ a, A = some a → w'.heap[a.block]? = w.heap[a.block]?) : OwnE IntE T w' base A n c l :=
  IntE.mk' (own_at (IntE.own h) hb)
theorem IntE.lt {w : World} {T : TypeId} {base n c : Nat} {A : Option Addr} {l : List Int} (h : OwnE IntE T w base A n c l) : ∀ a, A = some a → a.block < w.heap.size := by
  obtain ⟨h1, ⟨h2, -⟩ | ⟨g, cap, cur, h3, h4, h5, h6⟩⟩ := IntE.own h
  · intro a e
    cases h2
    cases e
  · intro a e
    cases h3
    cases e
    exact (Array.getElem?_eq_some_iff.1 h5).1
namespace WalW
def logC (d mb : Nat) (A : Option Addr) (n c : Nat) (lim kept forced : Int) : Array Value := #[.pointer (some ⟨d, 0, none⟩), .int .i64 lim, .int .i64 kept, .int .i64 forced, .map (some mb), .slice A n c]
/-- a log in memory, all of its parts named -/
structure LogIn (w : World) (lb d mb nm : Nat) (A : Option Addr) (n c : Nat) (bs : List Nat) (X : DevX) (L : MapP.T Int (Array Value)) (lim kept forced : Int) (ps : List Int) : Prop where
  box : Str w lb (logC d mb A n c lim kept forced)
  dev : DevW.Dev w d bs X
  map : MapM Try.prog intK recS 3 w mb nm L
  row : OwnE IntE 3 w 0 A n c ps
  n1 : lb ≠ mb
  n2 : lb ∉ bs
  n3 : mb ∉ bs
  n4 : ∀ a, A = some a → a.block ≠ lb ∧ a.block ≠ mb ∧ a.block ∉ bs
section
variable {w w' : World} {lb d mb nm n c : Nat} {A : Option Addr} {bs : List Nat} {X : DevX} {L : MapP.T Int (Array Value)} {lim kept forced : Int} {ps : List Int}
theorem LogIn.next (h : LogIn w lb d mb nm A n c bs X L lim kept forced ps) (hb : Below w.heap.size w w') : LogIn w' lb d mb nm A n c bs X L lim kept forced ps :=
  ⟨h.box.next hb, h.dev.below hb, h.map.at_ (hb.block _ h.map.lt), h.row.next hb, h.n1, h.n2, h.n3, h.n4⟩
/-- the device has done something -/
theorem LogIn.told {X' : DevX} {bs' : List Nat} (h : LogIn w lb d mb nm A n c bs X L lim kept forced ps) (hD : DevW.Dev w' d bs' X') (hn : ∀ b ∈ bs', b ∈ bs ∨ w.heap.size ≤ b) (k : Reg.KeepB w.heap.size bs w w') : LogIn w' lb d mb nm A n c bs' X' L lim kept forced ps := by
  have hl := h.box.lt
  have hm := h.map.lt
  have hr := IntE.lt h.row
  refine ⟨h.box.keepB k h.n2, hD, h.map.at_ (k.block _ hm h.n3), IntE.at_ h.row (fun a e => k.block _ (hr a e) (h.n4 a e).2.2), h.n1, fun hb => ?_, fun hb => ?_, fun a e => ⟨(h.n4 a e).1, (h.n4 a e).2.1, fun hb => ?_⟩⟩
  · rcases hn _ hb with hb | hb
    · exact h.n2 hb
    · omega
  · rcases hn _ hb with hb | hb
    · exact h.n3 hb
    · omega
  · rcases hn _ hb with hb | hb
    · exact (h.n4 a e).2.2 hb
    · have := hr a e; omega
/-- a field of the box is set -/
theorem LogIn.turn {lim' kept' forced' : Int} (h : LogIn w lb d mb nm A n c bs X L lim kept forced ps) (hg : w.grownBy w' (some lb)) (hs : Str w' lb (logC d mb A n c lim' kept' forced')) : LogIn w' lb d mb nm A n c bs X L lim' kept' forced' ps :=
  ⟨hs, h.dev.grown hg h.n2, h.map.at_ (hg.block _ h.map.lt (fun e => by injection e with e; exact h.n1 e.symm)), IntE.at_ h.row (fun a e => hg.block _ (IntE.lt h.row a e) (fun e2 => by injection e2 with e2; exact (h.n4 a e).1 e2)), h.n1, h.n2, h.n3, h.n4⟩
/-- a record is kept by its place -/
theorem LogIn.keep {nm' : Nat} {L' : MapP.T Int (Array Value)} (h : LogIn w lb d mb nm A n c bs X L lim kept forced ps) (hg : w.grownBy w' (some mb)) (hm : MapM Try.prog intK recS 3 w' mb nm' L') : LogIn w' lb d mb nm' A n c bs X L' lim kept forced ps :=
  ⟨h.box.grown hg (fun e => h.n1 e), h.dev.grown hg h.n3, hm, IntE.at_ h.row (fun a e => hg.block _ (IntE.lt h.row a e) (fun e2 => by injection e2 with e2; exact (h.n4 a e).2.1 e2)), h.n1, h.n2, h.n3, h.n4⟩
end
end WalW
end Go.Proofs.Ytiokcemlfdonnaa
end
section
namespace Go.Proofs.Ytiokcemlfdonnaa.WalW
open Go.RowKit Go.Maps
set_option linter.unusedVariables false
set_option linter.unusedSimpArgs false
theorem strL {w : World} {b : Nat} {c0 c1 c2 c3 c4 c5 : Value} (h : Str w b #[c0, c1, c2, c3, c4, c5]) :
    w.cell? ⟨b, 0, none⟩ = some c0 ∧ w.cell? ⟨b, 1, none⟩ = some c1 ∧ w.cell? ⟨b, 2, none⟩ = some c2 ∧ w.cell? ⟨b, 3, none⟩ = some c3 ∧ w.cell? ⟨b, 4, none⟩ = some c4 ∧ w.cell? ⟨b, 5, none⟩ = some c5 :=
  ⟨by simpa using h.cell 0, by simpa using h.cell 1, by simpa using h.cell 2, by simpa using h.cell 3, by simpa using h.cell 4, by simpa using h.cell 5⟩
section
variable {lb d mb nm n c : Nat} {A : Option Addr} {bs : List Nat} {X : DevX} {L : MapP.T Int (Array Value)} {lim kept forced : Int} {ps : List Int}
set_option maxRecDepth 100000 in
set_option maxHeartbeats 1000000 in
theorem head_any (w : World) (h : LogIn w lb d mb nm A n c bs X L lim kept forced ps)  :
    Calls Try.prog 27 #[.pointer (some ⟨lb, 0, none⟩)] w fun e w' => e = .returned (.int .i64 (X.head)) ∧ Below w.heap.size w w' := by
  have HB : Hid (Str w lb #[.pointer (some ⟨d, 0, none⟩), .int .i64 lim, .int .i64 kept, .int .i64 forced, .map (some mb), .slice A n c]) := Lib.hid h.box
  have HD := Lib.hid h.dev
  have g0 := strL HB.out
  have hl0 := HB.out.lt
  clear h
  go_enter Try.func27, Try.ntmps27
  go_wp2_with fail
  refine (DevW.head_any w HD.out).mono ?_
  rintro e w' ⟨rfl, hb⟩
  have HF := Lib.hid hb
  clear hb g0 hl0
  go_wp2
  go_ret
  exact ⟨rfl, HF.out⟩
set_option maxRecDepth 100000 in
set_option maxHeartbeats 1000000 in
theorem end_any (w : World) (h : LogIn w lb d mb nm A n c bs X L lim kept forced ps) (hs : DevP.Small X) :
    Calls Try.prog 26 #[.pointer (some ⟨lb, 0, none⟩)] w fun e w' => e = .returned (.int .i64 (X.head + (X.log.length : Nat))) ∧ Below w.heap.size w w' := by
  have HB : Hid (Str w lb #[.pointer (some ⟨d, 0, none⟩), .int .i64 lim, .int .i64 kept, .int .i64 forced, .map (some mb), .slice A n c]) := Lib.hid h.box
  have HD := Lib.hid h.dev
  have g0 := strL HB.out
  have hl0 := HB.out.lt
  clear h
  go_enter Try.func26, Try.ntmps26
  go_wp2_with fail
  refine (DevW.end_any w HD.out hs).mono ?_
  rintro e w' ⟨rfl, hb⟩
  have HF := Lib.hid hb
  clear hb g0 hl0
  go_wp2
  go_ret
  exact ⟨rfl, HF.out⟩
set_option maxRecDepth 100000 in
set_option maxHeartbeats 1000000 in
theorem size_any (w : World) (h : LogIn w lb d mb nm A n c bs X L lim kept forced ps) (hs : DevP.Small X) :
    Calls Try.prog 69 #[.pointer (some ⟨lb, 0, none⟩)] w fun e w' => e = .returned (.int .i64 (X.log.length : Nat)) ∧ Below w.heap.size w w' := by
  have H := Lib.hid h
  have HS := Lib.hid hs
  have hh := h.dev.ok.h0
  have h2 := hs.2.1
  clear h hs
  go_enter Try.func69, Try.ntmps69
  go_wp2_with fail
  refine (end_any w H.out HS.out).mono ?_
  rintro e W1 ⟨rfl, hb1⟩
  have H1 := Lib.hid (H.out.next hb1)
  have HB1 := Lib.hid hb1
  clear hb1
  go_wp2_with fail
  refine (head_any W1 H1.out).mono ?_
  rintro e W2 ⟨rfl, hb2⟩
  have HB2 := Lib.hid (bstep HB1.out hb2)
  have he : X.head + (X.log.length : Nat) - X.head = ((X.log.length : Nat) : Int) := by omega
  clear hb2
  have hw : wrap64 (X.head + (X.log.length : Nat) - X.head) = ((X.log.length : Nat) : Int) := by rw [he]; exact IntWalk.wrap64_in _ (by omega)
  go_wp2
  go_ret
  exact ⟨by simp [*], HB2.out⟩
set_option maxRecDepth 100000 in
set_option maxHeartbeats 4000000 in
theorem room_any (w : World) (h : LogIn w lb d mb nm A n c bs X L lim kept forced ps) (hs : DevP.Small X) (hl : -1152921504606846976 ≤ lim ∧ lim ≤ 1152921504606846976) (hk : -1152921504606846976 ≤ kept ∧ kept ≤ 1152921504606846976) :
    Calls Try.prog 30 #[.pointer (some ⟨lb, 0, none⟩)] w fun e w' => e = .returned (.int .i64 (lim - (X.log.length : Nat) - kept)) ∧ Below w.heap.size w w' := by
  have H := Lib.hid h
  have HS := Lib.hid hs
  have HB : Hid (Str w lb #[.pointer (some ⟨d, 0, none⟩), .int .i64 lim, .int .i64 kept, .int .i64 forced, .map (some mb), .slice A n c]) := Lib.hid h.box
  have hh := h.dev.ok.h0
  have h2 := hs.2.1
  have g0 := strL HB.out
  have hl0 := HB.out.lt
  clear h hs
  go_enter Try.func30, Try.ntmps30
  go_wp2_with fail
  refine Reg.wp_region_vals (R := ext) (W := w) [Reg.eqv (.pointer (some ⟨lb, 0, none⟩)), Reg.eqv (.pointer (some ⟨lb, 0, none⟩)), Reg.eqv (.pointer (some ⟨lb, 1, none⟩)), Reg.eqv (.int .i64 lim), Reg.eqv (.pointer (some ⟨lb, 0, none⟩)), Reg.eqv (.int .i64 (X.log.length : Nat)), Reg.eqv (.int .i64 (lim - (X.log.length : Nat))), Reg.eqv (.pointer (some ⟨lb, 0, none⟩)), Reg.eqv (.pointer (some ⟨lb, 0, none⟩)), Reg.eqv (.pointer (some ⟨lb, 2, none⟩)), Reg.eqv (.int .i64 kept), Reg.eqv (.int .i64 (lim - (X.log.length : Nat) - kept)), Reg.eqv (.int .i64 (lim - (X.log.length : Nat) - kept))] 17 [[(0, none)], [(5, some 0)], [(6, some 1)], [(7, some 2)], [(0, none)], [(9, some 4)], [(8, some 3), (10, some 5)], [(0, none)], [(12, some 7)], [(13, some 8)], [(14, some 9)], [(11, some 6), (15, some 10)], [(16, some 11)]] rfl (by kernel_rfl) (by kernel_rfl) (by kernel_rfl) ?_ [some 5, some 6, some 7, some 8, some 9, some 10, some 11, some 12, some 13, some 14, some 15, some 16, some 2] (by kernel_rfl) ?_
  · refine ⟨?_, ?_, ?_, ?_, ?_, ?_, ?_, ?_, ?_, ?_, ?_, ?_, ?_, trivial⟩
    · intro ax wx hx hs
      obtain ⟨e0, -⟩ := hs
      have g0 := Reg.ev (v := .pointer (some ⟨lb, 0, none⟩)) e0
      exact Reg.obl_free rfl (Reg.wp_eqv (Option.some_ne_none _) (by go_simp) rfl)
    · intro ax wx hx hs
      obtain ⟨e5, -⟩ := hs
      have g5 := Reg.ev (v := .pointer (some ⟨lb, 0, none⟩)) e5
      exact Reg.obl_free rfl (Reg.wp_eqv (Option.some_ne_none _) (by go_simp) rfl)
    · intro ax wx hx hs
      obtain ⟨e6, -⟩ := hs
      have g6 := Reg.ev (v := .pointer (some ⟨lb, 0, none⟩)) e6
      exact Reg.obl_free rfl (Reg.wp_eqv (Option.some_ne_none _) (by go_simp) rfl)
    · intro ax wx hx hs
      obtain ⟨e7, -⟩ := hs
      have g7 := Reg.ev (v := .pointer (some ⟨lb, 1, none⟩)) e7
      have hx' : Below w.heap.size w wx := hx
      have l0 := strL (HB.out.next hx')
      exact Reg.obl_free rfl (Reg.wp_eqv (Option.some_ne_none _) (by go_simp) rfl)
    · intro ax wx hx hs
      obtain ⟨e0, -⟩ := hs
      have g0 := Reg.ev (v := .pointer (some ⟨lb, 0, none⟩)) e0
      exact Reg.obl_free rfl (Reg.wp_eqv (Option.some_ne_none _) (by go_simp) rfl)
    · intro ax wx hx hs
      obtain ⟨e9, -⟩ := hs
      have g9 := Reg.ev (v := .pointer (some ⟨lb, 0, none⟩)) e9
      refine Reg.obl_free rfl ?_
      have hx' : Below w.heap.size w wx := hx
      go_simp
      refine (size_any wx (H.out.next hx') HS.out).mono ?_
      rintro e wy ⟨rfl, hby⟩
      exact Reg.done (Option.some_ne_none _) rfl hby
    · intro ax wx hx hs
      obtain ⟨e8, e10, -⟩ := hs
      have g8 := Reg.ev (v := .int .i64 lim) e8
      have g10 := Reg.ev (v := .int .i64 (X.log.length : Nat)) e10
      refine Reg.obl_free rfl ?_
      exact Reg.wp_eqv (Option.some_ne_none _) (by go_simp; exact IntWalk.i64_in _ (by omega)) rfl
    · intro ax wx hx hs
      obtain ⟨e0, -⟩ := hs
      have g0 := Reg.ev (v := .pointer (some ⟨lb, 0, none⟩)) e0
      exact Reg.obl_free rfl (Reg.wp_eqv (Option.some_ne_none _) (by go_simp) rfl)
    · intro ax wx hx hs
      obtain ⟨e12, -⟩ := hs
      have g12 := Reg.ev (v := .pointer (some ⟨lb, 0, none⟩)) e12
      exact Reg.obl_free rfl (Reg.wp_eqv (Option.some_ne_none _) (by go_simp) rfl)
    · intro ax wx hx hs
      obtain ⟨e13, -⟩ := hs
      have g13 := Reg.ev (v := .pointer (some ⟨lb, 0, none⟩)) e13
      exact Reg.obl_free rfl (Reg.wp_eqv (Option.some_ne_none _) (by go_simp) rfl)
    · intro ax wx hx hs
      obtain ⟨e14, -⟩ := hs
      have g14 := Reg.ev (v := .pointer (some ⟨lb, 2, none⟩)) e14
      have hx' : Below w.heap.size w wx := hx
      have l0 := strL (HB.out.next hx')
      exact Reg.obl_free rfl (Reg.wp_eqv (Option.some_ne_none _) (by go_simp) rfl)
    · intro ax wx hx hs
      obtain ⟨e11, e15, -⟩ := hs
      have g11 := Reg.ev (v := .int .i64 (lim - (X.log.length : Nat))) e11
      have g15 := Reg.ev (v := .int .i64 kept) e15
      refine Reg.obl_free rfl ?_
      exact Reg.wp_eqv (Option.some_ne_none _) (by go_simp; exact IntWalk.i64_in _ (by omega)) rfl
    · intro ax wx hx hs
      obtain ⟨e16, -⟩ := hs
      have g16 := Reg.ev (v := .int .i64 (lim - (X.log.length : Nat) - kept)) e16
      exact Reg.obl_free rfl (Reg.wp_eqv (Option.some_ne_none _) (by go_simp) rfl)
  · intro W1 hwf
    simp only [Reg.Fin]
    rintro _ rfl _ rfl _ rfl _ rfl _ rfl _ rfl _ rfl _ rfl _ rfl _ rfl _ rfl _ rfl _ rfl
    go_simp
    have hwf' : Below w.heap.size w W1 := hwf
    have HF := Lib.hid hwf'
    clear hwf hwf' g0 hl0
    go_wp2
    go_ret
    exact ⟨rfl, HF.out⟩
end
end Go.Proofs.Ytiokcemlfdonnaa.WalW
end
