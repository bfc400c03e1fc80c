/-
  Parts of the proof of PoolAhead.
-/
import Derived.Test.YtcfieofcnpalgaaGreatAhG11
import Derived.Test.YtcfieofcnpalgaaGreatAhG23
import Derived.Test.YtcfieofcnpalgaaGreatAhG9
section
namespace Go.Proofs.YtcfieofcnpalgaaGreat
set_option linter.unusedVariables false
namespace PoolP
/-- a page that a number tells -/
def page (no v : Int) : List UInt8 := PageN.mk (SlotP.zeros 4) (3 * v) no v
/-- the page as a number tells it, sealed or not -/
def Good (no v : Int) (x : List UInt8) : Prop := ∃ s : List UInt8, s.length = 4 ∧ x = PageN.mk s (3 * v) no v
section
variable {no v : Int} {x : List UInt8}
theorem good_page : Good no v (page no v) := ⟨_, PageN.zeros_len 4, rfl⟩
theorem Good.seal (h : Good no v x) : PageP.sealed x = PageP.sealed (page no v) := by
  obtain ⟨s, hs, rfl⟩ := h
  rw [PageP.sealed_eq, PageP.sealed_eq (page no v)]
  have e : (PageN.mk s (3 * v) no v).drop 4 = (page no v).drop 4 := by
    unfold page PageN.mk
    rw [List.drop_left' hs, List.drop_left' (PageN.zeros_len 4)]
  rw [e]
theorem Good.len (h : Good no v x) : x.length = 512 := by
  obtain ⟨s, hs, rfl⟩ := h
  exact PageN.mk_len hs
theorem Good.lsn (h : Good no v x) (h0 : 0 ≤ v) (h1 : v ≤ 1000) : lsn x = 3 * v := by
  obtain ⟨s, hs, rfl⟩ := h
  exact PageN.mk_lsn hs (by unfold In64; omega)
theorem Good.note (h : Good no v x) (h0 : 0 ≤ v) (h1 : v ≤ 1000) : NumP.val x 16 8 = v := by
  obtain ⟨s, hs, rfl⟩ := h
  exact PageN.mk_note hs (by unfold In64; omega)
theorem Good.number (h : Good no v x) (h0 : 0 ≤ no) (h1 : no < 65536) : NumP.val x 12 2 = no := by
  obtain ⟨s, hs, rfl⟩ := h
  exact PageN.mk_no hs h0 h1
theorem good_sealed : Good no v (PageP.sealed (page no v)) := ⟨BeP.parts 4 ((CrcP.sum ((page no v).drop 4) : Nat) : Int), BeP.parts_length 4 _, by unfold page; rw [PageN.sealed_mk (PageN.zeros_len 4)]⟩
theorem right_page (h0 : 0 ≤ no) (h1 : no < 65536) : PageP.right (PageP.sealed (page no v)) no = true := PageN.sealed_right (PageN.zeros_len 4) h0 h1
end
/-- the pages as they were wanted, in frames or on the device; none ahead of the log -/
structure Ahead (s : PoolX) (want : Nat → Int) : Prop where
  off : s.D.off = false
  fused : s.D.fused = false
  len : s.D.safe.length = 5
  nlen : s.D.now.length = 5
  n1 : 1 ≤ s.n
  fsn : (s.fs.length : Int) ≤ s.n
  once : Once s.fs
  nos : ∀ f ∈ s.fs, 0 ≤ f.no ∧ f.no < 4
  pins : ∀ f ∈ s.fs, f.pins = 0
  wants : ∀ k, k < 4 → 0 ≤ want k ∧ want k ≤ 1000
  good : ∀ f ∈ s.fs, Good f.no (want f.no.toNat) f.x
  dev : ∀ k : Nat, k < 4 → (∃ f ∈ s.fs, f.no = (k : Int) ∧ f.dirty = true) ∨ s.D.now[k]? = some (PageP.sealed (page k (want k)))
  far : ∀ k : Nat, k < 4 → ∀ y, s.D.now[k]? = some y → lsn y ≤ s.far
section
variable {s : PoolX} {want : Nat → Int} {f : Fr} {i : Nat} {no : Int}
theorem force_ge (far n : Int) : far ≤ force far n ∧ n ≤ force far n := by unfold force; split <;> omega
theorem Ahead.fits (h : Ahead s want) (h0 : 0 ≤ no) (h1 : no < 5) : fits s.D no = true := by
  unfold PoolP.fits
  rw [h.len]
  simp; omega
theorem Ahead.err (h : Ahead s want) : DevP.err s.D true = 0 := by
  unfold DevP.err
  rw [h.off, h.fused]
  rfl
theorem op_of {X Y : DevX} (h : DevP.err X true = 0) : DevP.op X true Y = DevP.done Y := by unfold DevP.op; rw [if_pos h]
/-- an operation more -/
theorem Ahead.read (h : Ahead s want) (h0 : 0 ≤ no) (h1 : no < 5) : Ahead (read s no) want ∧ DevP.err s.D (PoolP.fits s.D no) = 0 ∧ (PoolP.read s no).D = DevP.done s.D := by
  have e : (PoolP.read s no).D = DevP.done s.D := by
    unfold PoolP.read
    rw [h.fits h0 h1]
    exact op_of h.err
  refine ⟨?_, by rw [h.fits h0 h1]; exact h.err, e⟩
  have q : PoolP.read s no = { s with D := DevP.done s.D } := by
    have : PoolP.read s no = { s with D := (PoolP.read s no).D } := rfl
    rw [this, e]
  rw [q]
  exact ⟨h.off, h.fused, h.len, h.nlen, h.n1, h.fsn, h.once, h.nos, h.pins, h.wants, h.good, h.dev, h.far⟩
theorem Ahead.here (h : Ahead s want) {k : Nat} (hk : k < 4) : ∃ y, s.D.now[k]? = some y := ⟨_, List.getElem?_eq_getElem (by rw [h.nlen]; omega)⟩
/-- a frame is written -/
theorem Ahead.writeAt (h : Ahead s want) (hi : s.fs[i]? = some f) :
    (writeAt s i f).2 = 0 ∧ Ahead (writeAt s i f).1 want ∧ (PoolP.writeAt s i f).1.fs = s.fs.set i { f with dirty := false } ∧ (PoolP.writeAt s i f).1.D = DevP.done (DevP.wrote s.D f.no.toNat (PageP.sealed f.x)) ∧ (PoolP.writeAt s i f).1.n = s.n := by
  have hm := List.mem_of_getElem? hi
  obtain ⟨n0, n1⟩ := h.nos f hm
  have hf := h.fits n0 (by omega : f.no < 5)
  have he := h.err
  have h2 : (PoolP.writeAt s i f).1 = ⟨DevP.done (DevP.wrote s.D f.no.toNat (PageP.sealed f.x)), force s.far (lsn f.x), s.n, s.fs.set i { f with dirty := false }⟩ := by
    rw [writeAt_fst, hf, if_pos he, op_of he]
  refine ⟨by rw [writeAt_snd, hf, he], ?_, by rw [h2], by rw [h2], by rw [h2]⟩
  rw [h2]
  have hg := h.good f hm
  obtain ⟨w0, w1⟩ := h.wants f.no.toNat (by omega)
  have hmem : ∀ g ∈ s.fs.set i { f with dirty := false }, ∃ q ∈ s.fs, q.no = g.no ∧ q.x = g.x ∧ q.pins = g.pins := fun g hg => by
    rcases List.mem_or_eq_of_mem_set hg with h | h
    · exact ⟨g, h, rfl, rfl, rfl⟩
    · subst h; exact ⟨f, hm, rfl, rfl, rfl⟩
  refine ⟨h.off, h.fused, h.len, by show (s.D.now.set _ _).length = 5; rw [List.length_set]; exact h.nlen, h.n1, by show ((s.fs.set _ _).length : Int) ≤ _; rw [List.length_set]; exact h.fsn, h.once.set hi rfl, fun g hg => ?_, fun g hg => ?_, h.wants, fun g hg => ?_, fun k hk => ?_, fun k hk y hy => ?_⟩
  · obtain ⟨q, h1, h2, -⟩ := hmem g hg; rw [← h2]; exact h.nos q h1
  · obtain ⟨q, h1, -, -, h2⟩ := hmem g hg; rw [← h2]; exact h.pins q h1
  · obtain ⟨q, h1, h2, h3, -⟩ := hmem g hg; rw [← h2, ← h3]; exact h.good q h1
  · have hnow : (DevP.done (DevP.wrote s.D f.no.toNat (PageP.sealed f.x))).now = s.D.now.set f.no.toNat (PageP.sealed f.x) := rfl
    show _ ∨ (DevP.done (DevP.wrote s.D f.no.toNat (PageP.sealed f.x))).now[k]? = _
    rw [hnow]
    by_cases e : f.no.toNat = k
    · right
      have e2 : (k : Int) = f.no := by omega
      rw [← e, List.getElem?_set_self (by rw [h.nlen]; omega), hg.seal]
      rw [show ((f.no.toNat : Nat) : Int) = f.no from by omega]
    · rw [List.getElem?_set_ne e]
      rcases h.dev k hk with ⟨q, h1, h2, h3⟩ | h1
      · left
        obtain ⟨j, hj⟩ := List.getElem?_of_mem h1
        have hji : i ≠ j := fun e3 => by subst e3; rw [hi] at hj; cases hj; omega
        exact ⟨q, List.mem_of_getElem? (by rw [List.getElem?_set_ne hji]; exact hj), h2, h3⟩
      · exact .inr h1
  · have hnow : (DevP.done (DevP.wrote s.D f.no.toNat (PageP.sealed f.x))).now = s.D.now.set f.no.toNat (PageP.sealed f.x) := rfl
    have hy' : (s.D.now.set f.no.toNat (PageP.sealed f.x))[k]? = some y := by rw [← hnow]; exact hy
    obtain ⟨g1, g2⟩ := force_ge s.far (lsn f.x)
    show lsn y ≤ force s.far (lsn f.x)
    by_cases e : f.no.toNat = k
    · rw [← e, List.getElem?_set_self (by rw [h.nlen]; omega)] at hy'
      cases hy'
      rw [hg.seal, good_sealed.lsn w0 w1, ← hg.lsn w0 w1]
      exact g2
    · rw [List.getElem?_set_ne e] at hy'
      have := h.far k hk y hy'
      omega
/-- a frame that is clean goes -/
theorem Ahead.erase (h : Ahead s want) (hi : s.fs[i]? = some f) (hd : f.dirty = false) : Ahead { s with fs := s.fs.eraseIdx i } want := by
  have hl : (s.fs.eraseIdx i).length ≤ s.fs.length := List.length_eraseIdx_le _ _
  refine ⟨h.off, h.fused, h.len, h.nlen, h.n1, by have := h.fsn; show ((s.fs.eraseIdx i).length : Int) ≤ s.n; omega, h.once.erase i, fun g hg => h.nos g (List.mem_of_mem_eraseIdx hg), fun g hg => h.pins g (List.mem_of_mem_eraseIdx hg), h.wants, fun g hg => h.good g (List.mem_of_mem_eraseIdx hg), fun k hk => ?_, h.far⟩
  rcases h.dev k hk with ⟨q, h1, h2, h3⟩ | h1
  · left
    obtain ⟨j, hj⟩ := List.getElem?_of_mem h1
    refine ⟨q, ?_, h2, h3⟩
    rw [List.mem_eraseIdx_iff_getElem?]
    refine ⟨j, fun e => ?_, hj⟩
    subst e
    rw [hi] at hj
    cases hj
    rw [hd] at h3
    cases h3
  · exact .inr h1
theorem Ahead.free (h : Ahead s want) : (free s).2 = 0 ∧ Ahead (PoolP.free s).1 want ∧ ((PoolP.free s).1.fs.length : Int) < s.n ∧ (PoolP.free s).1.n = s.n := by
  have key : (PoolP.free s).2 = 0 ∧ Ahead (PoolP.free s).1 want ∧ (PoolP.free s).1.n = s.n := by
    unfold PoolP.free
    split
    · exact ⟨rfl, h, rfl⟩
    · rename_i hlt
      have h1 := h.n1
      have hl : 0 < s.fs.length := by omega
      have hf0 : s.fs[0]? = some s.fs[0] := List.getElem?_eq_getElem hl
      have hv : victim s.fs = some 0 := by
        unfold victim
        rw [List.findIdx?_eq_some_iff_getElem]
        refine ⟨hl, ?_, fun j hj => by omega⟩
        have := h.pins s.fs[0] (List.getElem_mem hl)
        simp; omega
      rw [hv]
      simp only [hf0]
      obtain ⟨w1, w2, w3, w4, w5⟩ := h.writeAt hf0
      by_cases hd : s.fs[0].dirty = true
      · rw [if_pos hd, if_pos w1]
        refine ⟨rfl, ?_, w5⟩
        have hset : (s.fs.set 0 { s.fs[0] with dirty := false })[0]? = some { s.fs[0] with dirty := false } := List.getElem?_set_self hl
        have := w2.erase (i := 0) (f := { s.fs[0] with dirty := false }) (by rw [w3]; exact hset) rfl
        rw [w3] at this
        have e : (s.fs.set 0 { s.fs[0] with dirty := false }).eraseIdx 0 = s.fs.eraseIdx 0 := by
          rw [List.eraseIdx_set_eq]
        rw [e] at this
        exact this
      · rw [if_neg hd]
        exact ⟨rfl, h.erase hf0 (by simpa using hd), rfl⟩
  exact ⟨key.1, key.2.1, free_less h.fsn key.1 h.n1, key.2.2⟩
/-- a frame becomes the one used last, with another page in it or not -/
theorem Ahead.use (h : Ahead s want) {g : Fr} {want' : Nat → Int} (hi : s.fs[i]? = some f) (hn : g.no = f.no) (hp : g.pins = 0) (hw : ∀ k, k < 4 → 0 ≤ want' k ∧ want' k ≤ 1000) (hne : ∀ k : Nat, k < 4 → (k : Int) ≠ f.no → want' k = want k) (hg : Good f.no (want' f.no.toNat) g.x)
    (hd : g.dirty = true ∨ (g.dirty = f.dirty ∧ want' f.no.toNat = want f.no.toNat)) : Ahead { s with fs := s.fs.eraseIdx i ++ [g] } want' := by
  have hm := List.mem_of_getElem? hi
  have hlt := (List.getElem?_eq_some_iff.1 hi).1
  have hn0 := h.nos f hm
  have hl : (s.fs.eraseIdx i).length = s.fs.length - 1 := List.length_eraseIdx_of_lt hlt
  have hfs := h.fsn
  refine ⟨h.off, h.fused, h.len, h.nlen, h.n1, ?_, h.once.use hi hn, fun q hq => ?_, fun q hq => ?_, hw, fun q hq => ?_, fun k hk => ?_, h.far⟩
  · show ((s.fs.eraseIdx i ++ [g]).length : Int) ≤ s.n
    rw [List.length_append, hl]
    simp; omega
  · rcases List.mem_append.1 hq with h1 | h1
    · exact h.nos q (List.mem_of_mem_eraseIdx h1)
    · rw [List.mem_singleton.1 h1, hn]; exact hn0
  · rcases List.mem_append.1 hq with h1 | h1
    · exact h.pins q (List.mem_of_mem_eraseIdx h1)
    · rw [List.mem_singleton.1 h1]; exact hp
  · rcases List.mem_append.1 hq with h1 | h1
    · have h2 := h.once.others hi q h1
      obtain ⟨a0, a1⟩ := h.nos q (List.mem_of_mem_eraseIdx h1)
      rw [hne q.no.toNat (by omega) (by omega)]
      exact h.good q (List.mem_of_mem_eraseIdx h1)
    · rw [List.mem_singleton.1 h1, hn]; exact hg
  · show (∃ q ∈ s.fs.eraseIdx i ++ [g], _) ∨ _
    by_cases e : (k : Int) = f.no
    · have ek : f.no.toNat = k := by omega
      rcases hd with hd | ⟨hd, he⟩
      · exact .inl ⟨g, by simp, by rw [hn]; exact e.symm, hd⟩
      · rw [ek] at he
        rw [he]
        rcases h.dev k hk with ⟨q, h1, h2, h3⟩ | h1
        · have hq : q = f := by
            obtain ⟨j, hj⟩ := List.getElem?_of_mem h1
            by_cases e2 : j = i
            · subst e2; rw [hi] at hj; cases hj; rfl
            · exfalso
              have h4 : q ∈ s.fs.eraseIdx i := by rw [List.mem_eraseIdx_iff_getElem?]; exact ⟨j, e2, hj⟩
              exact h.once.others hi q h4 (by rw [h2]; exact e)
          subst hq
          exact .inl ⟨g, by simp, by rw [hn]; exact e.symm, by rw [hd]; exact h3⟩
        · exact .inr h1
    · rw [hne k hk e]
      rcases h.dev k hk with ⟨q, h1, h2, h3⟩ | h1
      · left
        obtain ⟨j, hj⟩ := List.getElem?_of_mem h1
        refine ⟨q, ?_, h2, h3⟩
        rw [List.mem_append]
        left
        rw [List.mem_eraseIdx_iff_getElem?]
        refine ⟨j, fun e2 => ?_, hj⟩
        subst e2
        rw [hi] at hj
        cases hj
        exact e h2.symm
      · exact .inr h1
theorem Ahead.get (h : Ahead s want) (h0 : 0 ≤ no) (h1 : no < 4) : (get s no).2.2 = 0 ∧ Good no (want no.toNat) (PoolP.get s no).2.1 ∧ Ahead (PoolP.get s no).1 want ∧ (∃ i, find (PoolP.get s no).1.fs no = some i) := by
  cases hf : find s.fs no with
  | some i =>
    obtain ⟨f, hi, rfl⟩ := find_some hf
    rw [get_some hf hi]
    have hm := List.mem_of_getElem? hi
    have hA := h.use (g := f) (want' := want) hi rfl (h.pins f hm) h.wants (fun _ _ _ => rfl) (h.good f hm) (.inr ⟨rfl, rfl⟩)
    obtain ⟨g, hg, -, -⟩ := kept_use (g := f) h.once hi rfl rfl
    obtain ⟨j, hj, -⟩ := find_at hg
    exact ⟨rfl, h.good f hm, hA, j, hj⟩
  | none =>
    rw [get_none hf]
    obtain ⟨f1, f2, f3, f4⟩ := h.free
    rw [if_pos f1]
    obtain ⟨r1, r2, r3⟩ := f2.read h0 (by omega : no < 5)
    have hno := free_no hf
    unfold fetch
    rw [if_neg (by rw [r2]; exact fun hh => hh rfl)]
    have hnow : (PoolP.free s).1.D.now[no.toNat]? = some (PageP.sealed (page no (want no.toNat))) := by
      rcases f2.dev no.toNat (by omega) with ⟨q, q1, q2, q3⟩ | q1
      · exact absurd (by rw [q2]; omega) (hno q q1)
      · rw [q1, show ((no.toNat : Nat) : Int) = no from by omega]
    have hgot : got (PoolP.free s).1 no = PageP.sealed (page no (want no.toNat)) := by
      unfold got DevP.read
      rw [if_pos r2, hnow, Option.getD_some]
    rw [hgot, if_pos (right_page h0 (by omega))]
    refine ⟨rfl, good_sealed, ?_, ?_⟩
    · have hl : (PoolP.read (PoolP.free s).1 no).fs = (PoolP.free s).1.fs := rfl
      have hn : (PoolP.read (PoolP.free s).1 no).n = (PoolP.free s).1.n := rfl
      refine ⟨r1.off, r1.fused, r1.len, r1.nlen, r1.n1, ?_, ?_, fun q hq => ?_, fun q hq => ?_, h.wants, fun q hq => ?_, fun k hk => ?_, r1.far⟩
      · show (((PoolP.free s).1.fs ++ [_]).length : Int) ≤ (PoolP.free s).1.n
        rw [List.length_append, f4]
        simp; omega
      · exact f2.once.add hno
      · rcases List.mem_append.1 hq with h2 | h2
        · exact f2.nos q h2
        · rw [List.mem_singleton.1 h2]; exact ⟨h0, h1⟩
      · rcases List.mem_append.1 hq with h2 | h2
        · exact f2.pins q h2
        · rw [List.mem_singleton.1 h2]
      · rcases List.mem_append.1 hq with h2 | h2
        · exact f2.good q h2
        · rw [List.mem_singleton.1 h2]; exact good_sealed
      · rcases r1.dev k hk with ⟨q, q1, q2, q3⟩ | q1
        · exact .inl ⟨q, List.mem_append.2 (.inl q1), q2, q3⟩
        · exact .inr q1
    · have hk : ((PoolP.free s).1.fs ++ [(⟨no, PageP.sealed (page no (want no.toNat)), false, 0⟩ : Fr)]).find? (fun f => f.no == no) = some ⟨no, PageP.sealed (page no (want no.toNat)), false, 0⟩ := by
        rw [List.find?_append, List.find?_eq_none.2 (fun q hq => by simpa using hno q hq)]
        simp
      obtain ⟨j, hj, -⟩ := find_at hk
      exact ⟨j, hj⟩
theorem Ahead.set (h : Ahead s want) {v : Int} (h0 : 0 ≤ no) (h1 : no < 4) (hv0 : 0 ≤ v) (hv1 : v ≤ 1000) (hf : find s.fs no = some i) : (set s no (page no v)).2 = 0 ∧ Ahead (PoolP.set s no (page no v)).1 (fun k => if (k : Int) = no then v else want k) ∧ (PoolP.set s no (page no v)).1.D = s.D := by
  obtain ⟨f, hi, rfl⟩ := find_some hf
  rw [set_some hf hi, if_pos (good_page.number h0 (by omega))]
  have hm := List.mem_of_getElem? hi
  refine ⟨rfl, ?_, rfl⟩
  refine h.use hi rfl (h.pins f hm) (fun k hk => ?_) (fun k hk hne => by rw [if_neg hne]) ?_ (.inl rfl)
  · try simp only
    split
    · exact ⟨hv0, hv1⟩
    · exact h.wants k hk
  · try simp only
    rw [if_pos (by omega)]
    exact good_page
/-- no frame of these is dirty, but for those of a list -/
def Only (fs : List Fr) (l : List Int) : Prop := ∀ f ∈ fs, f.dirty = true → f.no ∈ l
theorem Ahead.flushAll : ∀ (l : List Int) {s : PoolX}, Ahead s want → Only s.fs l → (flushAll l s).2 = 0 ∧ Ahead (PoolP.flushAll l s).1 want ∧ Only (PoolP.flushAll l s).1.fs []
  | [], s, h, ho => ⟨rfl, h, ho⟩
  | no :: r, s, h, ho => by
    unfold PoolP.flushAll
    cases hf : find s.fs no with
    | none => exact Ahead.flushAll r h (fun f hm hd => (List.mem_cons.1 (ho f hm hd)).resolve_left (find_no hf f hm))
    | some i =>
      obtain ⟨f, hi, e⟩ := find_some hf
      simp only [hi]
      obtain ⟨w1, w2, w3, w4, w5⟩ := h.writeAt hi
      rw [if_pos w1]
      refine Ahead.flushAll r w2 (fun g hg hd => ?_)
      rw [w3] at hg
      obtain ⟨j, hj⟩ := List.getElem?_of_mem hg
      by_cases e2 : i = j
      · subst e2
        rw [List.getElem?_set_self (List.getElem?_eq_some_iff.1 hi).1] at hj
        cases hj
        cases hd
      · rw [List.getElem?_set_ne e2] at hj
        refine (List.mem_cons.1 (ho g (List.mem_of_getElem? hj) hd)).resolve_left (fun e3 => ?_)
        have h4 : g ∈ s.fs.eraseIdx i := by rw [List.mem_eraseIdx_iff_getElem?]; exact ⟨j, fun e => e2 e.symm, hj⟩
        exact h.once.others hi g h4 (by rw [e3, e])
theorem mem_dirty {F : List Fr} (hf : f ∈ F) (hd : f.dirty = true) : f.no ∈ dirty F := by
  unfold dirty
  rw [List.mem_mergeSort]
  exact List.mem_map.2 ⟨f, List.mem_filter.2 ⟨hf, hd⟩, rfl⟩
theorem dirty_nil {F : List Fr} (h : Only F []) : dirty F = [] := by
  unfold dirty
  rw [List.filter_eq_nil_iff.2 (fun f hf hd => by cases h f hf hd), List.map_nil, List.mergeSort_nil]
theorem Ahead.flush (h : Ahead s want) : (flush s).2 = 0 ∧ Ahead (PoolP.flush s).1 want ∧ dirty (PoolP.flush s).1.fs = [] ∧ (PoolP.flush s).1.D.safe = (PoolP.flush s).1.D.now ∧ ∀ k : Nat, k < 4 → (PoolP.flush s).1.D.now[k]? = some (PageP.sealed (page k (want k))) := by
  obtain ⟨f1, f2, f3⟩ := Ahead.flushAll (dirty s.fs) h (fun f hm hd => mem_dirty hm hd)
  have e : PoolP.flush s = sync (PoolP.flushAll (dirty s.fs) s).1 := by unfold PoolP.flush; rw [if_pos f1]
  have e2 : sync (PoolP.flushAll (dirty s.fs) s).1 = ({ (PoolP.flushAll (dirty s.fs) s).1 with D := DevP.done (DevP.synced (PoolP.flushAll (dirty s.fs) s).1.D) }, 0) := by
    unfold sync
    rw [op_of f2.err, f2.err]
  rw [e, e2]
  refine ⟨rfl, ⟨f2.off, f2.fused, f2.nlen, f2.nlen, f2.n1, f2.fsn, f2.once, f2.nos, f2.pins, f2.wants, f2.good, f2.dev, f2.far⟩, dirty_nil f3, rfl, fun k hk => ?_⟩
  rcases f2.dev k hk with ⟨q, q1, q2, q3⟩ | q1
  · cases f3 q q1 q3
  · exact q1
end
end PoolP
end Go.Proofs.YtcfieofcnpalgaaGreat
end
section
namespace Go.Proofs.YtcfieofcnpalgaaGreat.DevW
open Go.RowKit Go.Maps
set_option linter.unusedVariables false
set_option linter.unusedSimpArgs false
/-- how many pages a device has -/
def _root_.Go.Proofs.YtcfieofcnpalgaaGreat.DevP.many (n : Int) : Nat := (min (max n 1) 1024).toNat
/-- the call hands back a new device -/
def GivesDev (w : World) (X : DevX) (e : Ending) (w' : World) : Prop := ∃ d bs, e = .returned (.pointer (some ⟨d, 0, none⟩)) ∧ Dev w' d bs X ∧ (∀ b ∈ bs, w.heap.size ≤ b) ∧ Below w.heap.size w w'
theorem new_in (N : Nat) (h1 : 1 ≤ N) (h2 : N ≤ 1024) (w w1 : World) (hz : w1.heap.size = w.heap.size + 1) (hb : Below w.heap.size w w1) (hO : OwnE PageE 42 w1 w.heap.size (some ⟨w.heap.size, 0, none⟩) N N (List.replicate N (SlotP.zeros 512))) (T : TypeId) :
    GivesDev w (DevP.new N) (.returned (.pointer (some ⟨w1.heap.size + 1, 0, none⟩))) ((w1.alloc (.map #[] 0)).alloc (.cells (devC N w.heap.size w1.heap.size none 0 0 (DevP.new N)) T)) := by
  have hm := MapM.made (P := Tryz.prog) (S := intK) (E := slE) (kt := 3) w1
  have hb1 : Below w1.heap.size w1 (w1.alloc (.map #[] 0)) := balloc (bsame w1) _
  have hs1 : (w1.alloc (.map #[] 0)).heap.size = w1.heap.size + 1 := by simp
  have hb2 : Below (w1.alloc (.map #[] 0)).heap.size (w1.alloc (.map #[] 0)) ((w1.alloc (.map #[] 0)).alloc (.cells (devC N w.heap.size w1.heap.size none 0 0 (DevP.new N)) T)) := balloc (bsame _) _
  have hlen : (List.replicate N (SlotP.zeros 512)).length = N := List.length_replicate
  have hrow : Pgs 42 w1 w.heap.size N N (List.replicate N (SlotP.zeros 512)) := hO.less (Nat.zero_le _)
  refine ⟨w1.heap.size + 1, [w1.heap.size + 1, w.heap.size, w1.heap.size], rfl, ⟨w.heap.size, w1.heap.size, [w.heap.size, w1.heap.size], none, none, 0, 0, 0, [], ⟨?_, ⟨?_, hm.at_ (hb2.block _ (by omega)), fun p hp => absurd hp List.not_mem_nil, fun k hk h => rfl, rfl, by simp; omega, Nat.zero_le _⟩, OwnS.none_ _, by simp; omega, DevP.ok_new h1 h2⟩, rfl⟩, ?_, (hb.trans (hb1.mono (by omega))).trans (hb2.mono (by omega))⟩
  · have := Str.new (w1.alloc (.map #[] 0)) (devC N w.heap.size w1.heap.size none 0 0 (DevP.new N)) T
    rw [hs1] at this
    show Str _ _ (devC (List.replicate N (SlotP.zeros 512)).length _ _ _ _ _ _)
    rw [hlen]
    exact this
  · show Pgs _ _ _ (List.replicate N (SlotP.zeros 512)).length (List.replicate N (SlotP.zeros 512)).length _
    rw [hlen]
    exact hrow.at_ ((hb2.block _ (by omega)).trans (hb1.block _ (by omega)))
  · intro b hb
    simp only [List.mem_cons, List.not_mem_nil, or_false] at hb
    omega
theorem make_pages (N : Nat) (h2 : N ≤ 1024) (w : World) : ∃ w1, (Instr.makeSlice 85 (.int .i64 (N : Int)) (.int .i64 (N : Int))).run Tryz.prog w = .ok (.slice (some ⟨w.heap.size, 0, none⟩) N N) w1 ∧ OwnE PageE 42 w1 w.heap.size (some ⟨w.heap.size, 0, none⟩) N N (List.replicate N (SlotP.zeros 512)) ∧ Below w.heap.size w w1 ∧ w1.heap.size = w.heap.size + 1 := by
  obtain ⟨i0, hi0, iz0, iz1, iz2⟩ := info_parts infoP
  exact own_made (E := PageE) (P := Tryz.prog) 85 i0 _ ((SlotP.zeros 512).map byteV) (SlotP.zeros 512) Tryz.underlying85 hi0 iz0 iz1 (by rw [← rowV_zeros]; rfl) (fun _ _ => ⟨rfl, List.length_replicate⟩) N (by rw [iz2]; omega) (by omega) w
set_option maxRecDepth 100000 in
set_option maxHeartbeats 1000000 in
theorem new_low (n : Int) (hn : n < 1) (w : World) : Calls Tryz.prog 24 #[.int .i64 n] w (GivesDev w (DevP.new 1)) := by
  obtain ⟨w1, hr, hO, hb, hz⟩ := make_pages 1 (by omega) w
  have hmm := @run_makeMap Tryz.prog
  have HF := Lib.hid (new_in 1 (by omega) (by omega) w w1 hz hb hO 88)
  clear hO hb hz
  simp only [Int.natCast_one] at hr
  go_enter Tryz.func24, Tryz.ntmps24
  go_wp2
  go_ret
  exact HF.out
set_option maxRecDepth 100000 in
set_option maxHeartbeats 1000000 in
theorem new_high (n : Int) (hn : 1024 < n) (w : World) : Calls Tryz.prog 24 #[.int .i64 n] w (GivesDev w (DevP.new 1024)) := by
  obtain ⟨w1, hr, hO, hb, hz⟩ := make_pages 1024 (by omega) w
  have hmm := @run_makeMap Tryz.prog
  have HF := Lib.hid (new_in 1024 (by omega) (by omega) w w1 hz hb hO 88)
  clear hO hb hz
  have hr2 : (Instr.makeSlice 85 (.int .i64 1024) (.int .i64 1024)).run Tryz.prog w = .ok (.slice (some ⟨w.heap.size, 0, none⟩) 1024 1024) w1 := hr
  clear hr
  go_enter Tryz.func24, Tryz.ntmps24
  go_wp2
  go_ret
  exact HF.out
set_option maxRecDepth 100000 in
set_option maxHeartbeats 1000000 in
theorem new_mid (n : Int) (N : Nat) (hn : n = (N : Int)) (h1 : 1 ≤ N) (h2 : N ≤ 1024) (w : World) : Calls Tryz.prog 24 #[.int .i64 n] w (GivesDev w (DevP.new N)) := by
  obtain ⟨w1, hr, hO, hb, hz⟩ := make_pages N (by omega) w
  have hmm := @run_makeMap Tryz.prog
  have HF := Lib.hid (new_in N (by omega) (by omega) w w1 hz hb hO 88)
  clear hO hb hz
  subst hn
  go_enter Tryz.func24, Tryz.ntmps24
  go_wp2
  go_ret
  exact HF.out
theorem new_any (n : Int) (w : World) : Calls Tryz.prog 24 #[.int .i64 n] w (GivesDev w (DevP.new (DevP.many n))) := by
  unfold DevP.many
  by_cases h1 : n < 1
  · rw [show (min (max n 1) 1024).toNat = 1 by omega]
    exact new_low n h1 w
  · by_cases h2 : 1024 < n
    · rw [show (min (max n 1) 1024).toNat = 1024 by omega]
      exact new_high n h2 w
    · exact new_mid n _ (by omega) (by omega) (by omega) w
section
attribute [local go_sem ↓] ldPage_fold stPage_fold bdPage_fold alPage_fold
end
end Go.Proofs.YtcfieofcnpalgaaGreat.DevW
end
