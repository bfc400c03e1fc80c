/-
  Parts of the proof of PoolNils.
-/
import Derived.Test.YtcfieofcnpalgaaPoolG18
import Derived.Test.YtcfieofcnpalgaaPoolG1
import Derived.Test.YtcfieofcnpalgaaPoolG7
import Derived.Test.YtcfieofcnpalgaaPoolG17
import Derived.Test.YtcfieofcnpalgaaPoolG5
import Derived.Maps.RangeWalk
import Derived.Test.YtcfieofcnpalgaaPoolG4
import Derived.BigQuiet
section
namespace Go.Proofs.Ytcfieofcnpalgaa
set_option linter.unusedVariables false
namespace PoolP
def set (s : PoolX) (no : Int) (x : List UInt8) : PoolX × Int := match find s.fs no with
  | none => (s, 5)
  | some i => match s.fs[i]? with
    | none => (s, 5)
    | some f => if NumP.val x 12 2 = no then ({ s with fs := s.fs.eraseIdx i ++ [{ f with x := x, dirty := true }] }, 0) else (s, 1)
def pin (s : PoolX) (no : Int) : PoolX × Int := match find s.fs no with
  | none => (s, 5)
  | some i => match s.fs[i]? with
    | none => (s, 5)
    | some f => ({ s with fs := s.fs.set i { f with pins := f.pins + 1 } }, 0)
def blank (no : Int) : List UInt8 := SlotP.over (SlotP.zeros 512) 12 (BeP.parts 2 no)
def fresh (s : PoolX) (no : Int) : PoolX × Int := match find s.fs no with
  | some i => match s.fs[i]? with
    | none => (s, 5)
    | some f => ({ s with fs := s.fs.eraseIdx i ++ [{ f with x := blank no, dirty := true }] }, 0)
  | none => if no < 0 ∨ (s.D.safe.length : Int) ≤ no then (s, 2) else
    if (free s).2 = 0 then ({ (free s).1 with fs := (free s).1.fs ++ [⟨no, blank no, true, 0⟩] }, 0) else free s
section
variable {s : PoolX} {no : Int} {x : List UInt8} {i : Nat} {f : Fr}
theorem set_none (h : find s.fs no = none) : set s no x = (s, 5) := by unfold set; rw [h]
theorem set_some (h : find s.fs no = some i) (hf : s.fs[i]? = some f) : set s no x = if NumP.val x 12 2 = no then ({ s with fs := s.fs.eraseIdx i ++ [{ f with x := x, dirty := true }] }, 0) else (s, 1) := by unfold set; rw [h]; simp only [hf]
theorem pin_none (h : find s.fs no = none) : pin s no = (s, 5) := by unfold pin; rw [h]
theorem pin_some (h : find s.fs no = some i) (hf : s.fs[i]? = some f) : pin s no = ({ s with fs := s.fs.set i { f with pins := f.pins + 1 } }, 0) := by unfold pin; rw [h]; simp only [hf]
theorem fresh_some (h : find s.fs no = some i) (hf : s.fs[i]? = some f) : fresh s no = ({ s with fs := s.fs.eraseIdx i ++ [{ f with x := blank no, dirty := true }] }, 0) := by unfold fresh; rw [h]; simp only [hf]
theorem fresh_none (h : find s.fs no = none) : fresh s no = if no < 0 ∨ (s.D.safe.length : Int) ≤ no then (s, 2) else
    if (free s).2 = 0 then ({ (free s).1 with fs := (free s).1.fs ++ [⟨no, blank no, true, 0⟩] }, 0) else free s := by unfold fresh; rw [h]
end
end PoolP
end Go.Proofs.Ytcfieofcnpalgaa
end
section
namespace Go.Proofs.Ytcfieofcnpalgaa
open Go.RowKit
set_option linter.unusedVariables false
set_option linter.unusedSimpArgs false
namespace PoolW
attribute [local go_sem ↓] alPage_fold ldPage_fold stPage_fold bdPage_fold bdFr_fold
set_option maxRecDepth 100000 in
set_option maxHeartbeats 4000000 in
theorem set_none (p d lg : Nat) (bs : List Nat) (S : PoolX) (no : Int) (x : List UInt8) (hx : x.length = 512) (w : World) (h : Pool w p d lg bs S) (hi : PoolP.find S.fs no = none) :
    Calls Try.prog 9 #[.pointer (some ⟨p, 0, none⟩), .int .i64 no, .agg (rowV x)] w (Told w p d lg bs S (.int .i64 5)) := by
  obtain ⟨W0, hW0⟩ : ∃ W0, w.alloc (.cells (rowV x) 24) = W0 := ⟨_, rfl⟩
  have hb0 : Below w.heap.size w W0 := by rw [← hW0]; exact balloc (bsame w) _
  have hS0 : Str W0 w.heap.size (rowV x) := by rw [← hW0]; exact Str.new _ _ _
  have HP0 := Lib.hid (h.next hb0)
  have HB0 := Lib.hid hb0
  have HBL := Lib.hid h.lt
  have HX := Lib.hid hx
  have hld := run_ld (P := Try.prog) arrPage hS0 hx
  have HS0 := Lib.hid hS0
  have hl0 := hS0.lt
  have hwa : (Value.agg (rowV x)).cells = rowV x := rfl
  clear hb0 hS0 h hx
  obtain ⟨A, m, c, L, db, h1, h2, h3, h4, rfl⟩ := HP0.out
  have HI := Lib.hid h1
  have HD := Lib.hid h2
  have HL := Lib.hid h3
  have HN := Lib.hid h4
  clear h1 h2 h3 h4
  go_enter Try.func9, Try.ntmps9
  go_wp2_with fail
  refine (find_any p d lg m c S.n A L S.fs no W0 HI.out).mono ?_
  rintro e w' ⟨rfl, rfl⟩
  rw [hi]
  simp only [Option.bind_none]
  go_wp2_with fail
  go_ret
  exact ⟨rfl, Gone.step (fun b hb => .inl hb) (Reg.KeepB.of HB0.out) (Gone.same HP0.out (Below.refl _ _))⟩
set_option maxRecDepth 100000 in
set_option maxHeartbeats 4000000 in
theorem set_bad (p d lg : Nat) (bs : List Nat) (S : PoolX) (no : Int) (x : List UInt8) (hx : x.length = 512) (w : World) (h : Pool w p d lg bs S) (i : Nat) (f : Fr) (hi : PoolP.find S.fs no = some i) (hf : S.fs[i]? = some f) (hn : ¬ NumP.val x 12 2 = no) :
    Calls Try.prog 9 #[.pointer (some ⟨p, 0, none⟩), .int .i64 no, .agg (rowV x)] w (Told w p d lg bs S (.int .i64 1)) := by
  obtain ⟨W0, hW0⟩ : ∃ W0, w.alloc (.cells (rowV x) 24) = W0 := ⟨_, rfl⟩
  have hb0 : Below w.heap.size w W0 := by rw [← hW0]; exact balloc (bsame w) _
  have hS0 : Str W0 w.heap.size (rowV x) := by rw [← hW0]; exact Str.new _ _ _
  have HP0 := Lib.hid (h.next hb0)
  have HB0 := Lib.hid hb0
  have HBL := Lib.hid h.lt
  have HX := Lib.hid hx
  have hld := run_ld (P := Try.prog) arrPage hS0 hx
  have HS0 := Lib.hid hS0
  have hl0 := hS0.lt
  have hwa : (Value.agg (rowV x)).cells = rowV x := rfl
  clear hb0 hS0 h hx
  obtain ⟨A, m, c, L, db, h1, h2, h3, h4, rfl⟩ := HP0.out
  have HI := Lib.hid h1
  have HD := Lib.hid h2
  have HL := Lib.hid h3
  have HN := Lib.hid h4
  clear h1 h2 h3 h4
  go_enter Try.func9, Try.ntmps9
  go_wp2_with fail
  refine (find_any p d lg m c S.n A L S.fs no W0 HI.out).mono ?_
  rintro e w' ⟨rfl, rfl⟩
  obtain ⟨g, hg, hsg, hok⟩ := HI.out.frs.get hf
  rw [hi]
  simp only [Option.bind_some, hg, Option.map_some]
  have hil : i < S.fs.length := (List.getElem?_eq_some_iff.1 hf).1
  have HG := Lib.hid hg
  have HSG := Lib.hid hsg
  have HOK := Lib.hid hok
  have HF := Lib.hid hf
  clear hg hsg hok hf hi
  go_wp2_with fail
  refine (PageW.no_any x HX.out W0).mono ?_
  rintro e W1 ⟨rfl, hb1⟩
  have hne : (NumP.val x 12 2 != no) = true := by simpa using hn
  have HB1 := Lib.hid hb1
  clear hb1 hld
  go_wp2_with fail
  go_ret
  exact ⟨rfl, Gone.step (fun b hb => .inl hb) (Reg.KeepB.of HB0.out) (Gone.same HP0.out HB1.out)⟩
set_option maxRecDepth 100000 in
set_option maxHeartbeats 4000000 in
theorem set_ok (p d lg : Nat) (bs : List Nat) (S : PoolX) (no : Int) (x : List UInt8) (hx : x.length = 512) (w : World) (h : Pool w p d lg bs S) (i : Nat) (f : Fr) (hi : PoolP.find S.fs no = some i) (hf : S.fs[i]? = some f) (hn : NumP.val x 12 2 = no) :
    Calls Try.prog 9 #[.pointer (some ⟨p, 0, none⟩), .int .i64 no, .agg (rowV x)] w (Told w p d lg bs { S with fs := S.fs.eraseIdx i ++ [{ f with x := x, dirty := true }] } (.int .i64 0)) := by
  obtain ⟨W0, hW0⟩ : ∃ W0, w.alloc (.cells (rowV x) 24) = W0 := ⟨_, rfl⟩
  have hb0 : Below w.heap.size w W0 := by rw [← hW0]; exact balloc (bsame w) _
  have hS0 : Str W0 w.heap.size (rowV x) := by rw [← hW0]; exact Str.new _ _ _
  have HP0 := Lib.hid (h.next hb0)
  have HB0 := Lib.hid hb0
  have HBL := Lib.hid h.lt
  have HX := Lib.hid hx
  have hld := run_ld (P := Try.prog) arrPage hS0 hx
  have HS0 := Lib.hid hS0
  have hl0 := hS0.lt
  have hwa : (Value.agg (rowV x)).cells = rowV x := rfl
  clear hb0 hS0 h hx
  obtain ⟨A, m, c, L, db, h1, h2, h3, h4, rfl⟩ := HP0.out
  have HI := Lib.hid h1
  have HD := Lib.hid h2
  have HL := Lib.hid h3
  have HN := Lib.hid h4
  clear h1 h2 h3 h4
  go_enter Try.func9, Try.ntmps9
  go_wp2_with fail
  refine (find_any p d lg m c S.n A L S.fs no W0 HI.out).mono ?_
  rintro e w' ⟨rfl, rfl⟩
  obtain ⟨g, hg, hsg, hok⟩ := HI.out.frs.get hf
  rw [hi]
  simp only [Option.bind_some, hg, Option.map_some]
  have hil : i < S.fs.length := (List.getElem?_eq_some_iff.1 hf).1
  have HG := Lib.hid hg
  have HSG := Lib.hid hsg
  have HOK := Lib.hid hok
  have HF := Lib.hid hf
  clear hg hsg hok hf hi
  go_wp2_with fail
  refine (PageW.no_any x HX.out W0).mono ?_
  rintro e W1 ⟨rfl, hb1⟩
  have hne : (NumP.val x 12 2 != no) = false := by simp [hn]
  have HI1 := Lib.hid (HI.out.next hb1)
  have HD1 := Lib.hid (HD.out.below hb1)
  have HL1 := Lib.hid (HL.out.next hb1)
  have HG1 := Lib.hid (HSG.out.next hb1)
  have HK1 := Lib.hid ((Reg.KeepB.of (b0 := blocks p lg A L db) HB0.out).step hb1 HB0.out.size)
  have hld := run_ld (P := Try.prog) arrPage (HS0.out.next hb1) HX.out
  have hl1 := hb1.size
  obtain ⟨W2, hst, hG2, hg2⟩ := st_x HG1.out HOK.out.x HX.out
  have hlg := HG1.out.lt
  have hcf := fr_cells hG2 HX.out
  have hcz := fun j => hG2.frozen j
  have hlg2 := hG2.lt
  have HG2 := Lib.hid hG2
  have HGR2 := Lib.hid hg2
  clear hb1 hn hG2 hg2
  go_wp2_with fail
  have hS3 := fr_dirty HG2.out HX.out true
  have hg3 := grown_set (grown_refl W2 g) 513 (.bool true)
  obtain ⟨W3, hW3⟩ : ∃ W, W2.setCell ⟨g, 513, none⟩ (.bool true) = W := ⟨_, rfl⟩
  rw [hW3] at hS3 hg3 ⊢
  refine (use_put (F := S.fs) (f := { f with x := x, dirty := true }) HI1.out HD1.out HL1.out HN.out HG.out hil (HGR2.out.trans hg3) hS3 ⟨HX.out, HOK.out.no, HOK.out.p0, HOK.out.p1⟩ (fun b hb => .inl hb) HK1.out).mono ?_
  rintro e W4 ⟨rfl, hG⟩
  have HG4 := Lib.hid hG
  clear hG hS3 hg3 hW3 hld hst hcf hcz
  go_wp2_with fail
  go_ret
  exact ⟨rfl, HG4.out⟩
set_option maxRecDepth 100000 in
set_option maxHeartbeats 4000000 in
theorem pin_none (p d lg : Nat) (bs : List Nat) (S : PoolX) (no : Int) (w : World) (h : Pool w p d lg bs S) (hi : PoolP.find S.fs no = none) :
    Calls Try.prog 12 #[.pointer (some ⟨p, 0, none⟩), .int .i64 no] w (Told w p d lg bs S (.int .i64 5)) := by
  have HPO := Lib.hid h
  obtain ⟨A, m, c, L, db, h1, h2, h3, h4, rfl⟩ := h
  have HI := Lib.hid h1
  have HD := Lib.hid h2
  have HL := Lib.hid h3
  have HN := Lib.hid h4
  clear h1 h2 h3 h4
  go_enter Try.func12, Try.ntmps12
  go_wp2_with fail
  refine (find_any p d lg m c S.n A L S.fs no w HI.out).mono ?_
  rintro e w' ⟨rfl, rfl⟩
  rw [hi]
  simp only [Option.bind_none]
  go_wp2_with fail
  go_ret
  exact ⟨rfl, Gone.same HPO.out (Below.refl _ _)⟩
set_option maxRecDepth 100000 in
set_option maxHeartbeats 4000000 in
theorem pin_ok (p d lg : Nat) (bs : List Nat) (S : PoolX) (no : Int) (w : World) (h : Pool w p d lg bs S) (i : Nat) (f : Fr) (hi : PoolP.find S.fs no = some i) (hf : S.fs[i]? = some f) (hp : f.pins + 1 ≤ 1000000000) :
    Calls Try.prog 12 #[.pointer (some ⟨p, 0, none⟩), .int .i64 no] w (Told w p d lg bs { S with fs := S.fs.set i { f with pins := f.pins + 1 } } (.int .i64 0)) := by
  have HPO := Lib.hid h
  obtain ⟨A, m, c, L, db, h1, h2, h3, h4, rfl⟩ := h
  have HI := Lib.hid h1
  have HD := Lib.hid h2
  have HL := Lib.hid h3
  have HN := Lib.hid h4
  clear h1 h2 h3 h4
  go_enter Try.func12, Try.ntmps12
  go_wp2_with fail
  refine (find_any p d lg m c S.n A L S.fs no w HI.out).mono ?_
  rintro e w' ⟨rfl, rfl⟩
  obtain ⟨g, hg, hsg, hok⟩ := HI.out.frs.get hf
  rw [hi]
  simp only [Option.bind_some, hg, Option.map_some]
  have hil : i < S.fs.length := (List.getElem?_eq_some_iff.1 hf).1
  have HG := Lib.hid hg
  have HSG := Lib.hid hsg
  have HOK := Lib.hid hok
  have HF := Lib.hid hf
  clear hg hsg hok hf hi
  have hcf := fr_cells HSG.out HOK.out.x
  have hcz := fun j => HSG.out.frozen j
  have hlg := HSG.out.lt
  have hp0 := HOK.out.p0
  have hp1 := HOK.out.p1
  have hwr : wrap64 (f.pins + 1) = f.pins + 1 := IntWalk.wrap64_in _ (by omega)
  go_wp2_with fail
  go_ret
  have hS3 := fr_pins HSG.out HOK.out.x (f.pins + 1)
  have hg3 := grown_set (grown_refl w g) 514 (.int .i64 (f.pins + 1))
  obtain ⟨q1, q2, q3, q4⟩ := put_frame (F := S.fs) (f := { f with pins := f.pins + 1 }) HI.out HD.out HL.out HN.out HG.out hg3 hS3 ⟨HOK.out.x, HOK.out.no, (by show 0 ≤ f.pins + 1; omega), hp⟩
  exact ⟨rfl, blocks p lg A L db, ⟨A, m, c, L, db, q1, q2, q3, HN.out, rfl⟩, fun b hb => .inl hb, q4⟩
theorem set_any (p d lg : Nat) (bs : List Nat) (S : PoolX) (no : Int) (x : List UInt8) (hx : x.length = 512) (w : World) (h : Pool w p d lg bs S) :
    Calls Try.prog 9 #[.pointer (some ⟨p, 0, none⟩), .int .i64 no, .agg (rowV x)] w (Told w p d lg bs (PoolP.set S no x).1 (.int .i64 (PoolP.set S no x).2)) := by
  cases hf : PoolP.find S.fs no with
  | none => rw [PoolP.set_none hf]; exact set_none p d lg bs S no x hx w h hf
  | some i =>
    obtain ⟨f, hi, -⟩ := PoolP.find_some hf
    rw [PoolP.set_some hf hi]
    by_cases hn : NumP.val x 12 2 = no
    · rw [if_pos hn]; exact set_ok p d lg bs S no x hx w h i f hf hi hn
    · rw [if_neg hn]; exact set_bad p d lg bs S no x hx w h i f hf hi hn
theorem pin_any (p d lg : Nat) (bs : List Nat) (S : PoolX) (no : Int) (w : World) (h : Pool w p d lg bs S) (hp : ∀ f ∈ S.fs, f.pins ≤ 100000) :
    Calls Try.prog 12 #[.pointer (some ⟨p, 0, none⟩), .int .i64 no] w (Told w p d lg bs (PoolP.pin S no).1 (.int .i64 (PoolP.pin S no).2)) := by
  cases hf : PoolP.find S.fs no with
  | none => rw [PoolP.pin_none hf]; exact pin_none p d lg bs S no w h hf
  | some i =>
    obtain ⟨f, hi, -⟩ := PoolP.find_some hf
    rw [PoolP.pin_some hf hi]
    exact pin_ok p d lg bs S no w h i f hf hi (by have := hp f (List.mem_of_getElem? hi); omega)
end PoolW
end Go.Proofs.Ytcfieofcnpalgaa
end
section
namespace Go.Proofs.Ytcfieofcnpalgaa
open Go.RowKit
set_option linter.unusedVariables false
set_option linter.unusedSimpArgs false
namespace PoolW
attribute [local go_sem ↓] alPage_fold ldPage_fold stPage_fold bdPage_fold bdFr_fold
theorem blank_len (no : Int) : (PoolP.blank no).length = 512 := by unfold PoolP.blank; rw [SlotP.over_length _ _ _ (by rw [BeP.parts_length, SlotPut.zeros_len]; omega)]; exact SlotPut.zeros_len 512
set_option maxRecDepth 100000 in
set_option maxHeartbeats 4000000 in
theorem fresh_low (p d lg : Nat) (bs : List Nat) (S : PoolX) (no : Int) (w : World) (h : Pool w p d lg bs S) (hi : PoolP.find S.fs no = none) (hn : no < 0) :
    Calls Try.prog 11 #[.pointer (some ⟨p, 0, none⟩), .int .i64 no] w (Told w p d lg bs S (.int .i64 2)) := by
  have HPO := Lib.hid h
  obtain ⟨A, m, c, L, db, h1, h2, h3, h4, rfl⟩ := h
  have HI := Lib.hid h1
  have HD := Lib.hid h2
  have HL := Lib.hid h3
  have HN := Lib.hid h4
  clear h1 h2 h3 h4
  go_enter Try.func11, Try.ntmps11
  go_wp2_with fail
  refine (find_any p d lg m c S.n A L S.fs no w HI.out).mono ?_
  rintro e w' ⟨rfl, rfl⟩
  rw [hi]
  simp only [Option.bind_none]
  have hd : decide (no < 0) = true := by simpa using hn
  go_wp2_with fail
  go_ret
  exact ⟨rfl, Gone.same HPO.out (Below.refl _ _)⟩
set_option maxRecDepth 100000 in
set_option maxHeartbeats 4000000 in
theorem fresh_high (p d lg : Nat) (bs : List Nat) (S : PoolX) (no : Int) (w : World) (h : Pool w p d lg bs S) (hi : PoolP.find S.fs no = none) (hn : ¬ no < 0) (hm : (S.D.safe.length : Int) ≤ no) :
    Calls Try.prog 11 #[.pointer (some ⟨p, 0, none⟩), .int .i64 no] w (Told w p d lg bs S (.int .i64 2)) := by
  have HPO := Lib.hid h
  obtain ⟨A, m, c, L, db, h1, h2, h3, h4, rfl⟩ := h
  have HI := Lib.hid h1
  have HD := Lib.hid h2
  have HL := Lib.hid h3
  have HN := Lib.hid h4
  clear h1 h2 h3 h4
  go_enter Try.func11, Try.ntmps11
  go_wp2_with fail
  refine (find_any p d lg m c S.n A L S.fs no w HI.out).mono ?_
  rintro e w' ⟨rfl, rfl⟩
  rw [hi]
  simp only [Option.bind_none]
  have hd : decide (no < 0) = false := by simp; omega
  have g1 := str4 (show Str w p #[.pointer (some ⟨d, 0, none⟩), .iface 31 (.pointer (some ⟨lg, 0, none⟩)), .int .i64 S.n, .slice A m c] from HI.out.box)
  have hlp := HI.out.box.lt
  go_wp2_with fail
  refine (DevW.pages_any w HD.out).mono ?_
  rintro e W1 ⟨rfl, hb1⟩
  have hd2 : decide ((S.D.safe.length : Int) ≤ no) = true := by simpa using hm
  have HB1 := Lib.hid hb1
  clear hb1
  go_wp2_with fail
  go_ret
  exact ⟨rfl, Gone.same HPO.out HB1.out⟩
set_option maxRecDepth 100000 in
set_option maxHeartbeats 4000000 in
theorem fresh_full (p d lg : Nat) (bs : List Nat) (S : PoolX) (no : Int) (w : World) (h : Pool w p d lg bs S) (hi : PoolP.find S.fs no = none) (hn : ¬ no < 0) (hm : ¬ (S.D.safe.length : Int) ≤ no) (hs : DevP.Small S.D) (he : ¬ (PoolP.free S).2 = 0) :
    Calls Try.prog 11 #[.pointer (some ⟨p, 0, none⟩), .int .i64 no] w (Told w p d lg bs (PoolP.free S).1 (.int .i64 (PoolP.free S).2)) := by
  have HPO := Lib.hid h
  obtain ⟨A, m, c, L, db, h1, h2, h3, h4, rfl⟩ := h
  have HI := Lib.hid h1
  have HD := Lib.hid h2
  have HL := Lib.hid h3
  have HN := Lib.hid h4
  clear h1 h2 h3 h4
  go_enter Try.func11, Try.ntmps11
  go_wp2_with fail
  refine (find_any p d lg m c S.n A L S.fs no w HI.out).mono ?_
  rintro e w' ⟨rfl, rfl⟩
  rw [hi]
  simp only [Option.bind_none]
  have hd : decide (no < 0) = false := by simp; omega
  have g1 := str4 (show Str w p #[.pointer (some ⟨d, 0, none⟩), .iface 31 (.pointer (some ⟨lg, 0, none⟩)), .int .i64 S.n, .slice A m c] from HI.out.box)
  have hlp := HI.out.box.lt
  go_wp2_with fail
  refine (DevW.pages_any w HD.out).mono ?_
  rintro e W1 ⟨rfl, hb1⟩
  have hd2 : decide ((S.D.safe.length : Int) ≤ no) = false := by simp; omega
  have HB1 := Lib.hid hb1
  have HP1 := Lib.hid (HPO.out.next hb1)
  have hb1s := hb1.size
  clear hb1 g1 hlp
  go_wp2_with fail
  refine (free_any p d lg _ S W1 HP1.out hs).mono ?_
  rintro e W2 ⟨rfl, b2, hP2, hn2, hk2⟩
  have hne : ((PoolP.free S).2 != 0) = true := by simpa using he
  have HGO : Hid (Gone w p d lg (blocks p lg A L db) (PoolP.free S).1 W2) := Lib.hid (Gone.step (fun b hb => .inl hb) (Reg.KeepB.of HB1.out) ⟨b2, hP2, hn2, hk2⟩)
  generalize hX : (PoolP.free S).1 = S1 at *
  generalize hY : (PoolP.free S).2 = e1 at *
  clear he hX hY hP2 hn2 hk2
  go_wp2_with fail
  go_ret
  exact ⟨rfl, HGO.out⟩
set_option maxRecDepth 100000 in
set_option maxHeartbeats 4000000 in
theorem fresh_new (p d lg : Nat) (bs : List Nat) (S : PoolX) (no : Int) (w : World) (h : Pool w p d lg bs S) (hi : PoolP.find S.fs no = none) (hn : ¬ no < 0) (hm : ¬ (S.D.safe.length : Int) ≤ no) (hs : DevP.Small S.D) (he : (PoolP.free S).2 = 0) (hs2 : (PoolP.free S).1.fs.length ≤ 90) (hno : In64 no) :
    Calls Try.prog 11 #[.pointer (some ⟨p, 0, none⟩), .int .i64 no] w (Told w p d lg bs { (PoolP.free S).1 with fs := (PoolP.free S).1.fs ++ [⟨no, PoolP.blank no, true, 0⟩] } (.int .i64 0)) := by
  have HPO := Lib.hid h
  obtain ⟨A, m, c, L, db, h1, h2, h3, h4, rfl⟩ := h
  have HI := Lib.hid h1
  have HD := Lib.hid h2
  have HL := Lib.hid h3
  have HN := Lib.hid h4
  clear h1 h2 h3 h4
  go_enter Try.func11, Try.ntmps11
  go_wp2_with fail
  refine (find_any p d lg m c S.n A L S.fs no w HI.out).mono ?_
  rintro e w' ⟨rfl, rfl⟩
  rw [hi]
  simp only [Option.bind_none]
  have hd : decide (no < 0) = false := by simp; omega
  have g1 := str4 (show Str w p #[.pointer (some ⟨d, 0, none⟩), .iface 31 (.pointer (some ⟨lg, 0, none⟩)), .int .i64 S.n, .slice A m c] from HI.out.box)
  have hlp := HI.out.box.lt
  go_wp2_with fail
  refine (DevW.pages_any w HD.out).mono ?_
  rintro e W1 ⟨rfl, hb1⟩
  have hd2 : decide ((S.D.safe.length : Int) ≤ no) = false := by simp; omega
  have HB1 := Lib.hid hb1
  have HP1 := Lib.hid (HPO.out.next hb1)
  have hb1s := hb1.size
  clear hb1 g1 hlp
  go_wp2_with fail
  refine (free_any p d lg _ S W1 HP1.out hs).mono ?_
  rintro e W2 ⟨rfl, b2, hP2, hn2, hk2⟩
  rw [he]
  have HS2 := Lib.hid hs2
  generalize hX : (PoolP.free S).1 = S1 at *
  clear hX he hs2
  have HLT2 := Lib.hid hP2.lt
  obtain ⟨A2, m2, c2, L2, db2, q1, q2, q3, q4, rfl⟩ := hP2
  have hm2 : m2 ≤ 90 := by have h1 := q1.row.len; have h2 := q1.frs.len; have h3 := HS2.out; show _; rw [← h1, h2]; exact h3
  have HI2 := Lib.hid q1
  have HD2 := Lib.hid q2
  have HL2 := Lib.hid q3
  have HN2 := Lib.hid q4
  have HNN := Lib.hid hn2
  have HKK := Lib.hid hk2
  have hfb := fun W => fr_bd0 no W
  have hl2 := hk2.size
  clear q1 q2 q3 q4 hn2 hk2
  go_wp2_with fail
  obtain ⟨V, hV⟩ : ∃ V, W2.alloc (.cells (frC ⟨no, SlotP.zeros 512, false, 0⟩) 48) = V := ⟨_, rfl⟩
  have hbV : Below W2.heap.size W2 V := by rw [← hV]; exact balloc (bsame _) _
  have hfr : Str V W2.heap.size (frC ⟨no, SlotP.zeros 512, false, 0⟩) := by rw [← hV]; exact Str.new _ _ _
  try rw [hV]
  refine (PageW.new_any no V).mono ?_
  rintro e W4 ⟨rfl, hb4⟩
  rw [show SlotP.over (SlotP.zeros 512) 12 (BeP.parts 2 no) = PoolP.blank no from rfl]
  have hG4 := hfr.next hb4
  obtain ⟨W5, hst, hG5, hg5⟩ := st_x hG4 (SlotPut.zeros_len 512) (blank_len no)
  have hlg := hG4.lt
  have hcf := fr_cells hG5 (blank_len no)
  have hcz := fun j => hG5.frozen j
  have hlg2 := hG5.lt
  have HG5 := Lib.hid hG5
  have HB5 := Lib.hid (below_grown (bstep hbV hb4) hg5 (Nat.le_refl _))
  clear hV hbV hfr hb4 hG4 hG5 hg5
  go_wp2_with fail
  have hS6 := fr_dirty HG5.out (blank_len no) true
  have hg6 := grown_set (grown_refl W5 W2.heap.size) 513 (.bool true)
  obtain ⟨W6, hW6⟩ : ∃ W, W5.setCell ⟨W2.heap.size, 513, none⟩ (.bool true) = W := ⟨_, rfl⟩
  rw [hW6] at hS6 hg6 ⊢
  have hb6 := below_grown HB5.out hg6 (Nat.le_refl _)
  refine (use_fresh (W0 := W2) (HI2.out.next hb6) (HD2.out.below hb6) (HL2.out.next hb6) HN2.out W2.heap.size _ hS6 ⟨blank_len no, hno, by show (0 : Int) ≤ 0; omega, by show (0 : Int) ≤ 1000000000; omega⟩ hb6 HLT2.out (Nat.le_refl _) (by omega)).mono ?_
  rintro e W7 ⟨rfl, hG⟩
  have HG7 := Lib.hid (Gone.step (fun b hb => .inl hb) (Reg.KeepB.of HB1.out) (Gone.step HNN.out HKK.out hG))
  clear hG hS6 hg6 hW6 hb6 hst hcf hcz hlg hlg2
  go_wp2_with fail
  go_ret
  exact ⟨rfl, HG7.out⟩
set_option maxRecDepth 100000 in
set_option maxHeartbeats 4000000 in
theorem fresh_in (p d lg : Nat) (bs : List Nat) (S : PoolX) (no : Int) (w : World) (h : Pool w p d lg bs S) (i : Nat) (f : Fr) (hi : PoolP.find S.fs no = some i) (hf : S.fs[i]? = some f) :
    Calls Try.prog 11 #[.pointer (some ⟨p, 0, none⟩), .int .i64 no] w (Told w p d lg bs { S with fs := S.fs.eraseIdx i ++ [{ f with x := PoolP.blank no, dirty := true }] } (.int .i64 0)) := by
  have HPO := Lib.hid h
  obtain ⟨A, m, c, L, db, h1, h2, h3, h4, rfl⟩ := h
  have HI := Lib.hid h1
  have HD := Lib.hid h2
  have HL := Lib.hid h3
  have HN := Lib.hid h4
  clear h1 h2 h3 h4
  go_enter Try.func11, Try.ntmps11
  go_wp2_with fail
  refine (find_any p d lg m c S.n A L S.fs no w HI.out).mono ?_
  rintro e w' ⟨rfl, rfl⟩
  obtain ⟨g, hg, hsg, hok⟩ := HI.out.frs.get hf
  rw [hi]
  simp only [Option.bind_some, hg, Option.map_some]
  have hil : i < S.fs.length := (List.getElem?_eq_some_iff.1 hf).1
  have HG := Lib.hid hg
  have HSG := Lib.hid hsg
  have HOK := Lib.hid hok
  have HF := Lib.hid hf
  clear hg hsg hok hf hi
  go_wp2_with fail
  refine (PageW.new_any no w).mono ?_
  rintro e W1 ⟨rfl, hb1⟩
  rw [show SlotP.over (SlotP.zeros 512) 12 (BeP.parts 2 no) = PoolP.blank no from rfl]
  have HI1 := Lib.hid (HI.out.next hb1)
  have HD1 := Lib.hid (HD.out.below hb1)
  have HL1 := Lib.hid (HL.out.next hb1)
  have HG1 := Lib.hid (HSG.out.next hb1)
  have HK1 := Lib.hid (Reg.KeepB.of (b0 := blocks p lg A L db) hb1)
  have hl1 := hb1.size
  obtain ⟨W2, hst, hG2, hg2⟩ := st_x HG1.out HOK.out.x (blank_len no)
  have hlg := HG1.out.lt
  have hcf := fr_cells hG2 (blank_len no)
  have hcz := fun j => hG2.frozen j
  have hlg2 := hG2.lt
  have HG2 := Lib.hid hG2
  have HGR2 := Lib.hid hg2
  clear hb1 hG2 hg2
  go_wp2_with fail
  have hS3 := fr_dirty HG2.out (blank_len no) true
  have hg3 := grown_set (grown_refl W2 g) 513 (.bool true)
  obtain ⟨W3, hW3⟩ : ∃ W, W2.setCell ⟨g, 513, none⟩ (.bool true) = W := ⟨_, rfl⟩
  rw [hW3] at hS3 hg3 ⊢
  refine (use_put (F := S.fs) (f := { f with x := PoolP.blank no, dirty := true }) HI1.out HD1.out HL1.out HN.out HG.out hil (HGR2.out.trans hg3) hS3 ⟨blank_len no, HOK.out.no, HOK.out.p0, HOK.out.p1⟩ (fun b hb => .inl hb) HK1.out).mono ?_
  rintro e W4 ⟨rfl, hG⟩
  have HG4 := Lib.hid hG
  clear hG hS3 hg3 hW3 hst hcf hcz
  go_wp2_with fail
  go_ret
  exact ⟨rfl, HG4.out⟩
theorem fresh_any (p d lg : Nat) (bs : List Nat) (S : PoolX) (no : Int) (w : World) (h : Pool w p d lg bs S) (hs : DevP.Small S.D) (hs2 : (PoolP.free S).1.fs.length ≤ 90) (hno : In64 no) :
    Calls Try.prog 11 #[.pointer (some ⟨p, 0, none⟩), .int .i64 no] w (Told w p d lg bs (PoolP.fresh S no).1 (.int .i64 (PoolP.fresh S no).2)) := by
  cases hf : PoolP.find S.fs no with
  | some i =>
    obtain ⟨f, hi, -⟩ := PoolP.find_some hf
    rw [PoolP.fresh_some hf hi]
    exact fresh_in p d lg bs S no w h i f hf hi
  | none =>
    rw [PoolP.fresh_none hf]
    by_cases h1 : no < 0
    · rw [if_pos (.inl h1)]; exact fresh_low p d lg bs S no w h hf h1
    · by_cases h2 : (S.D.safe.length : Int) ≤ no
      · rw [if_pos (.inr h2)]; exact fresh_high p d lg bs S no w h hf h1 h2
      · rw [if_neg (by rintro (h | h); exact h1 h; exact h2 h)]
        by_cases he : (PoolP.free S).2 = 0
        · rw [if_pos he]; exact fresh_new p d lg bs S no w h hf h1 h2 hs he hs2 hno
        · rw [if_neg he]; exact fresh_full p d lg bs S no w h hf h1 h2 hs he
end PoolW
end Go.Proofs.Ytcfieofcnpalgaa
end
section
namespace Go.Proofs.Ytcfieofcnpalgaa
open Go.RowKit
set_option linter.unusedVariables false
set_option linter.unusedSimpArgs false
/-- a number in a slice -/
def IntE : El Int where
  size := 1
  pos := by decide
  rel w B vs x := vs = [.int .i64 x]
  len := by rintro w B vs p rfl; rfl
  one := by rintro w B vs p rfl v hv; simp only [List.mem_singleton] at hv; subst hv; rfl
  sub := by rintro w w' B vs p hs h; exact h
  more := by rintro w B B' vs p hB h; exact h
theorem intE_flat {w : World} {B : Nat} : ∀ {vs : List (List Value)} {l : List Int}, Rel2 (IntE.rel w B) vs l → vs.flatten = l.map (Value.int .i64)
  | [], [], _ => rfl
  | [], _ :: _, h => h.elim
  | _ :: _, [], h => h.elim
  | v :: vs, x :: l, h => by
    have h1 : v = [.int .i64 x] := h.1
    rw [List.flatten_cons, h1, intE_flat h.2]
    rfl
theorem intE_rel (w : World) (B : Nat) : ∀ l : List Int, Rel2 (IntE.rel w B) (l.map fun x => [.int .i64 x]) l
  | [] => trivial
  | x :: l => ⟨rfl, intE_rel w B l⟩
theorem intE_map (l : List Int) : (l.map fun x => [Value.int .i64 x]).flatten = l.map (Value.int .i64) := by
  induction l with
  | nil => rfl
  | cons x l ih => rw [List.map_cons, List.flatten_cons, ih]; rfl
theorem IntE.own {w : World} {T : TypeId} {base n c : Nat} {A : Option Addr} {l : List Int} (h : OwnE IntE T w base A n c l) : w.ownsRow base T 1 (.slice A n c) n (l.map (Value.int .i64)) := by
  obtain ⟨vs, h1, h2⟩ := h
  rw [← intE_flat h2]
  exact h1
theorem IntE.mk' {w : World} {T : TypeId} {base n c : Nat} {A : Option Addr} {l : List Int} (h : w.ownsRow base T 1 (.slice A n c) n (l.map (Value.int .i64))) : OwnE IntE T w base A n c l :=
  ⟨l.map fun x => [.int .i64 x], by rw [intE_map]; exact h, intE_rel _ _ l⟩
theorem IntE.grown {w w' : World} {T : TypeId} {base n c g : Nat} {A : Option Addr} {l : List Int} (h : OwnE IntE T w base A n c l) (hg : w.grownBy w' (some g)) (hne : g < base) : OwnE IntE T w' base A n c l :=
  IntE.mk' (own_grown (IntE.own h) hg (fun a e => by have := h.ge a e; omega))
/-- a number typed out, as a source -/
theorem IntE.lit {w wr : World} {b : Nat} {x : Int} (hs : Str w b #[.int .i64 x]) : ElemsIn IntE wr w w.heap.size (some ⟨b, 0, none⟩) 1 1 [x] :=
  ⟨[[.int .i64 x]], ⟨rfl, trivial⟩, rfl, Nat.le_refl _, by unfold maxLen; omega, fun _ => ⟨b, 0, rfl, hs.lt, fun j v hv => by
    have hj : j = 0 := by have := (List.getElem?_eq_some_iff.1 hv).1; simp at this; omega
    subst hj
    simp at hv
    subst hv
    exact hs.cell 0⟩⟩
theorem infoI : (Try.prog.info? 3).map (fun i => (i.zero, i.size, i.bytes)) = some (some (.int .i64 0), 1, 8) := by kernel_rfl
end Go.Proofs.Ytcfieofcnpalgaa
end
section
namespace Go.Proofs.Ytcfieofcnpalgaa
open Go.RowKit
set_option linter.unusedVariables false
set_option linter.unusedSimpArgs false
namespace PoolW
attribute [local go_sem ↓] app_fold
/-- the call hands back a slice of numbers -/
def GivesInts (w : World) (l : List Int) (e : Ending) (w' : World) : Prop := ∃ A n c, e = .returned (.slice A n c) ∧ OwnE IntE 3 w' w.heap.size A n c l ∧ Below w.heap.size w w'
variable {p d lg m c : Nat} {n : Int} {A : Option Addr} {L : List Nat} {F : List Fr}
set_option maxRecDepth 100000 in
set_option maxHeartbeats 1000000 in
theorem in_at (w : World) (h : In w p d lg n A m c L F) :
    Calls Try.prog 15 #[.pointer (some ⟨p, 0, none⟩)] w (GivesInts w (F.map (·.no))) := by
  obtain ⟨i0, hi0, hz0, hz1, hz2⟩ := info_parts infoI
  have HI0 := Lib.hid hi0
  have g0 := str4 (show Str w p #[.pointer (some ⟨d, 0, none⟩), .iface 31 (.pointer (some ⟨lg, 0, none⟩)), .int .i64 n, .slice A m c] from h.box)
  have hlp := h.box.lt
  have hm100 := h.m100
  have hlen := h.row.len
  have H := Lib.hid h
  clear h hi0
  go_enter Try.func15, Try.ntmps15
  go_wp2
  go_loopw [3, 13] (fun sv iv wr => ∃ (k q cq : Nat) (B : Option Addr), k ≤ m ∧ q ≤ k ∧ iv = .int .i64 (k : Int) ∧ sv = .slice B q cq ∧ Hid (OwnE IntE 3 wr w.heap.size B q cq ((F.take k).map (·.no)) ∧ Below w.heap.size w wr)) (fun _ iv _ => m - (intOf iv).toNat)
  case atStart => exact ⟨0, 0, 0, none, Nat.zero_le _, Nat.le_refl _, rfl, rfl, Lib.hid ⟨OwnE.none_ _ _ _ _, bsame w⟩⟩
  case round =>
    obtain ⟨k, q, cq, B, hk, hqk, rfl, rfl, HK⟩ := hrel
    have HB := Lib.hid HK.out.2
    have hsz := HB.out.size
    by_cases hlt : k < m
    · have hd : decide ((k : Int) < (m : Int)) = true := by simp; omega
      have HR := Lib.hid (H.out.next HB.out)
      obtain ⟨b, o, x, rfl, hb, hx, q0⟩ := ptr_at HR.out.row.elems hlt
      obtain ⟨f, hf⟩ : ∃ f, F[k]? = some f := ⟨_, List.getElem?_eq_getElem (by rw [← H.out.frs.len, hlen]; exact hlt)⟩
      have hsx := HR.out.frs.str k x f hx hf
      have hok := H.out.frs.ok f (List.mem_of_getElem? hf)
      obtain ⟨q1, q2, q3⟩ := fr_cells hsx hok.x
      have HF := Lib.hid hf
      have hlx := hsx.lt
      clear hf hx hsx hok q3
      have hb1 : Below wr.heap.size wr (wr.alloc (.cells #[.int .i64 f.no] 3)) := balloc (bsame wr) _
      have hO1 := HK.out.1.next hb1
      obtain ⟨B2, cq2, w3, happ, hO3, hb3, hg3, hA3⟩ := hO1.app (P := Try.prog) 41 41 i0 _ 8 Try.underlying41 HI0.out hz0 hz1 hz2 rfl (IntE.lit (wr := hid B (wr.alloc (.cells #[.int .i64 f.no] 3))) (x := f.no) (Str.new wr _ _)) (by unfold maxLen; omega) (by omega) (by simp; omega)
      have HB3 := Lib.hid ((HB.out.trans (hb1.mono hsz)).trans (hb3.mono (by omega)))
      have HO3 := Lib.hid hO3
      clear hb1 hO1 hO3 hb3 hg3 hA3
      go_wp2
      go_roundw
      case rel => exact ⟨k + 1, q + 1, cq2, B2, by omega, by omega, by go_num, rfl, Lib.hid ⟨by have h := HO3.out; rwa [show ((F.take k).map (·.no)) ++ [f.no] = (F.take (k + 1)).map (·.no) from by rw [List.take_add_one, HF.out, List.map_append]; rfl] at h, HB3.out⟩⟩
      case measure => simp [intOf]; omega
    · have hd : decide ((k : Int) < (m : Int)) = false := by simp; omega
      have hkm : k = m := by omega
      subst hkm
      have HK2 : Hid (OwnE IntE 3 wr w.heap.size B q cq (F.map (·.no))) := Lib.hid (by have h := HK.out.1; rwa [List.take_of_length_le (by rw [← H.out.frs.len, hlen]; exact Nat.le_refl _)] at h)
      clear HK
      go_wp2
      go_ret
      exact ⟨B, q, cq, rfl, HK2.out, HB.out⟩
end PoolW
end Go.Proofs.Ytcfieofcnpalgaa
end
section
namespace Go.Proofs.Ytcfieofcnpalgaa.DevW
open Go.RowKit Go.Maps
set_option linter.unusedVariables false
set_option linter.unusedSimpArgs false
variable {d sb mb : Nat} {bp bs : List Nat} {gb : Option Nat} {A : Option Addr} {n c nm : Nat} {es : List (Int × SlV)} {X : DevX}
def clrSem (ts : Array TypeId) (ty : TypeId) (args : Array Value) : Sem Value := Builtin.clear_ ts ty args
theorem clr_fold (ts : Array TypeId) (ty : TypeId) (args : Array Value) : Builtin.clear_ ts ty args = clrSem ts ty args := rfl
attribute [local go_sem ↓] ldPage_fold stPage_fold clr_fold
end Go.Proofs.Ytcfieofcnpalgaa.DevW
end
section
namespace Go.Proofs.Ytcfieofcnpalgaa
set_option linter.unusedVariables false
namespace PoolP
/-- so many operations more are none too many -/
def Room (k : Nat) (X : DevX) : Prop := X.ops + k ≤ 1000000000 ∧ X.head + X.log.length ≤ 100000000000000 ∧ X.wr + k ≤ 1000000000
theorem Room.less {k j : Nat} {X : DevX} (h : Room k X) (hj : j ≤ k) : Room j X := ⟨by have := h.1; omega, h.2.1, by have := h.2.2; omega⟩
theorem Room.op {k : Nat} {X Y : DevX} (h : Room (k + 1) X) (fits : Bool) (h1 : Y.ops = X.ops) (h2 : Y.head = X.head) (h3 : Y.log = X.log) (h4 : Y.wr ≤ X.wr + 1) : Room k (DevP.op X fits Y) := by
  obtain ⟨a, b, c⟩ := h
  unfold DevP.op
  split
  · refine ⟨?_, ?_, ?_⟩
    · show Y.ops + 1 + (k : Nat) ≤ 1000000000; omega
    · show Y.head + Y.log.length ≤ 100000000000000; rw [h2, h3]; exact b
    · show Y.wr + k ≤ 1000000000; omega
  · unfold DevP.stop
    have hx : Room k X := Room.less (k := k + 1) ⟨a, b, c⟩ (by omega)
    split
    · exact hx
    split
    · exact hx
    · exact ⟨hx.1, hx.2.1, hx.2.2⟩
theorem Room.wrote {k : Nat} {X : DevX} (h : Room (k + 1) X) (fits : Bool) (n : Nat) (p : List UInt8) : Room k (DevP.op X fits (DevP.wrote X n p)) := h.op fits rfl rfl rfl (Nat.le_refl _)
theorem Room.same {k : Nat} {X : DevX} (h : Room (k + 1) X) (fits : Bool) : Room k (DevP.op X fits X) := h.op fits rfl rfl rfl (by omega)
theorem writeAt_fst {s : PoolX} {i : Nat} {f : Fr} : (writeAt s i f).1 = ⟨DevP.op s.D (fits s.D f.no) (DevP.wrote s.D f.no.toNat (PageP.sealed f.x)), force s.far (lsn f.x), s.n, if DevP.err s.D (fits s.D f.no) = 0 then s.fs.set i { f with dirty := false } else s.fs⟩ := by
  unfold writeAt write
  simp only
  split <;> rfl
theorem writeAt_room {s : PoolX} {i : Nat} {f : Fr} {k : Nat} (h : Room (k + 1) s.D) : Room k (writeAt s i f).1.D := by
  rw [writeAt_fst]
  exact h.wrote _ _ _
theorem free_room {s : PoolX} {k : Nat} (h : Room (k + 1) s.D) : Room k (free s).1.D := by
  unfold free
  repeat' split
  all_goals first
    | exact h.less (by omega)
    | exact writeAt_room h
def dirty (F : List Fr) : List Int := ((F.filter (·.dirty)).map (·.no)).mergeSort fun x y => decide (x ≤ y)
end PoolP
end Go.Proofs.Ytcfieofcnpalgaa
end
section
namespace Go.Proofs.Ytcfieofcnpalgaa
set_option linter.unusedVariables false
namespace PageN
/-- a page: its sum, its LSN, its number, its note -/
def mk (s : List UInt8) (a no v : Int) : List UInt8 := s ++ (BeP.parts 8 a ++ (BeP.parts 2 no ++ (SlotP.zeros 2 ++ (BeP.parts 8 v ++ SlotP.zeros 488))))
theorem zeros_len (n : Nat) : (SlotP.zeros n).length = n := List.length_replicate
theorem zeros_add (a b : Nat) : SlotP.zeros (a + b) = SlotP.zeros a ++ SlotP.zeros b := by simp [SlotP.zeros, List.replicate_append_replicate]
theorem parts0 : BeP.parts 8 0 = SlotP.zeros 8 := by decide +kernel
theorem blank_mk (no : Int) : PoolP.blank no = mk (SlotP.zeros 4) 0 no 0 := by
  unfold PoolP.blank mk
  rw [parts0, show SlotP.zeros 512 = SlotP.zeros 12 ++ SlotP.zeros 500 from zeros_add 12 500, SlotP.over_append _ _ _ _ (zeros_len 12), BeP.parts_length, SlotP.zeros_drop, show SlotP.zeros 12 = SlotP.zeros 4 ++ SlotP.zeros 8 from zeros_add 4 8, show SlotP.zeros (500 - 2) = SlotP.zeros 2 ++ (SlotP.zeros 8 ++ SlotP.zeros 488) from by rw [← zeros_add, ← zeros_add], List.append_assoc]
theorem sealed_mk {s : List UInt8} {a no v : Int} (hs : s.length = 4) : PageP.sealed (mk s a no v) = mk (BeP.parts 4 ((CrcP.sum ((mk s a no v).drop 4) : Nat) : Int)) a no v := by
  rw [PageP.sealed_eq]
  congr 1
  unfold mk
  rw [List.drop_left' hs]
theorem val_parts {pre post : List UInt8} {k : Nat} {m : Int} (h0 : 0 ≤ m) (h1 : m < (256 ^ k : Nat)) (hk : k ≤ 7) : NumP.val (pre ++ (BeP.parts k m ++ post)) pre.length k = m := by
  have hl := BeP.parts_length k m
  have hp : 256 ^ k ≤ 256 ^ 7 := Nat.pow_le_pow_right (by omega) hk
  have h7 : 256 ^ 7 = 72057594037927936 := by decide
  have hu : BeP.u64 m = m.toNat := by unfold BeP.u64; omega
  unfold NumP.val
  rw [if_pos (by simp only [List.length_append, hl]; omega), List.drop_left, List.take_append_of_le_length (by omega), List.take_of_length_le (by omega), NumP.num_parts, hu, Nat.mod_eq_of_lt (by omega), NumP.toI_small _ (by omega)]
  omega
section
variable {s : List UInt8} {a no v : Int}
theorem mk_no (hs : s.length = 4) (h0 : 0 ≤ no) (h1 : no < 65536) : NumP.val (mk s a no v) 12 2 = no := by
  unfold mk
  have h := val_parts (pre := s ++ BeP.parts 8 a) (post := SlotP.zeros 2 ++ (BeP.parts 8 v ++ SlotP.zeros 488)) (k := 2) h0 h1 (by omega)
  rw [List.length_append, hs, BeP.parts_length, List.append_assoc] at h
  exact h
theorem mk_drop (hs : s.length = 4) : (mk s a no v).drop 24 = SlotP.zeros 488 := by
  unfold mk
  rw [show s ++ (BeP.parts 8 a ++ (BeP.parts 2 no ++ (SlotP.zeros 2 ++ (BeP.parts 8 v ++ SlotP.zeros 488)))) = (s ++ (BeP.parts 8 a ++ (BeP.parts 2 no ++ (SlotP.zeros 2 ++ BeP.parts 8 v)))) ++ SlotP.zeros 488 from by simp only [List.append_assoc], List.drop_left' (by simp only [List.length_append, BeP.parts_length, zeros_len, hs])]
theorem zeros_all (n : Nat) : PageP.allz (SlotP.zeros n) = true := by
  unfold PageP.allz SlotP.zeros
  rw [List.all_eq_true]
  intro x hx
  rw [(List.mem_replicate.1 hx).2]
  rfl
theorem zeros_take (n m : Nat) (h : m ≤ n) : (SlotP.zeros n).take m = SlotP.zeros m := by
  unfold SlotP.zeros
  rw [List.take_replicate, Nat.min_eq_left h]
theorem slots_zero {l : List UInt8} (hl : l.drop 24 = SlotP.zeros 488) : ∀ k : Nat, k ≤ 7 → PageP.slotsOk l k = true
  | 0, _ => rfl
  | k + 1, h => by
    rw [PageP.slotsOk_succ, slots_zero hl k (by omega), Bool.true_and]
    unfold PageP.slot
    rw [if_neg (by omega), show 32 + (k : Int).toNat * 64 = 24 + (8 + k * 64) by simp; omega, ← List.drop_drop, hl, SlotP.zeros_drop, zeros_take _ _ (by omega), SlotP.get_zeros]
    rfl
theorem right_of {l : List UInt8} (hs : NumP.val l 0 4 = ((CrcP.sum (l.drop 4) : Nat) : Int)) (hn : NumP.val l 12 2 = no) (hl : l.drop 24 = SlotP.zeros 488) : PageP.right l no = true := by
  rw [PageP.right_eq, hs, hn, hl, slots_zero hl 7 (by omega), zeros_take _ _ (by omega), zeros_all, show l.drop 480 = SlotP.zeros 32 from by rw [show (480 : Nat) = 24 + 456 from rfl, ← List.drop_drop, hl, SlotP.zeros_drop], zeros_all]
  simp
theorem sealed_right (hs : s.length = 4) (h0 : 0 ≤ no) (h1 : no < 65536) : PageP.right (PageP.sealed (mk s a no v)) no = true := by
  have hk : (BeP.parts 4 ((CrcP.sum ((mk s a no v).drop 4) : Nat) : Int)).length = 4 := BeP.parts_length 4 _
  have hlt := CrcP.sum_lt ((mk s a no v).drop 4)
  refine right_of ?_ ?_ ?_
  · rw [PageP.sealed_eq, List.drop_left' hk]
    have h := val_parts (pre := []) (post := (mk s a no v).drop 4) (k := 4) (m := ((CrcP.sum ((mk s a no v).drop 4) : Nat) : Int)) (by omega) (by omega) (by omega)
    exact h
  · rw [sealed_mk hs]; exact mk_no hk h0 h1
  · rw [sealed_mk hs]; exact mk_drop hk
end
end PageN
end Go.Proofs.Ytcfieofcnpalgaa
end
section
namespace Go.Proofs.Ytcfieofcnpalgaa.SameL
open Go.RowKit
set_option linter.unusedVariables false
set_option linter.unusedSimpArgs false
theorem int_at {wr w : World} {B n c k : Nat} {A : Option Addr} {l : List Int} (h : ElemsIn IntE wr w B A n c l) (hk : k < n) : ∃ b o x, A = some ⟨b, o, none⟩ ∧ b < B ∧ l[k]? = some x ∧ w.cell? ⟨b, o + k, none⟩ = some (.int .i64 x) := by
  have hl : k < l.length := by rw [h.len]; exact hk
  obtain ⟨b, o, vs, e, hb, rfl, hc⟩ := h.at_ hk
  refine ⟨b, o, _, e, hb, List.getElem?_eq_getElem hl, ?_⟩
  have := hc 0 _ rfl
  rwa [show o + k * IntE.size + 0 = o + k from by show o + k * 1 + 0 = _; omega] at this
set_option maxRecDepth 100000 in
set_option maxHeartbeats 1000000 in
theorem sameList_any {A : Option Addr} {n c : Nat} {A' : Option Addr} {n' c' : Nat} {l l' : List Int} (w : World) (hE : Elems IntE w w.heap.size A n c l) (hE' : Elems IntE w w.heap.size A' n' c' l') :
    Calls Try.prog 24 #[.slice A n c, .slice A' n' c'] w fun e w' => e = .returned (.bool (decide (l = l'))) ∧ Below w.heap.size w w' := by
  have HE := Lib.hid hE
  have HE' := Lib.hid hE'
  have hcap := Nat.le_trans hE.cap.1 hE.cap.2
  unfold maxLen at hcap
  have hln := hE.len
  have hln' := hE'.len
  clear hE hE'
  by_cases hnn : n = n'
  · subst hnn
    go_enter Try.func24, Try.ntmps24
    go_wp2
    go_loopw [5] (fun i wr => ∃ k : Nat, k ≤ n ∧ i = .int .i64 (k : Int) ∧ Hid (l.take k = l'.take k ∧ Below w.heap.size w wr)) (fun i _ => n - (intOf i).toNat)
    case atStart => exact ⟨0, Nat.zero_le _, rfl, Lib.hid ⟨rfl, bsame w⟩⟩
    case round =>
      obtain ⟨i, hi, rfl, HG⟩ := hrel
      have HB := Lib.hid HG.out.2
      have hsz := HB.out.size
      by_cases hlt : i < n
      · have hd : decide ((i : Int) < (n : Int)) = true := by simpa using hlt
        obtain ⟨b, o, x, rfl, hb, hx, q0⟩ := int_at HE.out hlt
        obtain ⟨b', o', x', rfl, hb', hx', q0'⟩ := int_at HE'.out hlt
        replace q0 := (HB.out.cell (p := ⟨b, o + i, none⟩) hb).trans q0
        replace q0' := (HB.out.cell (p := ⟨b', o' + i, none⟩) hb').trans q0'
        by_cases he : x = x'
        · subst he
          have hd2 : (x != x) = false := by simp
          have HN : Hid (l.take (i + 1) = l'.take (i + 1)) := Lib.hid (by rw [List.take_add_one, List.take_add_one, hx, hx', HG.out.1])
          clear HG hx hx' hln hln'
          go_wp2_with (first | go_quiet (fail) | go_in)
          go_wp2
          go_roundw
          case rel => exact ⟨i + 1, by omega, by go_num, Lib.hid ⟨HN.out, drewN_below HB.out _⟩⟩
          case measure => simp [intOf]; omega
        · have hd2 : (x != x') = true := by simpa using he
          have HN : Hid (decide (l = l') = false) := Lib.hid (by simp only [decide_eq_false_iff_not]; rintro rfl; rw [hx] at hx'; cases hx'; exact he rfl)
          clear HG hx hx' hln hln' he
          go_wp2_with (first | go_quiet (fail) | go_in)
          go_wp2
          go_ret
          exact ⟨by rw [HN.out]; rfl, drewN_below HB.out _⟩
      · have hd : decide ((i : Int) < (n : Int)) = false := by simp; omega
        have hin : i = n := by omega
        subst hin
        have HN : Hid (decide (l = l') = true) := Lib.hid (by
          have := HG.out.1
          rw [List.take_of_length_le (by omega), List.take_of_length_le (by omega)] at this
          simpa using this)
        go_wp2
        go_ret
        exact ⟨by rw [HN.out]; rfl, HB.out⟩
  · have hd : ((n : Int) != (n' : Int)) = true := by simp; omega
    have HN : Hid (decide (l = l') = false) := Lib.hid (by simp only [decide_eq_false_iff_not]; rintro rfl; omega)
    go_enter Try.func24, Try.ntmps24
    go_wp2
    go_ret
    exact ⟨by rw [HN.out]; rfl, bsame _⟩
end Go.Proofs.Ytcfieofcnpalgaa.SameL
end
