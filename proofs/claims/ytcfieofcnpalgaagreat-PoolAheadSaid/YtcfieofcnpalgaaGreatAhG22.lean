/-
  Parts of the proof of PoolAhead.
-/
import Derived.Test.YtcfieofcnpalgaaGreatAhG21
import Derived.Test.YtcfieofcnpalgaaGreatAhG11
section
namespace Go.Proofs.YtcfieofcnpalgaaGreat
open Go.RowKit
set_option linter.unusedVariables false
set_option linter.unusedSimpArgs false
namespace PoolW
attribute [local go_sem ↓] alPage_fold ldPage_fold stPage_fold bdPage_fold bdFr_fold
set_option maxRecDepth 100000 in
set_option maxHeartbeats 4000000 in
theorem set_none (p d lg : Nat) (bs : List Nat) (S : PoolX) (no : Int) (x : List UInt8) (hx : x.length = 512) (w : World) (h : Pool w p d lg bs S) (hi : PoolP.find S.fs no = none) :
    Calls Tryz.prog 11 #[.pointer (some ⟨p, 0, none⟩), .int .i64 no, .agg (rowV x)] w (Told w p d lg bs S (.int .i64 5)) := by
  obtain ⟨W0, hW0⟩ : ∃ W0, w.alloc (.cells (rowV x) 42) = W0 := ⟨_, rfl⟩
  have hb0 : Below w.heap.size w W0 := by rw [← hW0]; exact balloc (bsame w) _
  have hS0 : Str W0 w.heap.size (rowV x) := by rw [← hW0]; exact Str.new _ _ _
  have HP0 := Lib.hid (h.next hb0)
  have HB0 := Lib.hid hb0
  have HBL := Lib.hid h.lt
  have HX := Lib.hid hx
  have hld := run_ld (P := Tryz.prog) arrPage hS0 hx
  have HS0 := Lib.hid hS0
  have hl0 := hS0.lt
  have hwa : (Value.agg (rowV x)).cells = rowV x := rfl
  clear hb0 hS0 h hx
  obtain ⟨A, m, c, L, db, h1, h2, h3, h4, rfl⟩ := HP0.out
  have HI := Lib.hid h1
  have HD := Lib.hid h2
  have HL := Lib.hid h3
  have HN := Lib.hid h4
  clear h1 h2 h3 h4
  go_enter Tryz.func11, Tryz.ntmps11
  go_wp2_with fail
  refine (find_any p d lg m c S.n A L S.fs no W0 HI.out).mono ?_
  rintro e w' ⟨rfl, rfl⟩
  rw [hi]
  simp only [Option.bind_none]
  go_wp2_with fail
  go_ret
  exact ⟨rfl, Gone.step (fun b hb => .inl hb) (Reg.KeepB.of HB0.out) (Gone.same HP0.out (Below.refl _ _))⟩
set_option maxRecDepth 100000 in
set_option maxHeartbeats 4000000 in
theorem set_bad (p d lg : Nat) (bs : List Nat) (S : PoolX) (no : Int) (x : List UInt8) (hx : x.length = 512) (w : World) (h : Pool w p d lg bs S) (i : Nat) (f : Fr) (hi : PoolP.find S.fs no = some i) (hf : S.fs[i]? = some f) (hn : ¬ NumP.val x 12 2 = no) :
    Calls Tryz.prog 11 #[.pointer (some ⟨p, 0, none⟩), .int .i64 no, .agg (rowV x)] w (Told w p d lg bs S (.int .i64 1)) := by
  obtain ⟨W0, hW0⟩ : ∃ W0, w.alloc (.cells (rowV x) 42) = W0 := ⟨_, rfl⟩
  have hb0 : Below w.heap.size w W0 := by rw [← hW0]; exact balloc (bsame w) _
  have hS0 : Str W0 w.heap.size (rowV x) := by rw [← hW0]; exact Str.new _ _ _
  have HP0 := Lib.hid (h.next hb0)
  have HB0 := Lib.hid hb0
  have HBL := Lib.hid h.lt
  have HX := Lib.hid hx
  have hld := run_ld (P := Tryz.prog) arrPage hS0 hx
  have HS0 := Lib.hid hS0
  have hl0 := hS0.lt
  have hwa : (Value.agg (rowV x)).cells = rowV x := rfl
  clear hb0 hS0 h hx
  obtain ⟨A, m, c, L, db, h1, h2, h3, h4, rfl⟩ := HP0.out
  have HI := Lib.hid h1
  have HD := Lib.hid h2
  have HL := Lib.hid h3
  have HN := Lib.hid h4
  clear h1 h2 h3 h4
  go_enter Tryz.func11, Tryz.ntmps11
  go_wp2_with fail
  refine (find_any p d lg m c S.n A L S.fs no W0 HI.out).mono ?_
  rintro e w' ⟨rfl, rfl⟩
  obtain ⟨g, hg, hsg, hok⟩ := HI.out.frs.get hf
  rw [hi]
  simp only [Option.bind_some, hg, Option.map_some]
  have hil : i < S.fs.length := (List.getElem?_eq_some_iff.1 hf).1
  have HG := Lib.hid hg
  have HSG := Lib.hid hsg
  have HOK := Lib.hid hok
  have HF := Lib.hid hf
  clear hg hsg hok hf hi
  go_wp2_with fail
  refine (PageW.no_any x HX.out W0).mono ?_
  rintro e W1 ⟨rfl, hb1⟩
  have hne : (NumP.val x 12 2 != no) = true := by simpa using hn
  have HB1 := Lib.hid hb1
  clear hb1 hld
  go_wp2_with fail
  go_ret
  exact ⟨rfl, Gone.step (fun b hb => .inl hb) (Reg.KeepB.of HB0.out) (Gone.same HP0.out HB1.out)⟩
set_option maxRecDepth 100000 in
set_option maxHeartbeats 4000000 in
theorem set_ok (p d lg : Nat) (bs : List Nat) (S : PoolX) (no : Int) (x : List UInt8) (hx : x.length = 512) (w : World) (h : Pool w p d lg bs S) (i : Nat) (f : Fr) (hi : PoolP.find S.fs no = some i) (hf : S.fs[i]? = some f) (hn : NumP.val x 12 2 = no) :
    Calls Tryz.prog 11 #[.pointer (some ⟨p, 0, none⟩), .int .i64 no, .agg (rowV x)] w (Told w p d lg bs { S with fs := S.fs.eraseIdx i ++ [{ f with x := x, dirty := true }] } (.int .i64 0)) := by
  obtain ⟨W0, hW0⟩ : ∃ W0, w.alloc (.cells (rowV x) 42) = W0 := ⟨_, rfl⟩
  have hb0 : Below w.heap.size w W0 := by rw [← hW0]; exact balloc (bsame w) _
  have hS0 : Str W0 w.heap.size (rowV x) := by rw [← hW0]; exact Str.new _ _ _
  have HP0 := Lib.hid (h.next hb0)
  have HB0 := Lib.hid hb0
  have HBL := Lib.hid h.lt
  have HX := Lib.hid hx
  have hld := run_ld (P := Tryz.prog) arrPage hS0 hx
  have HS0 := Lib.hid hS0
  have hl0 := hS0.lt
  have hwa : (Value.agg (rowV x)).cells = rowV x := rfl
  clear hb0 hS0 h hx
  obtain ⟨A, m, c, L, db, h1, h2, h3, h4, rfl⟩ := HP0.out
  have HI := Lib.hid h1
  have HD := Lib.hid h2
  have HL := Lib.hid h3
  have HN := Lib.hid h4
  clear h1 h2 h3 h4
  go_enter Tryz.func11, Tryz.ntmps11
  go_wp2_with fail
  refine (find_any p d lg m c S.n A L S.fs no W0 HI.out).mono ?_
  rintro e w' ⟨rfl, rfl⟩
  obtain ⟨g, hg, hsg, hok⟩ := HI.out.frs.get hf
  rw [hi]
  simp only [Option.bind_some, hg, Option.map_some]
  have hil : i < S.fs.length := (List.getElem?_eq_some_iff.1 hf).1
  have HG := Lib.hid hg
  have HSG := Lib.hid hsg
  have HOK := Lib.hid hok
  have HF := Lib.hid hf
  clear hg hsg hok hf hi
  go_wp2_with fail
  refine (PageW.no_any x HX.out W0).mono ?_
  rintro e W1 ⟨rfl, hb1⟩
  have hne : (NumP.val x 12 2 != no) = false := by simp [hn]
  have HI1 := Lib.hid (HI.out.next hb1)
  have HD1 := Lib.hid (HD.out.below hb1)
  have HL1 := Lib.hid (HL.out.next hb1)
  have HG1 := Lib.hid (HSG.out.next hb1)
  have HK1 := Lib.hid ((Reg.KeepB.of (b0 := blocks p lg A L db) HB0.out).step hb1 HB0.out.size)
  have hld := run_ld (P := Tryz.prog) arrPage (HS0.out.next hb1) HX.out
  have hl1 := hb1.size
  obtain ⟨W2, hst, hG2, hg2⟩ := st_x HG1.out HOK.out.x HX.out
  have hlg := HG1.out.lt
  have hcf := fr_cells hG2 HX.out
  have hcz := fun j => hG2.frozen j
  have hlg2 := hG2.lt
  have HG2 := Lib.hid hG2
  have HGR2 := Lib.hid hg2
  clear hb1 hn hG2 hg2
  go_wp2_with fail
  have hS3 := fr_dirty HG2.out HX.out true
  have hg3 := grown_set (grown_refl W2 g) 513 (.bool true)
  obtain ⟨W3, hW3⟩ : ∃ W, W2.setCell ⟨g, 513, none⟩ (.bool true) = W := ⟨_, rfl⟩
  rw [hW3] at hS3 hg3 ⊢
  refine (use_put (F := S.fs) (f := { f with x := x, dirty := true }) HI1.out HD1.out HL1.out HN.out HG.out hil (HGR2.out.trans hg3) hS3 ⟨HX.out, HOK.out.no, HOK.out.p0, HOK.out.p1⟩ (fun b hb => .inl hb) HK1.out).mono ?_
  rintro e W4 ⟨rfl, hG⟩
  have HG4 := Lib.hid hG
  clear hG hS3 hg3 hW3 hld hst hcf hcz
  go_wp2_with fail
  go_ret
  exact ⟨rfl, HG4.out⟩
set_option maxRecDepth 100000 in
set_option maxHeartbeats 4000000 in
theorem pin_none (p d lg : Nat) (bs : List Nat) (S : PoolX) (no : Int) (w : World) (h : Pool w p d lg bs S) (hi : PoolP.find S.fs no = none) :
    Calls Tryz.prog 20 #[.pointer (some ⟨p, 0, none⟩), .int .i64 no] w (Told w p d lg bs S (.int .i64 5)) := by
  have HPO := Lib.hid h
  obtain ⟨A, m, c, L, db, h1, h2, h3, h4, rfl⟩ := h
  have HI := Lib.hid h1
  have HD := Lib.hid h2
  have HL := Lib.hid h3
  have HN := Lib.hid h4
  clear h1 h2 h3 h4
  go_enter Tryz.func20, Tryz.ntmps20
  go_wp2_with fail
  refine (find_any p d lg m c S.n A L S.fs no w HI.out).mono ?_
  rintro e w' ⟨rfl, rfl⟩
  rw [hi]
  simp only [Option.bind_none]
  go_wp2_with fail
  go_ret
  exact ⟨rfl, Gone.same HPO.out (Below.refl _ _)⟩
set_option maxRecDepth 100000 in
set_option maxHeartbeats 4000000 in
theorem pin_ok (p d lg : Nat) (bs : List Nat) (S : PoolX) (no : Int) (w : World) (h : Pool w p d lg bs S) (i : Nat) (f : Fr) (hi : PoolP.find S.fs no = some i) (hf : S.fs[i]? = some f) (hp : f.pins + 1 ≤ 1000000000) :
    Calls Tryz.prog 20 #[.pointer (some ⟨p, 0, none⟩), .int .i64 no] w (Told w p d lg bs { S with fs := S.fs.set i { f with pins := f.pins + 1 } } (.int .i64 0)) := by
  have HPO := Lib.hid h
  obtain ⟨A, m, c, L, db, h1, h2, h3, h4, rfl⟩ := h
  have HI := Lib.hid h1
  have HD := Lib.hid h2
  have HL := Lib.hid h3
  have HN := Lib.hid h4
  clear h1 h2 h3 h4
  go_enter Tryz.func20, Tryz.ntmps20
  go_wp2_with fail
  refine (find_any p d lg m c S.n A L S.fs no w HI.out).mono ?_
  rintro e w' ⟨rfl, rfl⟩
  obtain ⟨g, hg, hsg, hok⟩ := HI.out.frs.get hf
  rw [hi]
  simp only [Option.bind_some, hg, Option.map_some]
  have hil : i < S.fs.length := (List.getElem?_eq_some_iff.1 hf).1
  have HG := Lib.hid hg
  have HSG := Lib.hid hsg
  have HOK := Lib.hid hok
  have HF := Lib.hid hf
  clear hg hsg hok hf hi
  have hcf := fr_cells HSG.out HOK.out.x
  have hcz := fun j => HSG.out.frozen j
  have hlg := HSG.out.lt
  have hp0 := HOK.out.p0
  have hp1 := HOK.out.p1
  have hwr : wrap64 (f.pins + 1) = f.pins + 1 := IntWalk.wrap64_in _ (by omega)
  go_wp2_with fail
  go_ret
  have hS3 := fr_pins HSG.out HOK.out.x (f.pins + 1)
  have hg3 := grown_set (grown_refl w g) 514 (.int .i64 (f.pins + 1))
  obtain ⟨q1, q2, q3, q4⟩ := put_frame (F := S.fs) (f := { f with pins := f.pins + 1 }) HI.out HD.out HL.out HN.out HG.out hg3 hS3 ⟨HOK.out.x, HOK.out.no, (by show 0 ≤ f.pins + 1; omega), hp⟩
  exact ⟨rfl, blocks p lg A L db, ⟨A, m, c, L, db, q1, q2, q3, HN.out, rfl⟩, fun b hb => .inl hb, q4⟩
set_option maxRecDepth 100000 in
set_option maxHeartbeats 4000000 in
theorem unpin_none (p d lg : Nat) (bs : List Nat) (S : PoolX) (no : Int) (w : World) (h : Pool w p d lg bs S) (hi : PoolP.find S.fs no = none) :
    Calls Tryz.prog 23 #[.pointer (some ⟨p, 0, none⟩), .int .i64 no] w (Told w p d lg bs S (.bool false)) := by
  have HPO := Lib.hid h
  obtain ⟨A, m, c, L, db, h1, h2, h3, h4, rfl⟩ := h
  have HI := Lib.hid h1
  have HD := Lib.hid h2
  have HL := Lib.hid h3
  have HN := Lib.hid h4
  clear h1 h2 h3 h4
  go_enter Tryz.func23, Tryz.ntmps23
  go_wp2_with fail
  refine (find_any p d lg m c S.n A L S.fs no w HI.out).mono ?_
  rintro e w' ⟨rfl, rfl⟩
  rw [hi]
  simp only [Option.bind_none]
  go_wp2_with fail
  go_ret
  exact ⟨rfl, Gone.same HPO.out (Below.refl _ _)⟩
set_option maxRecDepth 100000 in
set_option maxHeartbeats 4000000 in
theorem unpin_zero (p d lg : Nat) (bs : List Nat) (S : PoolX) (no : Int) (w : World) (h : Pool w p d lg bs S) (i : Nat) (f : Fr) (hi : PoolP.find S.fs no = some i) (hf : S.fs[i]? = some f) (hp : f.pins = 0) :
    Calls Tryz.prog 23 #[.pointer (some ⟨p, 0, none⟩), .int .i64 no] w (Told w p d lg bs S (.bool false)) := by
  have HPO := Lib.hid h
  obtain ⟨A, m, c, L, db, h1, h2, h3, h4, rfl⟩ := h
  have HI := Lib.hid h1
  have HD := Lib.hid h2
  have HL := Lib.hid h3
  have HN := Lib.hid h4
  clear h1 h2 h3 h4
  go_enter Tryz.func23, Tryz.ntmps23
  go_wp2_with fail
  refine (find_any p d lg m c S.n A L S.fs no w HI.out).mono ?_
  rintro e w' ⟨rfl, rfl⟩
  obtain ⟨g, hg, hsg, hok⟩ := HI.out.frs.get hf
  rw [hi]
  simp only [Option.bind_some, hg, Option.map_some]
  have hil : i < S.fs.length := (List.getElem?_eq_some_iff.1 hf).1
  have HG := Lib.hid hg
  have HSG := Lib.hid hsg
  have HOK := Lib.hid hok
  have HF := Lib.hid hf
  clear hg hsg hok hf hi
  have hcf := fr_cells HSG.out HOK.out.x
  have hcz := fun j => HSG.out.frozen j
  have hlg := HSG.out.lt
  rw [hp] at hcf
  clear hp
  go_wp2_with fail
  go_ret
  exact ⟨rfl, Gone.same HPO.out (Below.refl _ _)⟩
set_option maxRecDepth 100000 in
set_option maxHeartbeats 4000000 in
theorem unpin_ok (p d lg : Nat) (bs : List Nat) (S : PoolX) (no : Int) (w : World) (h : Pool w p d lg bs S) (i : Nat) (f : Fr) (hi : PoolP.find S.fs no = some i) (hf : S.fs[i]? = some f) (hp : ¬ f.pins = 0) :
    Calls Tryz.prog 23 #[.pointer (some ⟨p, 0, none⟩), .int .i64 no] w (Told w p d lg bs { S with fs := S.fs.set i { f with pins := f.pins - 1 } } (.bool true)) := by
  have HPO := Lib.hid h
  obtain ⟨A, m, c, L, db, h1, h2, h3, h4, rfl⟩ := h
  have HI := Lib.hid h1
  have HD := Lib.hid h2
  have HL := Lib.hid h3
  have HN := Lib.hid h4
  clear h1 h2 h3 h4
  go_enter Tryz.func23, Tryz.ntmps23
  go_wp2_with fail
  refine (find_any p d lg m c S.n A L S.fs no w HI.out).mono ?_
  rintro e w' ⟨rfl, rfl⟩
  obtain ⟨g, hg, hsg, hok⟩ := HI.out.frs.get hf
  rw [hi]
  simp only [Option.bind_some, hg, Option.map_some]
  have hil : i < S.fs.length := (List.getElem?_eq_some_iff.1 hf).1
  have HG := Lib.hid hg
  have HSG := Lib.hid hsg
  have HOK := Lib.hid hok
  have HF := Lib.hid hf
  clear hg hsg hok hf hi
  have hcf := fr_cells HSG.out HOK.out.x
  have hcz := fun j => HSG.out.frozen j
  have hlg := HSG.out.lt
  have hp0 := HOK.out.p0
  have hp1 := HOK.out.p1
  have hwr : wrap64 (f.pins - 1) = f.pins - 1 := IntWalk.wrap64_in _ (by omega)
  have hne : (f.pins == 0) = false := by simpa using hp
  go_wp2_with fail
  go_ret
  have hS3 := fr_pins HSG.out HOK.out.x (f.pins - 1)
  have hg3 := grown_set (grown_refl w g) 514 (.int .i64 (f.pins - 1))
  obtain ⟨q1, q2, q3, q4⟩ := put_frame (F := S.fs) (f := { f with pins := f.pins - 1 }) HI.out HD.out HL.out HN.out HG.out hg3 hS3 ⟨HOK.out.x, HOK.out.no, (by show 0 ≤ f.pins - 1; omega), (by show f.pins - 1 ≤ 1000000000; omega)⟩
  exact ⟨rfl, blocks p lg A L db, ⟨A, m, c, L, db, q1, q2, q3, HN.out, rfl⟩, fun b hb => .inl hb, q4⟩
theorem set_any (p d lg : Nat) (bs : List Nat) (S : PoolX) (no : Int) (x : List UInt8) (hx : x.length = 512) (w : World) (h : Pool w p d lg bs S) :
    Calls Tryz.prog 11 #[.pointer (some ⟨p, 0, none⟩), .int .i64 no, .agg (rowV x)] w (Told w p d lg bs (PoolP.set S no x).1 (.int .i64 (PoolP.set S no x).2)) := by
  cases hf : PoolP.find S.fs no with
  | none => rw [PoolP.set_none hf]; exact set_none p d lg bs S no x hx w h hf
  | some i =>
    obtain ⟨f, hi, -⟩ := PoolP.find_some hf
    rw [PoolP.set_some hf hi]
    by_cases hn : NumP.val x 12 2 = no
    · rw [if_pos hn]; exact set_ok p d lg bs S no x hx w h i f hf hi hn
    · rw [if_neg hn]; exact set_bad p d lg bs S no x hx w h i f hf hi hn
theorem pin_any (p d lg : Nat) (bs : List Nat) (S : PoolX) (no : Int) (w : World) (h : Pool w p d lg bs S) (hp : ∀ f ∈ S.fs, f.pins ≤ 100000) :
    Calls Tryz.prog 20 #[.pointer (some ⟨p, 0, none⟩), .int .i64 no] w (Told w p d lg bs (PoolP.pin S no).1 (.int .i64 (PoolP.pin S no).2)) := by
  cases hf : PoolP.find S.fs no with
  | none => rw [PoolP.pin_none hf]; exact pin_none p d lg bs S no w h hf
  | some i =>
    obtain ⟨f, hi, -⟩ := PoolP.find_some hf
    rw [PoolP.pin_some hf hi]
    exact pin_ok p d lg bs S no w h i f hf hi (by have := hp f (List.mem_of_getElem? hi); omega)
theorem unpin_any (p d lg : Nat) (bs : List Nat) (S : PoolX) (no : Int) (w : World) (h : Pool w p d lg bs S) :
    Calls Tryz.prog 23 #[.pointer (some ⟨p, 0, none⟩), .int .i64 no] w (Told w p d lg bs (PoolP.unpin S no).1 (.bool (PoolP.unpin S no).2)) := by
  cases hf : PoolP.find S.fs no with
  | none => rw [PoolP.unpin_none hf]; exact unpin_none p d lg bs S no w h hf
  | some i =>
    obtain ⟨f, hi, -⟩ := PoolP.find_some hf
    rw [PoolP.unpin_some hf hi]
    by_cases hp : f.pins = 0
    · rw [if_pos hp]; exact unpin_zero p d lg bs S no w h i f hf hi hp
    · rw [if_neg hp]; exact unpin_ok p d lg bs S no w h i f hf hi hp
end PoolW
end Go.Proofs.YtcfieofcnpalgaaGreat
end
section
namespace Go.Proofs.YtcfieofcnpalgaaGreat
open Go.RowKit
set_option linter.unusedVariables false
set_option linter.unusedSimpArgs false
namespace PoolW
attribute [local go_sem ↓] alPage_fold ldPage_fold stPage_fold bdPage_fold bdFr_fold
theorem blank_len (no : Int) : (PoolP.blank no).length = 512 := by unfold PoolP.blank; rw [SlotP.over_length _ _ _ (by rw [BeP.parts_length, SlotPut.zeros_len]; omega)]; exact SlotPut.zeros_len 512
set_option maxRecDepth 100000 in
set_option maxHeartbeats 4000000 in
theorem fresh_low (p d lg : Nat) (bs : List Nat) (S : PoolX) (no : Int) (w : World) (h : Pool w p d lg bs S) (hi : PoolP.find S.fs no = none) (hn : no < 0) :
    Calls Tryz.prog 21 #[.pointer (some ⟨p, 0, none⟩), .int .i64 no] w (Told w p d lg bs S (.int .i64 2)) := by
  have HPO := Lib.hid h
  obtain ⟨A, m, c, L, db, h1, h2, h3, h4, rfl⟩ := h
  have HI := Lib.hid h1
  have HD := Lib.hid h2
  have HL := Lib.hid h3
  have HN := Lib.hid h4
  clear h1 h2 h3 h4
  go_enter Tryz.func21, Tryz.ntmps21
  go_wp2_with fail
  refine (find_any p d lg m c S.n A L S.fs no w HI.out).mono ?_
  rintro e w' ⟨rfl, rfl⟩
  rw [hi]
  simp only [Option.bind_none]
  have hd : decide (no < 0) = true := by simpa using hn
  go_wp2_with fail
  go_ret
  exact ⟨rfl, Gone.same HPO.out (Below.refl _ _)⟩
set_option maxRecDepth 100000 in
set_option maxHeartbeats 4000000 in
theorem fresh_high (p d lg : Nat) (bs : List Nat) (S : PoolX) (no : Int) (w : World) (h : Pool w p d lg bs S) (hi : PoolP.find S.fs no = none) (hn : ¬ no < 0) (hm : (S.D.safe.length : Int) ≤ no) :
    Calls Tryz.prog 21 #[.pointer (some ⟨p, 0, none⟩), .int .i64 no] w (Told w p d lg bs S (.int .i64 2)) := by
  have HPO := Lib.hid h
  obtain ⟨A, m, c, L, db, h1, h2, h3, h4, rfl⟩ := h
  have HI := Lib.hid h1
  have HD := Lib.hid h2
  have HL := Lib.hid h3
  have HN := Lib.hid h4
  clear h1 h2 h3 h4
  go_enter Tryz.func21, Tryz.ntmps21
  go_wp2_with fail
  refine (find_any p d lg m c S.n A L S.fs no w HI.out).mono ?_
  rintro e w' ⟨rfl, rfl⟩
  rw [hi]
  simp only [Option.bind_none]
  have hd : decide (no < 0) = false := by simp; omega
  have g1 := str4 (show Str w p #[.pointer (some ⟨d, 0, none⟩), .iface 32 (.pointer (some ⟨lg, 0, none⟩)), .int .i64 S.n, .slice A m c] from HI.out.box)
  have hlp := HI.out.box.lt
  go_wp2_with fail
  refine (DevW.pages_any w HD.out).mono ?_
  rintro e W1 ⟨rfl, hb1⟩
  have hd2 : decide ((S.D.safe.length : Int) ≤ no) = true := by simpa using hm
  have HB1 := Lib.hid hb1
  clear hb1
  go_wp2_with fail
  go_ret
  exact ⟨rfl, Gone.same HPO.out HB1.out⟩
set_option maxRecDepth 100000 in
set_option maxHeartbeats 4000000 in
theorem fresh_full (p d lg : Nat) (bs : List Nat) (S : PoolX) (no : Int) (w : World) (h : Pool w p d lg bs S) (hi : PoolP.find S.fs no = none) (hn : ¬ no < 0) (hm : ¬ (S.D.safe.length : Int) ≤ no) (hs : DevP.Small S.D) (he : ¬ (PoolP.free S).2 = 0) :
    Calls Tryz.prog 21 #[.pointer (some ⟨p, 0, none⟩), .int .i64 no] w (Told w p d lg bs (PoolP.free S).1 (.int .i64 (PoolP.free S).2)) := by
  have HPO := Lib.hid h
  obtain ⟨A, m, c, L, db, h1, h2, h3, h4, rfl⟩ := h
  have HI := Lib.hid h1
  have HD := Lib.hid h2
  have HL := Lib.hid h3
  have HN := Lib.hid h4
  clear h1 h2 h3 h4
  go_enter Tryz.func21, Tryz.ntmps21
  go_wp2_with fail
  refine (find_any p d lg m c S.n A L S.fs no w HI.out).mono ?_
  rintro e w' ⟨rfl, rfl⟩
  rw [hi]
  simp only [Option.bind_none]
  have hd : decide (no < 0) = false := by simp; omega
  have g1 := str4 (show Str w p #[.pointer (some ⟨d, 0, none⟩), .iface 32 (.pointer (some ⟨lg, 0, none⟩)), .int .i64 S.n, .slice A m c] from HI.out.box)
  have hlp := HI.out.box.lt
  go_wp2_with fail
  refine (DevW.pages_any w HD.out).mono ?_
  rintro e W1 ⟨rfl, hb1⟩
  have hd2 : decide ((S.D.safe.length : Int) ≤ no) = false := by simp; omega
  have HB1 := Lib.hid hb1
  have HP1 := Lib.hid (HPO.out.next hb1)
  have hb1s := hb1.size
  clear hb1 g1 hlp
  go_wp2_with fail
  refine (free_any p d lg _ S W1 HP1.out hs).mono ?_
  rintro e W2 ⟨rfl, b2, hP2, hn2, hk2⟩
  have hne : ((PoolP.free S).2 != 0) = true := by simpa using he
  have HGO : Hid (Gone w p d lg (blocks p lg A L db) (PoolP.free S).1 W2) := Lib.hid (Gone.step (fun b hb => .inl hb) (Reg.KeepB.of HB1.out) ⟨b2, hP2, hn2, hk2⟩)
  generalize hX : (PoolP.free S).1 = S1 at *
  generalize hY : (PoolP.free S).2 = e1 at *
  clear he hX hY hP2 hn2 hk2
  go_wp2_with fail
  go_ret
  exact ⟨rfl, HGO.out⟩
set_option maxRecDepth 100000 in
set_option maxHeartbeats 4000000 in
theorem fresh_new (p d lg : Nat) (bs : List Nat) (S : PoolX) (no : Int) (w : World) (h : Pool w p d lg bs S) (hi : PoolP.find S.fs no = none) (hn : ¬ no < 0) (hm : ¬ (S.D.safe.length : Int) ≤ no) (hs : DevP.Small S.D) (he : (PoolP.free S).2 = 0) (hs2 : (PoolP.free S).1.fs.length ≤ 90) (hno : In64 no) :
    Calls Tryz.prog 21 #[.pointer (some ⟨p, 0, none⟩), .int .i64 no] w (Told w p d lg bs { (PoolP.free S).1 with fs := (PoolP.free S).1.fs ++ [⟨no, PoolP.blank no, true, 0⟩] } (.int .i64 0)) := by
  have HPO := Lib.hid h
  obtain ⟨A, m, c, L, db, h1, h2, h3, h4, rfl⟩ := h
  have HI := Lib.hid h1
  have HD := Lib.hid h2
  have HL := Lib.hid h3
  have HN := Lib.hid h4
  clear h1 h2 h3 h4
  go_enter Tryz.func21, Tryz.ntmps21
  go_wp2_with fail
  refine (find_any p d lg m c S.n A L S.fs no w HI.out).mono ?_
  rintro e w' ⟨rfl, rfl⟩
  rw [hi]
  simp only [Option.bind_none]
  have hd : decide (no < 0) = false := by simp; omega
  have g1 := str4 (show Str w p #[.pointer (some ⟨d, 0, none⟩), .iface 32 (.pointer (some ⟨lg, 0, none⟩)), .int .i64 S.n, .slice A m c] from HI.out.box)
  have hlp := HI.out.box.lt
  go_wp2_with fail
  refine (DevW.pages_any w HD.out).mono ?_
  rintro e W1 ⟨rfl, hb1⟩
  have hd2 : decide ((S.D.safe.length : Int) ≤ no) = false := by simp; omega
  have HB1 := Lib.hid hb1
  have HP1 := Lib.hid (HPO.out.next hb1)
  have hb1s := hb1.size
  clear hb1 g1 hlp
  go_wp2_with fail
  refine (free_any p d lg _ S W1 HP1.out hs).mono ?_
  rintro e W2 ⟨rfl, b2, hP2, hn2, hk2⟩
  rw [he]
  have HS2 := Lib.hid hs2
  generalize hX : (PoolP.free S).1 = S1 at *
  clear hX he hs2
  have HLT2 := Lib.hid hP2.lt
  obtain ⟨A2, m2, c2, L2, db2, q1, q2, q3, q4, rfl⟩ := hP2
  have hm2 : m2 ≤ 90 := by have h1 := q1.row.len; have h2 := q1.frs.len; have h3 := HS2.out; show _; rw [← h1, h2]; exact h3
  have HI2 := Lib.hid q1
  have HD2 := Lib.hid q2
  have HL2 := Lib.hid q3
  have HN2 := Lib.hid q4
  have HNN := Lib.hid hn2
  have HKK := Lib.hid hk2
  have hfb := fun W => fr_bd0 no W
  have hl2 := hk2.size
  clear q1 q2 q3 q4 hn2 hk2
  go_wp2_with fail
  obtain ⟨V, hV⟩ : ∃ V, W2.alloc (.cells (frC ⟨no, SlotP.zeros 512, false, 0⟩) 77) = V := ⟨_, rfl⟩
  have hbV : Below W2.heap.size W2 V := by rw [← hV]; exact balloc (bsame _) _
  have hfr : Str V W2.heap.size (frC ⟨no, SlotP.zeros 512, false, 0⟩) := by rw [← hV]; exact Str.new _ _ _
  try rw [hV]
  refine (PageW.new_any no V).mono ?_
  rintro e W4 ⟨rfl, hb4⟩
  rw [show SlotP.over (SlotP.zeros 512) 12 (BeP.parts 2 no) = PoolP.blank no from rfl]
  have hG4 := hfr.next hb4
  obtain ⟨W5, hst, hG5, hg5⟩ := st_x hG4 (SlotPut.zeros_len 512) (blank_len no)
  have hlg := hG4.lt
  have hcf := fr_cells hG5 (blank_len no)
  have hcz := fun j => hG5.frozen j
  have hlg2 := hG5.lt
  have HG5 := Lib.hid hG5
  have HB5 := Lib.hid (below_grown (bstep hbV hb4) hg5 (Nat.le_refl _))
  clear hV hbV hfr hb4 hG4 hG5 hg5
  go_wp2_with fail
  have hS6 := fr_dirty HG5.out (blank_len no) true
  have hg6 := grown_set (grown_refl W5 W2.heap.size) 513 (.bool true)
  obtain ⟨W6, hW6⟩ : ∃ W, W5.setCell ⟨W2.heap.size, 513, none⟩ (.bool true) = W := ⟨_, rfl⟩
  rw [hW6] at hS6 hg6 ⊢
  have hb6 := below_grown HB5.out hg6 (Nat.le_refl _)
  refine (use_fresh (W0 := W2) (HI2.out.next hb6) (HD2.out.below hb6) (HL2.out.next hb6) HN2.out W2.heap.size _ hS6 ⟨blank_len no, hno, by show (0 : Int) ≤ 0; omega, by show (0 : Int) ≤ 1000000000; omega⟩ hb6 HLT2.out (Nat.le_refl _) (by omega)).mono ?_
  rintro e W7 ⟨rfl, hG⟩
  have HG7 := Lib.hid (Gone.step (fun b hb => .inl hb) (Reg.KeepB.of HB1.out) (Gone.step HNN.out HKK.out hG))
  clear hG hS6 hg6 hW6 hb6 hst hcf hcz hlg hlg2
  go_wp2_with fail
  go_ret
  exact ⟨rfl, HG7.out⟩
set_option maxRecDepth 100000 in
set_option maxHeartbeats 4000000 in
theorem fresh_in (p d lg : Nat) (bs : List Nat) (S : PoolX) (no : Int) (w : World) (h : Pool w p d lg bs S) (i : Nat) (f : Fr) (hi : PoolP.find S.fs no = some i) (hf : S.fs[i]? = some f) :
    Calls Tryz.prog 21 #[.pointer (some ⟨p, 0, none⟩), .int .i64 no] w (Told w p d lg bs { S with fs := S.fs.eraseIdx i ++ [{ f with x := PoolP.blank no, dirty := true }] } (.int .i64 0)) := by
  have HPO := Lib.hid h
  obtain ⟨A, m, c, L, db, h1, h2, h3, h4, rfl⟩ := h
  have HI := Lib.hid h1
  have HD := Lib.hid h2
  have HL := Lib.hid h3
  have HN := Lib.hid h4
  clear h1 h2 h3 h4
  go_enter Tryz.func21, Tryz.ntmps21
  go_wp2_with fail
  refine (find_any p d lg m c S.n A L S.fs no w HI.out).mono ?_
  rintro e w' ⟨rfl, rfl⟩
  obtain ⟨g, hg, hsg, hok⟩ := HI.out.frs.get hf
  rw [hi]
  simp only [Option.bind_some, hg, Option.map_some]
  have hil : i < S.fs.length := (List.getElem?_eq_some_iff.1 hf).1
  have HG := Lib.hid hg
  have HSG := Lib.hid hsg
  have HOK := Lib.hid hok
  have HF := Lib.hid hf
  clear hg hsg hok hf hi
  go_wp2_with fail
  refine (PageW.new_any no w).mono ?_
  rintro e W1 ⟨rfl, hb1⟩
  rw [show SlotP.over (SlotP.zeros 512) 12 (BeP.parts 2 no) = PoolP.blank no from rfl]
  have HI1 := Lib.hid (HI.out.next hb1)
  have HD1 := Lib.hid (HD.out.below hb1)
  have HL1 := Lib.hid (HL.out.next hb1)
  have HG1 := Lib.hid (HSG.out.next hb1)
  have HK1 := Lib.hid (Reg.KeepB.of (b0 := blocks p lg A L db) hb1)
  have hl1 := hb1.size
  obtain ⟨W2, hst, hG2, hg2⟩ := st_x HG1.out HOK.out.x (blank_len no)
  have hlg := HG1.out.lt
  have hcf := fr_cells hG2 (blank_len no)
  have hcz := fun j => hG2.frozen j
  have hlg2 := hG2.lt
  have HG2 := Lib.hid hG2
  have HGR2 := Lib.hid hg2
  clear hb1 hG2 hg2
  go_wp2_with fail
  have hS3 := fr_dirty HG2.out (blank_len no) true
  have hg3 := grown_set (grown_refl W2 g) 513 (.bool true)
  obtain ⟨W3, hW3⟩ : ∃ W, W2.setCell ⟨g, 513, none⟩ (.bool true) = W := ⟨_, rfl⟩
  rw [hW3] at hS3 hg3 ⊢
  refine (use_put (F := S.fs) (f := { f with x := PoolP.blank no, dirty := true }) HI1.out HD1.out HL1.out HN.out HG.out hil (HGR2.out.trans hg3) hS3 ⟨blank_len no, HOK.out.no, HOK.out.p0, HOK.out.p1⟩ (fun b hb => .inl hb) HK1.out).mono ?_
  rintro e W4 ⟨rfl, hG⟩
  have HG4 := Lib.hid hG
  clear hG hS3 hg3 hW3 hst hcf hcz
  go_wp2_with fail
  go_ret
  exact ⟨rfl, HG4.out⟩
theorem fresh_any (p d lg : Nat) (bs : List Nat) (S : PoolX) (no : Int) (w : World) (h : Pool w p d lg bs S) (hs : DevP.Small S.D) (hs2 : (PoolP.free S).1.fs.length ≤ 90) (hno : In64 no) :
    Calls Tryz.prog 21 #[.pointer (some ⟨p, 0, none⟩), .int .i64 no] w (Told w p d lg bs (PoolP.fresh S no).1 (.int .i64 (PoolP.fresh S no).2)) := by
  cases hf : PoolP.find S.fs no with
  | some i =>
    obtain ⟨f, hi, -⟩ := PoolP.find_some hf
    rw [PoolP.fresh_some hf hi]
    exact fresh_in p d lg bs S no w h i f hf hi
  | none =>
    rw [PoolP.fresh_none hf]
    by_cases h1 : no < 0
    · rw [if_pos (.inl h1)]; exact fresh_low p d lg bs S no w h hf h1
    · by_cases h2 : (S.D.safe.length : Int) ≤ no
      · rw [if_pos (.inr h2)]; exact fresh_high p d lg bs S no w h hf h1 h2
      · rw [if_neg (by rintro (h | h); exact h1 h; exact h2 h)]
        by_cases he : (PoolP.free S).2 = 0
        · rw [if_pos he]; exact fresh_new p d lg bs S no w h hf h1 h2 hs he hs2 hno
        · rw [if_neg he]; exact fresh_full p d lg bs S no w h hf h1 h2 hs he
end PoolW
end Go.Proofs.YtcfieofcnpalgaaGreat
end
section
namespace Go.Proofs.YtcfieofcnpalgaaGreat.Law20
open Go.RowKit PoolW
set_option linter.unusedVariables false
set_option linter.unusedSimpArgs false
attribute [local go_sem ↓] ldPage_fold stPage_fold bdPage_fold alPage_fold
/-- a page that a number tells -/
def page (no v : Int) : List UInt8 := PageN.mk (SlotP.zeros 4) (3 * v) no v
theorem page_len (no v : Int) : (page no v).length = 512 := PageN.mk_len (PageN.zeros_len 4)
set_option maxRecDepth 100000 in
set_option maxHeartbeats 1000000 in
theorem of_any (no v : Int) (h0 : -1000000 ≤ v) (h1 : v ≤ 1000000) (w : World) : Calls Tryz.prog 12 #[.int .i64 no, .int .i64 v] w fun e w' => e = .returned (.agg (rowV (page no v))) ∧ Below w.heap.size w w' := by
  have hz := PageN.zeros_len 512
  have hal := fun W => run_al (P := Tryz.prog) arrPage W
  have hwr : wrap64 (3 * v) = 3 * v := IntWalk.wrap64_in _ (by omega)
  have hPL := page_len no v
  obtain ⟨W1, hW1⟩ : ∃ W, w.alloc (.cells (rowV (SlotP.zeros 512)) 42) = W := ⟨_, rfl⟩
  have hb1 : Below w.heap.size w W1 := by rw [← hW1]; exact balloc (bsame w) _
  have hS1 : Str W1 w.heap.size (rowV (SlotP.zeros 512)) := by rw [← hW1]; exact Str.new _ _ _
  have HB1 := Lib.hid hb1
  have HS1 := Lib.hid hS1
  clear hb1 hS1
  go_enter Tryz.func12, Tryz.ntmps12
  go_wp2_with fail
  refine (PageW.new_any no W1).mono ?_
  rintro e W2 ⟨rfl, hb2⟩
  rw [show SlotP.over (SlotP.zeros 512) 12 (BeP.parts 2 no) = PageN.mk (SlotP.zeros 4) 0 no 0 from PageN.blank_mk no]
  have hl2 := PageN.mk_len (s := SlotP.zeros 4) (a := 0) (no := no) (v := 0) (PageN.zeros_len 4)
  go_wp2_with fail
  refine (PageW.withNote_any _ hl2 v W2).mono ?_
  rintro e W3 ⟨rfl, hb3⟩
  rw [PageN.note_mk (PageN.zeros_len 4)]
  have hl3 := PageN.mk_len (s := SlotP.zeros 4) (a := 0) (no := no) (v := v) (PageN.zeros_len 4)
  go_wp2_with fail
  refine (PageW.withLSN_any _ hl3 (3 * v) W3).mono ?_
  rintro e W4 ⟨rfl, hb4⟩
  rw [PageN.lsn_mk (PageN.zeros_len 4), show PageN.mk (SlotP.zeros 4) (3 * v) no v = page no v from rfl]
  have hb14 := bstep (bstep hb2 hb3) hb4
  have hS4 := HS1.out.next hb14
  have hst := run_st (P := Tryz.prog) arrPage hS4 (by rw [rowV_size]; exact hz) hPL
  have HS := Lib.hid (hS4.setRow (cs' := rowV (page no v)))
  have HB := Lib.hid (below_setRow (bstep HB1.out hb14) (Nat.le_refl _) (rowV (page no v)))
  have hlt := hS4.lt
  clear hS4 hb2 hb3 hb4 hb14
  go_wp2_with fail
  exact bodyPost_ret (v := .agg (rowV (page no v))) (results_arr arrPage Tryz.results12 _ HS.out hPL rfl) rfl ⟨rfl, HB.out⟩
end Go.Proofs.YtcfieofcnpalgaaGreat.Law20
end
