/- What came in, opened: a struct of numbers and two arrays of them (law 12's Case). -/
import Derived.Test.YtdhmefdnpiidbaaOpenC
import Derived.Test.YtdhmefdnpiidbaaProg
namespace Go.Proofs.Ytdhmefdnpiidbaa.Open
open Go.ChangeShapes Go.WideShapes Go.ChangeAt Go.RowKit Go.Deep Go.Joins
open Go.Proofs.YtdhmefdnpiidbaaW.PrintWords Go.Proofs.YtdhmefdnpiidbaaW.PrintLast

theorem array11 {α : Type} {cs : Array α} (h : cs.size = 11) : ∃ c0 c1 c2 c3 c4 c5 c6 c7 c8 c9 c10, cs = #[c0, c1, c2, c3, c4, c5, c6, c7, c8, c9, c10] := by
  obtain ⟨l⟩ := cs
  match l, h with
  | [c0, c1, c2, c3, c4, c5, c6, c7, c8, c9, c10], _ => exact ⟨c0, c1, c2, c3, c4, c5, c6, c7, c8, c9, c10, rfl⟩

section
variable {H : Type} {enc : TypeId × Value → H} {P : Program} {W : World} {b : Nat} {s : Nat → Bool} {hd : Bool} {n : Nat} {cs : List Value} {fs : Array Field} {xs : List (DataW H × List MemPlace)}

theorem field_some {i : Nat} {f : Field} (hl : xs.length = fs.size) (hf : ∀ (i : Nat) (f : Field), fs[i]? = some f → DataW.trod enc P W b s hd n f.type ((cs.drop f.offset).take (P.cellsOf f.type)) = xs[i]?) (hi : fs[i]? = some f) :
    ∃ y, DataW.trod enc P W b s hd n f.type ((cs.drop f.offset).take (P.cellsOf f.type)) = some y := by
  have hlt : i < xs.length := by rw [hl]; exact (Array.getElem?_eq_some_iff.1 hi).1
  exact ⟨xs[i], by rw [hf i f hi]; exact List.getElem?_eq_getElem hlt⟩
theorem field_int {i : Nat} {f : Field} {k : IntKind} {c : Value} (hl : xs.length = fs.size) (hf : ∀ (i : Nat) (f : Field), fs[i]? = some f → DataW.trod enc P W b s hd n f.type ((cs.drop f.offset).take (P.cellsOf f.type)) = xs[i]?) (hi : fs[i]? = some f)
    (hk : P.underlying f.type = some (.int k)) (hc : (cs.drop f.offset).take (P.cellsOf f.type) = [c]) : ∃ z, c = .int k z ∧ (Lit.int k z).wf = true := by
  obtain ⟨y, hy⟩ := field_some hl hf hi
  rw [hc] at hy
  obtain ⟨z, h1, _, h3⟩ := one_int hk hy
  exact ⟨z, h1, h3⟩
theorem field_arr3 {i : Nat} {f : Field} {e : TypeId} {k : IntKind} {c0 c1 c2 : Value} (hl : xs.length = fs.size) (hf : ∀ (i : Nat) (f : Field), fs[i]? = some f → DataW.trod enc P W b s hd n f.type ((cs.drop f.offset).take (P.cellsOf f.type)) = xs[i]?) (hi : fs[i]? = some f)
    (hu : P.underlying f.type = some (.array 3 e)) (he : P.underlying e = some (.int k)) (h1 : P.cellsOf e = 1) (hc : (cs.drop f.offset).take (P.cellsOf f.type) = [c0, c1, c2]) :
    ∃ z0 z1 z2, c0 = .int k z0 ∧ c1 = .int k z1 ∧ c2 = .int k z2 ∧ (Lit.int k z0).wf = true ∧ (Lit.int k z1).wf = true ∧ (Lit.int k z2).wf = true := by
  obtain ⟨y, hy⟩ := field_some hl hf hi
  rw [hc] at hy
  obtain ⟨y0, y1, y2, m, _, g0, g1, g2⟩ := trod_array3 hu h1 hy
  obtain ⟨a, ha, _, wa⟩ := one_int he g0
  obtain ⟨b', hb, _, wb⟩ := one_int he g1
  obtain ⟨c, hc', _, wc⟩ := one_int he g2
  exact ⟨a, b', c, ha, hb, hc', wa, wb, wc⟩
theorem field_arr4 {i : Nat} {f : Field} {e : TypeId} {k : IntKind} {c0 c1 c2 c3 : Value} (hl : xs.length = fs.size) (hf : ∀ (i : Nat) (f : Field), fs[i]? = some f → DataW.trod enc P W b s hd n f.type ((cs.drop f.offset).take (P.cellsOf f.type)) = xs[i]?) (hi : fs[i]? = some f)
    (hu : P.underlying f.type = some (.array 4 e)) (he : P.underlying e = some (.int k)) (h1 : P.cellsOf e = 1) (hc : (cs.drop f.offset).take (P.cellsOf f.type) = [c0, c1, c2, c3]) :
    ∃ z0 z1 z2 z3, c0 = .int k z0 ∧ c1 = .int k z1 ∧ c2 = .int k z2 ∧ c3 = .int k z3 ∧ (Lit.int k z0).wf = true ∧ (Lit.int k z1).wf = true ∧ (Lit.int k z2).wf = true ∧ (Lit.int k z3).wf = true := by
  obtain ⟨y, hy⟩ := field_some hl hf hi
  rw [hc] at hy
  obtain ⟨y0, y1, y2, y3, m, _, g0, g1, g2, g3⟩ := trod_array4 hu h1 hy
  obtain ⟨a, ha, _, wa⟩ := one_int he g0
  obtain ⟨b', hb, _, wb⟩ := one_int he g1
  obtain ⟨c, hc', _, wc⟩ := one_int he g2
  obtain ⟨d, hd', _, wd⟩ := one_int he g3
  exact ⟨a, b', c, d, ha, hb, hc', hd', wa, wb, wc, wd⟩
end

set_option maxRecDepth 100000 in
theorem open_case {H : Type} {enc : TypeId × Value → H} {W : World} {r : Reach} {b0 : Nat} {v : Value} {d : DataW H} {ps : List MemPlace}
    (hv : Value.okWide Try.prog W r b0 47 v) (h : DataW.Trod enc Try.prog W 0 (fun _ => true) true 47 v d ps) :
    ∃ f0 f1 f2 f3 f4 f5 f6 f7 f8 f9 f10, v = .agg #[.int .i32 f0, .int .i32 f1, .int .u16 f2, .int .u16 f3, .int .u16 f4, .int .u16 f5, .int .u8 f6, .int .u8 f7, .int .u8 f8, .int .u8 f9, .int .u8 f10] ∧
      (Lit.int .i32 f0).wf = true ∧ (Lit.int .i32 f1).wf = true ∧ (Lit.int .u16 f2).wf = true ∧ (Lit.int .u16 f3).wf = true ∧ (Lit.int .u16 f4).wf = true ∧ (Lit.int .u16 f5).wf = true ∧
      (Lit.int .u8 f6).wf = true ∧ (Lit.int .u8 f7).wf = true ∧ (Lit.int .u8 f8).wf = true ∧ (Lit.int .u8 f9).wf = true ∧ (Lit.int .u8 f10).wf = true := by
  obtain ⟨cs, rfl, hsz⟩ := okWide_struct Try.underlying47 hv
  have c47 : Try.prog.cellsOf 47 = 11 := by kernel_rfl
  have c21 : Try.prog.cellsOf 21 = 1 := by kernel_rfl
  have c43 : Try.prog.cellsOf 43 = 1 := by kernel_rfl
  have c44 : Try.prog.cellsOf 44 = 3 := by kernel_rfl
  have c45 : Try.prog.cellsOf 45 = 4 := by kernel_rfl
  have c5 : Try.prog.cellsOf 5 = 1 := by kernel_rfl
  obtain ⟨v0, v1, v2, v3, v4, v5, v6, v7, v8, v9, v10, rfl⟩ := array11 (hsz.trans c47)
  obtain ⟨fuel, hf⟩ := h
  obtain ⟨xs, n, _, _, _, hl, hf⟩ := DataW.trod_struct Try.underlying47 hf
  obtain ⟨f0, rfl, w0⟩ := field_int (c := v0) hl hf (i := 0) rfl Try.underlying21 (by simp [c21, Value.cells])
  obtain ⟨f1, rfl, w1⟩ := field_int (c := v1) hl hf (i := 1) rfl Try.underlying21 (by simp [c21, Value.cells])
  obtain ⟨f2, rfl, w2⟩ := field_int (c := v2) hl hf (i := 2) rfl Try.underlying43 (by simp [c43, Value.cells])
  obtain ⟨f3, f4, f5, rfl, rfl, rfl, w3, w4, w5⟩ := field_arr3 (c0 := v3) (c1 := v4) (c2 := v5) hl hf (i := 3) rfl Try.underlying44 Try.underlying43 c43 (by simp [c44, Value.cells])
  obtain ⟨f6, f7, f8, f9, rfl, rfl, rfl, rfl, w6, w7, w8, w9⟩ := field_arr4 (c0 := v6) (c1 := v7) (c2 := v8) (c3 := v9) hl hf (i := 4) rfl Try.underlying45 Try.underlying5 c5 (by simp [c45, Value.cells])
  obtain ⟨f10, rfl, w10⟩ := field_int (c := v10) hl hf (i := 5) rfl Try.underlying5 (by simp [c5, Value.cells])
  exact ⟨f0, f1, f2, f3, f4, f5, f6, f7, f8, f9, f10, rfl, w0, w1, w2, w3, w4, w5, w6, w7, w8, w9, w10⟩
end Go.Proofs.Ytdhmefdnpiidbaa.Open
