/- What came in, opened: an array of three whole numbers, a struct of two. -/
import Derived.Test.YtdhmefdnpiidbaaWWords
import Derived.ProofKit
import Derived.Deep.Grids
import Derived.Lib.SmallJoins
import Derived.Laws.IdiomArrays
import Derived.OpenShut
namespace Go.Proofs.Ytdhmefdnpiidbaa.Open
open Go.ChangeShapes Go.WideShapes Go.ChangeAt Go.RowKit Go.Deep Go.Joins
open Go.Proofs.YtdhmefdnpiidbaaW.PrintWords

theorem okWide_arr {P : Program} {w : World} {r : Reach} {b : Nat} {t e : TypeId} {n : Nat} {v : Value} (ht : P.underlying t = some (.array n e)) (h : Value.okWide P w r b t v) : ∃ cs, v = .agg cs ∧ cs.size = P.cellsOf t := by
  simp only [Value.okWide, ht] at h
  obtain ⟨cs, h1, h2, _⟩ := h
  exact ⟨cs, h1, h2⟩
theorem one_int {H : Type} {enc : TypeId × Value → H} {P : Program} {W : World} {b : Nat} {s : Nat → Bool} {hd : Bool} {e : TypeId} {k : IntKind} {n : Nat} {c : Value} {y : DataW H × List MemPlace} (he : P.underlying e = some (.int k))
    (h : DataW.trod enc P W b s hd n e [c] = some y) : ∃ z, c = .int k z ∧ y = (.lit (.int k z), []) ∧ (Lit.int k z).wf = true := by
  obtain ⟨z, h1, h2, h3⟩ := DataW.trod_int he h
  simp at h1
  exact ⟨z, h1, h2, h3⟩
theorem open_arr3 {H : Type} {enc : TypeId × Value → H} {P : Program} {W : World} {r : Reach} {b0 : Nat} {t e : TypeId} {k : IntKind} {v : Value} {d : DataW H} {ps : List MemPlace}
    (hu : P.underlying t = some (.array 3 e)) (he : P.underlying e = some (.int k)) (hc : P.cellsOf e = 1) (hct : P.cellsOf t = 3)
    (hv : Value.okWide P W r b0 t v) (h : DataW.Trod enc P W 0 (fun _ => true) true t v d ps) :
    ∃ a b c, v = .agg #[.int k a, .int k b, .int k c] ∧ ps = [] ∧ (Lit.int k a).wf = true ∧ (Lit.int k b).wf = true ∧ (Lit.int k c).wf = true := by
  obtain ⟨cs, rfl, hsz⟩ := okWide_arr hu hv
  obtain ⟨c0, c1, c2, rfl⟩ := array3 (hsz.trans hct)
  obtain ⟨fuel, hf⟩ := h
  obtain ⟨y0, y1, y2, n, hx, h0, h1, h2⟩ := trod_array3 hu hc (by simpa [Value.cells] using hf)
  obtain ⟨a, rfl, rfl, wa⟩ := one_int he h0
  obtain ⟨b, rfl, rfl, wb⟩ := one_int he h1
  obtain ⟨c, rfl, rfl, wc⟩ := one_int he h2
  simp only [Prod.mk.injEq] at hx
  exact ⟨a, b, c, rfl, by simpa using hx.2, wa, wb, wc⟩
theorem open_two {H : Type} {enc : TypeId × Value → H} {P : Program} {W : World} {r : Reach} {b0 : Nat} {t : TypeId} {f0 f1 : Field} {k0 k1 : IntKind} {v : Value} {d : DataW H} {ps : List MemPlace}
    (hs : P.underlying t = some (.struct #[f0, f1])) (hone : oneCellFields P #[f0, f1] = true) (hC : P.cellsOf t = 2) (he0 : P.underlying f0.type = some (.int k0)) (he1 : P.underlying f1.type = some (.int k1))
    (hv : Value.okWide P W r b0 t v) (h : DataW.Trod enc P W 0 (fun _ => true) true t v d ps) :
    ∃ a b, v = .agg #[.int k0 a, .int k1 b] ∧ ps = [] ∧ (Lit.int k0 a).wf = true ∧ (Lit.int k1 b).wf = true := by
  obtain ⟨v0, v1, y0, y1, n, rfl, rfl, rfl, h0, h1⟩ := open_agg2 hs hone hC hv h
  obtain ⟨a, rfl, rfl, wa⟩ := one_int he0 h0
  obtain ⟨b, rfl, rfl, wb⟩ := one_int he1 h1
  exact ⟨a, b, rfl, rfl, wa, wb⟩
end Go.Proofs.Ytdhmefdnpiidbaa.Open
