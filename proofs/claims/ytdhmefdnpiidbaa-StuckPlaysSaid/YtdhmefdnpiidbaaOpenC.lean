/- What came in, opened: a slice of whole numbers, wherever it stands; a struct of three whole numbers; a struct of a slice and a number. -/
import Derived.Test.YtdhmefdnpiidbaaOpenB
import Derived.Test.YtdhmefdnpiidbaaWLast
namespace Go.Proofs.Ytdhmefdnpiidbaa.Open
open Go.ChangeShapes Go.WideShapes Go.ChangeAt Go.RowKit Go.Deep Go.Joins
open Go.Proofs.YtdhmefdnpiidbaaW.PrintWords Go.Proofs.YtdhmefdnpiidbaaW.PrintLast

theorem open_row {H : Type} {enc : TypeId × Value → H} {P : Program} {W : World} {n : Nat} {t e : TypeId} {k : IntKind} {v : Value} {y : DataW H × List MemPlace}
    (hu : P.underlying t = some (.slice e)) (he : P.underlying e = some (.int k)) (hc : P.cellsOf e = 1) (h : DataW.trod enc P W 0 (fun _ => true) true n t [v] = some y) :
    ∃ (a : Option Addr) (l : List Int) (cap : Nat), v = .slice a l.length cap ∧ l.length ≤ cap ∧ Kd.C (Kd.int k) W a l.length l ∧ ∀ x ∈ l, (Lit.int k x).wf = true := by
  rcases open_ints hu he hc h with ⟨hcs, _⟩ | ⟨x, l, c, zs, hcs, _, hl, hm, hz, _, hcell, hwz⟩
  · simp at hcs
    exact ⟨none, [], 0, hcs, Nat.le_refl _, Kd.C_nil _ _, by simp⟩
  · simp at hcs
    obtain ⟨l', rfl, hr, hm', hw', hc'⟩ := ReadsInt.ofRowC (w := W) (a := some x) (len := l) (cap := c) (zs := zs) (.inr ⟨_, rfl, hl, hm, by simpa using hz, hcell, hwz⟩)
    exact ⟨some x, l', c, hcs, hc', Kd.C_of_reads (d := (0 : Int)) (h1 := fun _ => rfl) hr, hw'⟩
theorem open_three {H : Type} {enc : TypeId × Value → H} {P : Program} {W : World} {r : Reach} {b0 : Nat} {t : TypeId} {f0 f1 f2 : Field} {k0 k1 k2 : IntKind} {v : Value} {d : DataW H} {ps : List MemPlace}
    (hs : P.underlying t = some (.struct #[f0, f1, f2])) (hone : oneCellFields P #[f0, f1, f2] = true) (hC : P.cellsOf t = 3) (he0 : P.underlying f0.type = some (.int k0)) (he1 : P.underlying f1.type = some (.int k1)) (he2 : P.underlying f2.type = some (.int k2))
    (hv : Value.okWide P W r b0 t v) (h : DataW.Trod enc P W 0 (fun _ => true) true t v d ps) :
    ∃ a b c, v = .agg #[.int k0 a, .int k1 b, .int k2 c] ∧ ps = [] ∧ (Lit.int k0 a).wf = true ∧ (Lit.int k1 b).wf = true ∧ (Lit.int k2 c).wf = true := by
  obtain ⟨v0, v1, v2, y0, y1, y2, n, rfl, rfl, rfl, h0, h1, h2⟩ := open_agg3 hs hone hC hv h
  obtain ⟨a, rfl, rfl, wa⟩ := one_int he0 h0
  obtain ⟨b, rfl, rfl, wb⟩ := one_int he1 h1
  obtain ⟨c, rfl, rfl, wc⟩ := one_int he2 h2
  exact ⟨a, b, c, rfl, rfl, wa, wb, wc⟩
theorem open_row_int {H : Type} {enc : TypeId × Value → H} {P : Program} {W : World} {r : Reach} {b0 : Nat} {t e : TypeId} {f0 f1 : Field} {k0 k1 : IntKind} {v : Value} {d : DataW H} {ps : List MemPlace}
    (hs : P.underlying t = some (.struct #[f0, f1])) (hone : oneCellFields P #[f0, f1] = true) (hC : P.cellsOf t = 2) (hu : P.underlying f0.type = some (.slice e)) (he : P.underlying e = some (.int k0)) (hc : P.cellsOf e = 1) (he1 : P.underlying f1.type = some (.int k1))
    (hv : Value.okWide P W r b0 t v) (h : DataW.Trod enc P W 0 (fun _ => true) true t v d ps) :
    ∃ (a : Option Addr) (l : List Int) (cap : Nat) (b : Int), v = .agg #[.slice a l.length cap, .int k1 b] ∧ l.length ≤ cap ∧ Kd.C (Kd.int k0) W a l.length l ∧ (∀ x ∈ l, (Lit.int k0 x).wf = true) ∧ (Lit.int k1 b).wf = true := by
  obtain ⟨v0, v1, y0, y1, n, rfl, rfl, rfl, h0, h1⟩ := open_agg2 hs hone hC hv h
  obtain ⟨a, l, cap, rfl, hl, hcr, hw⟩ := open_row hu he hc h0
  obtain ⟨b, rfl, rfl, wb⟩ := one_int he1 h1
  exact ⟨a, l, cap, b, rfl, hl, hcr, hw, wb⟩
end Go.Proofs.Ytdhmefdnpiidbaa.Open
