/- What came in, opened: a slice of bools reads as a list of bools. -/
import Derived.Test.YtdhmefdnpiidbaaWWords
import Derived.ProofKit
import Derived.Deep.Grids
namespace Go.Proofs.Ytdhmefdnpiidbaa.Open
open Go.ChangeShapes Go.WideShapes Go.ChangeAt Go.RowKit Go.Deep
open Go.Proofs.YtdhmefdnpiidbaaW.PrintWords

theorem open_bool_slice {H : Type} {enc : TypeId × Value → H} {P : Program} {W : World} {t e : TypeId} {a : Option Addr} {len cap : Nat} {d : DataW H} {ps : List MemPlace}
    (hu : P.underlying t = some (.slice e)) (he : P.underlying e = some .bool) (hc : P.cellsOf e = 1)
    (h : DataW.Trod enc P W 0 (fun _ => true) true t (.slice a len cap) d ps) : ∃ l : List Bool, l.length = len ∧ len ≤ cap ∧ Kd.C Kd.bool W a l.length l := by
  obtain ⟨fuel, hf⟩ := h
  rcases open_bools hu he hc hf with ⟨hcs, _⟩ | ⟨x, l, c, B, hcs, _, hl, hm, _, hcell⟩
  · simp [Value.cells] at hcs
    obtain ⟨rfl, rfl, rfl⟩ := hcs
    exact ⟨[], rfl, Nat.le_refl _, Kd.C_nil _ _⟩
  · simp [Value.cells] at hcs
    obtain ⟨rfl, rfl, rfl⟩ := hcs
    unfold maxLen at hm
    refine ⟨(List.range len).map B, by simp, hl, Kd.C_of_reads (enc := Value.bool) (d := false) ⟨rfl, by simp; omega, fun _ => ⟨x, rfl, fun j hj => ?_⟩⟩⟩
    rw [hcell j (by simp at hj; omega)]
    simp at hj
    simp [hj]
end Go.Proofs.Ytdhmefdnpiidbaa.Open
