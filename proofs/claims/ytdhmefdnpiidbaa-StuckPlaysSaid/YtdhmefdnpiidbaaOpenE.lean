/- What came in, opened: rows of three cells (law 9's acts and cycles). -/
import Derived.Test.YtdhmefdnpiidbaaOpenD
import Derived.Deep.SlicePairs
namespace Go.Proofs.Ytdhmefdnpiidbaa.Open
open Go.ChangeShapes Go.WideShapes Go.ChangeAt Go.RowKit Go.Deep Go.Joins
open Go.Proofs.YtdhmefdnpiidbaaW.PrintWords Go.Proofs.YtdhmefdnpiidbaaW.PrintLast

section
variable {H : Type} {enc : TypeId × Value → H} {P : Program} {W : World} {b : Nat} {s : Nat → Bool} {hd : Bool} {n : Nat} {cs : List Value} {fs : Array Field} {xs : List (DataW H × List MemPlace)}
theorem field_bool {i : Nat} {f : Field} {c : Value} (hl : xs.length = fs.size) (hf : ∀ (i : Nat) (f : Field), fs[i]? = some f → DataW.trod enc P W b s hd n f.type ((cs.drop f.offset).take (P.cellsOf f.type)) = xs[i]?) (hi : fs[i]? = some f)
    (hk : P.underlying f.type = some .bool) (hc : (cs.drop f.offset).take (P.cellsOf f.type) = [c]) : ∃ z, c = .bool z := by
  obtain ⟨y, hy⟩ := field_some hl hf hi
  rw [hc] at hy
  obtain ⟨z, h1, _⟩ := DataW.trod_bool hk hy
  exact ⟨z, by simpa using h1⟩
theorem field_pair {i : Nat} {f g0 g1 : Field} {k : IntKind} {c0 c1 : Value} (hl : xs.length = fs.size) (hf : ∀ (i : Nat) (f : Field), fs[i]? = some f → DataW.trod enc P W b s hd n f.type ((cs.drop f.offset).take (P.cellsOf f.type)) = xs[i]?) (hi : fs[i]? = some f)
    (hu : P.underlying f.type = some (.struct #[g0, g1])) (o0 : g0.offset = 0) (o1 : g1.offset = 1) (e0 : P.cellsOf g0.type = 1) (e1 : P.cellsOf g1.type = 1) (hb : P.underlying g0.type = some .bool) (hk : P.underlying g1.type = some (.int k)) (hc : (cs.drop f.offset).take (P.cellsOf f.type) = [c0, c1]) :
    ∃ z0 z1, c0 = .bool z0 ∧ c1 = .int k z1 ∧ (Lit.int k z1).wf = true := by
  obtain ⟨y, hy⟩ := field_some hl hf hi
  rw [hc] at hy
  obtain ⟨ys, m, _, _, _, hl2, hf2⟩ := DataW.trod_struct hu hy
  obtain ⟨z0, rfl⟩ := field_bool (c := c0) hl2 hf2 (i := 0) rfl hb (by simp [o0, e0])
  obtain ⟨z1, rfl, w1⟩ := field_int (c := c1) hl2 hf2 (i := 1) rfl hk (by simp [o1, e1])
  exact ⟨z0, z1, rfl, rfl, w1⟩
end

/-- A slice of rows of three cells. -/
theorem open_three_cells {H : Type} {enc : TypeId × Value → H} {P : Program} {W : World} {t e : TypeId} {A : Option Addr} {len cap : Nat} {d : DataW H} {ps : List MemPlace} {α : Type} (q : α → Value × Value × Value)
    (ht : P.underlying t = some (.slice e)) (ce : P.cellsOf e = 3) (hone : ∀ n cs y, DataW.trod enc P W 0 (fun _ => true) true n e cs = some y → ∃ x : α, cs = [(q x).1, (q x).2.1, (q x).2.2])
    (h : DataW.Trod enc P W 0 (fun _ => true) true t (.slice A len cap) d ps) :
    ∃ l : List α, len = l.length ∧ l.length ≤ cap ∧ ∀ j x, l[j]? = some x → ∃ ad, A = some ad ∧ W.cell? (ad.add (j * 3)) = some (q x).1 ∧ W.cell? (ad.add (j * 3 + 1)) = some (q x).2.1 ∧ W.cell? (ad.add (j * 3 + 2)) = some (q x).2.2 := by
  obtain ⟨fuel, hf⟩ := h
  rcases open_slice ht hf with ⟨h0, _⟩ | ⟨a, len', cap', m, n, D, Pl, hcs, hb, hl, hm, hmm, _, hx⟩
  · simp [Value.cells] at h0
    obtain ⟨rfl, rfl, rfl⟩ := h0
    exact ⟨[], rfl, Nat.le_refl _, fun j x hj => by simp at hj⟩
  · simp [Value.cells] at hcs
    obtain ⟨rfl, rfl, rfl⟩ := hcs
    have hlm : len ≤ m := by rw [hmm]; split <;> omega
    have each : ∀ i, i < len → ∃ x : α, W.cell? (a.add (i * 3)) = some (q x).1 ∧ W.cell? (a.add (i * 3 + 1)) = some (q x).2.1 ∧ W.cell? (a.add (i * 3 + 2)) = some (q x).2.2 := by
      intro i hi
      obtain ⟨cs', h1, h2⟩ := hx i (by omega)
      rw [ce] at h1
      obtain ⟨_, hlen, hcell⟩ := World.cells?_some h1
      obtain ⟨x, rfl⟩ := hone _ _ _ h2
      have e0 := hcell 0 (by omega)
      have e1 := hcell 1 (by omega)
      have e2 := hcell 2 (by omega)
      rw [Deep.add_add] at e0 e1 e2
      exact ⟨x, by simpa using e0, by simpa using e1, by simpa using e2⟩
    by_cases h0 : len = 0
    · subst h0
      exact ⟨[], rfl, by simp, fun j x hj => by simp at hj⟩
    · obtain ⟨x0, _⟩ := each 0 (by omega)
      have : Nonempty α := ⟨x0⟩
      obtain ⟨g, hg⟩ : ∃ g : Nat → α, ∀ i, i < len → W.cell? (a.add (i * 3)) = some (q (g i)).1 ∧ W.cell? (a.add (i * 3 + 1)) = some (q (g i)).2.1 ∧ W.cell? (a.add (i * 3 + 2)) = some (q (g i)).2.2 := by
        refine ⟨fun i => if h : i < len then Classical.choose (each i h) else x0, fun i hi => ?_⟩
        simp only [hi, dif_pos]
        exact Classical.choose_spec (each i hi)
      refine ⟨(List.range len).map g, by simp, by simpa using hl, fun j x hj => ?_⟩
      simp only [List.getElem?_map, Option.map_eq_some_iff] at hj
      obtain ⟨i, hi, rfl⟩ := hj
      by_cases hlt : j < len
      · rw [List.getElem?_range hlt] at hi
        cases hi
        exact ⟨a, rfl, hg _ hlt⟩
      · rw [List.getElem?_eq_none (by simp; omega)] at hi
        cases hi

def actQ (x : Int × Bool × Int) : Value × Value × Value := (.int .u8 x.1, .bool x.2.1, .int .i64 x.2.2)
set_option maxRecDepth 100000 in
theorem one_act {H : Type} {enc : TypeId × Value → H} {W : World} (n : Nat) (cs : List Value) (y : DataW H × List MemPlace) (h : DataW.trod enc Try.prog W 0 (fun _ => true) true n 71 cs = some y) :
    ∃ x : {x : Int × Bool × Int // (Lit.int .u8 x.1).wf = true}, cs = [(actQ x.1).1, (actQ x.1).2.1, (actQ x.1).2.2] := by
  have c71 : Try.prog.cellsOf 71 = 3 := by kernel_rfl
  have c69 : Try.prog.cellsOf 69 = 2 := by kernel_rfl
  have c5 : Try.prog.cellsOf 5 = 1 := by kernel_rfl
  obtain ⟨xs, m, _, _, hlen, hl, hf⟩ := DataW.trod_struct Try.underlying71 h
  rw [c71] at hlen
  match cs, hlen with
  | [v0, v1, v2], _ =>
    obtain ⟨z0, rfl, w0⟩ := field_int (c := v0) hl hf (i := 0) rfl Try.underlying5 (by simp [c5])
    obtain ⟨z1, z2, rfl, rfl, _⟩ := field_pair (c0 := v1) (c1 := v2) hl hf (i := 1) rfl Try.underlying69 rfl rfl (by kernel_rfl) (by kernel_rfl) Try.underlying4 Try.underlying3 (by simp [c69])
    exact ⟨⟨(z0, z1, z2), w0⟩, rfl⟩

def cycleQ (x : Bool × Int × Int) : Value × Value × Value := (.bool x.1, .int .i16 x.2.1, .int .i16 x.2.2)
set_option maxRecDepth 100000 in
theorem one_cycle {H : Type} {enc : TypeId × Value → H} {W : World} (n : Nat) (cs : List Value) (y : DataW H × List MemPlace) (h : DataW.trod enc Try.prog W 0 (fun _ => true) true n 83 cs = some y) :
    ∃ x : {x : Bool × Int × Int // (Lit.int .i16 x.2.1).wf = true ∧ (Lit.int .i16 x.2.2).wf = true}, cs = [(cycleQ x.1).1, (cycleQ x.1).2.1, (cycleQ x.1).2.2] := by
  have c83 : Try.prog.cellsOf 83 = 3 := by kernel_rfl
  have c4 : Try.prog.cellsOf 4 = 1 := by kernel_rfl
  have c81 : Try.prog.cellsOf 81 = 1 := by kernel_rfl
  obtain ⟨xs, m, _, _, hlen, hl, hf⟩ := DataW.trod_struct Try.underlying83 h
  rw [c83] at hlen
  match cs, hlen with
  | [v0, v1, v2], _ =>
    obtain ⟨z0, rfl⟩ := field_bool (c := v0) hl hf (i := 0) rfl Try.underlying4 (by simp [c4])
    obtain ⟨z1, rfl, w1⟩ := field_int (c := v1) hl hf (i := 1) rfl Try.underlying81 (by simp [c81])
    obtain ⟨z2, rfl, w2⟩ := field_int (c := v2) hl hf (i := 2) rfl Try.underlying81 (by simp [c81])
    exact ⟨⟨(z0, z1, z2), w1, w2⟩, rfl⟩
end Go.Proofs.Ytdhmefdnpiidbaa.Open
