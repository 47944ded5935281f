/- A region that draws its order: each operation of its head is walked once, in any world of a class, with what is told of the operations that it waits for; the head may make memory and call in any order. Then the tail, in its one order. -/
import Derived.Test.YtdhmefdnpiidbaaVotC
import Derived.Below
namespace Go.Proofs.Ytdhmefdnpiidbaa.RG
open Go Go.RowKit Go.Proofs.Ytdhmefdnpiidbaa.Vot
set_option linter.unusedSimpArgs false
set_option linter.unusedVariables false

section
variable {F : Fence} {m n : Nat} {P : Program} {ops : Array Oper}

def uponRG (F : Fence) (m : Nat) (P : Program) (N : Value → World → Prop) : Result Next → Prop
  | .ok (.value u) w' => N u w'
  | .ok .skip w' => N undef w'
  | .ok (.enter f args) w' => (F.depth.isSome = true → 1 ≤ m) ∧ CallsIn F (m - 1) P f args w' fun e w'' => ∃ v, e = .returned v ∧ N v w''
  | _ => False

/-- What an operation yields, told of the value alone. -/
def opRG (F : Fence) (m : Nat) (P : Program) (ops : Array Oper) (o : Oper) (a : Act) (w : World) (N : Value → World → Prop) : Prop :=
  (∀ f, o.about P w a.eval = some f → F.fn f) ∧
  if Region.wanted o (yielded ops a.tmps) = true then uponRG F m P N ((execOp a.eval o).run P w) else N undef w

theorem opRG.congr {o : Oper} {a a' : Act} {w : World} {N : Value → World → Prop} (he : execOp a'.eval o = execOp a.eval o) (hw : Region.wanted o (yielded ops a'.tmps) = Region.wanted o (yielded ops a.tmps))
    (hb : o.about P w a'.eval = o.about P w a.eval) (h : opRG F m P ops o a w N) : opRG F m P ops o a' w N := by
  unfold opRG at *
  rw [he, hw, hb]
  exact h

theorem opRG.wpOpIn {i : Nat} {o : Oper} {a : Act} {w : World} {N : Value → World → Prop} {K : Act → World → Prop} {Q : Exit → Act → World → Prop} (ho : ops[i]? = some o) (hd : ∀ c, o.op ≠ .defer c)
    (hK : ∀ v w', N v w' → K (a.put o.dst v) w') (h : opRG F m P ops o a w N) : wpOpIn F m P ops Q i K a w := by
  unfold opRG at h
  unfold Go.wpOpIn
  simp only [ho]
  split
  · rename_i hw
    rw [if_pos hw] at h
    unfold Oper.wpIn
    refine ⟨h.1, ?_⟩
    rw [Oper.semAt_eq _ _ _ hd]
    have h2 := h.2
    generalize (execOp a.eval o).run P w = r at *
    match r, h2 with
    | .ok (.value u) w', h2 => exact hK _ _ h2
    | .ok .skip w', h2 => exact hK _ _ h2
    | .ok (.enter f args) w', h2 =>
      refine ⟨h2.1, h2.2.mono ?_⟩
      rintro e w'' ⟨v, rfl, hv⟩
      exact hK _ _ hv
  · rename_i hw
    rw [if_neg hw] at h
    exact ⟨h.1, hK _ _ h.2⟩

/-! ### Who waits for whom -/

def before (ops : Array Oper) : Nat → Nat → Nat → Bool
  | 0, _, _ => false
  | g + 1, j, k => Region.waitsFor .any ops k j || (List.range k).any fun i => Region.waitsFor .any ops k i && before ops g j i

def Bef (ops : Array Oper) (j k : Nat) : Bool := before ops ops.size j k

theorem before_listed {listed : Array Bool} (hcl : ∀ j oj, ops[j]? = some oj → listed.getD j false = true → ∀ e ∈ oj.after, Region.binds .any e = true → listed.getD e.on false = true) :
    ∀ (g j k : Nat), listed.getD k false = true → before ops g j k = true → listed.getD j false = true := by
  intro g
  induction g with
  | zero => intro j k _ h; simp [before] at h
  | succ g ih =>
    intro j k hk h
    simp only [before, Bool.or_eq_true, List.any_eq_true, Bool.and_eq_true] at h
    rcases h with h | ⟨i, _, h1, h2⟩
    · obtain ⟨o, ho, e, he, hb, rfl⟩ := Region.waitsFor_spec h
      exact hcl k o ho hk e he hb
    · obtain ⟨o, ho, e, he, hb, rfl⟩ := Region.waitsFor_spec h1
      exact ih j _ (hcl k o ho hk e he hb) h2

theorem before_ready {listed : Array Bool} (hcl : ∀ j oj, ops[j]? = some oj → listed.getD j false = true → ∀ e ∈ oj.after, Region.binds .any e = true → listed.getD e.on false = true)
    {k : Nat} (hk : k ∈ Region.ready .any ops listed) : ∀ (g j : Nat), before ops g j k = true → listed.getD j false = true := by
  intro g j h
  obtain ⟨_, o, ho, hall⟩ := mem_ready.1 hk
  cases g with
  | zero => simp [before] at h
  | succ g =>
    simp only [before, Bool.or_eq_true, List.any_eq_true, Bool.and_eq_true] at h
    rcases h with h | ⟨i, _, h1, h2⟩
    · obtain ⟨o', ho', e, he, hb, rfl⟩ := Region.waitsFor_spec h
      obtain rfl : o' = o := Option.some.inj (ho'.symm.trans ho)
      exact hall e he hb
    · obtain ⟨o', ho', e, he, hb, rfl⟩ := Region.waitsFor_spec h1
      obtain rfl : o' = o := Option.some.inj (ho'.symm.trans ho)
      exact before_listed hcl g j _ (hall e he hb) h2

/-- Each operation of the head looks at what it waits for, and at nothing else of the head; each has a temporary of its own; it waits for earlier ones. -/
def okOp (ops : Array Oper) (n k : Nat) (o : Oper) : Bool :=
  (match o.op with | .defer _ => false | _ => true) &&
  (o.after.all fun e => !Region.binds .any e || decide (e.on < k)) &&
  (List.range n).all fun j =>
    match (ops[j]?).bind (·.dst) with
    | some d => (!(o.looksAt ops).contains d || (decide (j < k) && Bef ops j k)) && (decide (j = k) || o.dst != some d)
    | none => true

def rgB (ops : Array Oper) (n : Nat) : Bool :=
  Region.noSelect ops && decide (n ≤ ops.size) && (decide (n = ops.size) || (Region.sinkB .any ops n && Region.chainB .any ops n)) &&
  ((List.range n).all fun k => match ops[k]? with | some o => okOp ops n k o | none => false) &&
  Region.seqB .any ops (ops.size - n) n ((List.range ops.size).map fun j => decide (j < n)).toArray

theorem okOp_spec {k : Nat} {o : Oper} (h : okOp ops n k o = true) :
    (∀ c, o.op ≠ .defer c) ∧ (∀ e ∈ o.after, Region.binds .any e = true → e.on < k) ∧
    (∀ j oj d, j < n → ops[j]? = some oj → oj.dst = some d → (d ∈ o.looksAt ops → j < k ∧ Bef ops j k = true) ∧ (j ≠ k → o.dst ≠ some d)) := by
  unfold okOp at h
  simp only [Bool.and_eq_true] at h
  refine ⟨fun c hc => by simp [hc] at h, fun e he hb => ?_, fun j oj d hj ho hd => ?_⟩
  · have := Array.all_eq_true'.1 h.1.2 e he
    simp only [hb, Bool.not_true, Bool.false_or, decide_eq_true_eq] at this
    exact this
  · have := List.all_eq_true.1 h.2 j (List.mem_range.2 hj)
    simp only [ho, Option.bind_some, hd, Bool.and_eq_true, Bool.or_eq_true, Bool.not_eq_true', decide_eq_true_eq, bne_iff_ne, ne_eq] at this
    refine ⟨fun hm => ?_, fun hne => ?_⟩
    · rcases this.1 with h1 | h1
      · simp [hm] at h1
      · exact h1
    · rcases this.2 with h1 | h1
      · exact absurd h1 hne
      · exact h1

def upd {α : Type} (vs : Nat → α) (k : Nat) (v : α) : Nat → α := fun j => if j = k then v else vs j
theorem upd_same {α : Type} (vs : Nat → α) (k : Nat) (v : α) : upd vs k v k = v := by simp [upd]
theorem upd_ne {α : Type} (vs : Nat → α) {k j : Nat} (v : α) (h : j ≠ k) : upd vs k v j = vs j := by simp [upd, h]

/-- The state behind the first operations, in the order of the text. -/
def stAt : List Oper → Nat → (Nat → Value) → Act → Act
  | [], _, _, a => a
  | o :: rest, k, vs, a => stAt rest (k + 1) vs (a.put o.dst (vs k))

theorem stAt_append (l l' : List Oper) : ∀ (k : Nat) (vs : Nat → Value) (a : Act), stAt (l ++ l') k vs a = stAt l' (k + l.length) vs (stAt l k vs a) := by
  induction l with
  | nil => intro k vs a; rfl
  | cons o l ih => intro k vs a; simp only [List.cons_append, stAt, List.length_cons]; rw [ih, show k + 1 + l.length = k + (l.length + 1) by omega]
theorem stAt_congr (l : List Oper) : ∀ (k : Nat) (vs vs' : Nat → Value) (a : Act), (∀ j, k ≤ j → j < k + l.length → vs j = vs' j) → stAt l k vs a = stAt l k vs' a := by
  induction l with
  | nil => intro k vs vs' a _; rfl
  | cons o l ih =>
    intro k vs vs' a h
    simp only [stAt, List.length_cons] at h ⊢
    rw [h k (Nat.le_refl _) (by omega)]
    exact ih (k + 1) vs vs' _ fun j h1 h2 => h j (by omega) (by omega)

/-- The temporaries, when those of L have come. -/
structure Agree (ops : Array Oper) (n : Nat) (L : Nat → Prop) (vs : Nat → Value) (a0 a : Act) : Prop where
  defers : a.defers = a0.defers
  size : a.tmps.size = a0.tmps.size
  come : ∀ j oj d, j < n → ops[j]? = some oj → oj.dst = some d → L j → d < a.tmps.size → a.tmps[d]? = some (vs j)
  rest : ∀ t, (∀ j oj, j < n → ops[j]? = some oj → oj.dst = some t → ¬ L j) → a.tmps[t]? = a0.tmps[t]?

theorem Agree.nil {vs : Nat → Value} {a0 : Act} {L : Nat → Prop} (h : ∀ j, j < n → ¬ L j) : Agree ops n L vs a0 a0 := ⟨rfl, rfl, fun j _ _ hj _ _ hl => absurd hl (h j hj), fun _ _ => rfl⟩

theorem Agree.put {L L' : Nat → Prop} {vs : Nat → Value} {a0 a : Act} (h : Agree ops n L vs a0 a) {k : Nat} {o : Oper} (hk : k < n) (ho : ops[k]? = some o) (hL : ∀ j, j < n → (L' j ↔ L j ∨ j = k))
    (hne : ∀ j oj d, j < n → ops[j]? = some oj → oj.dst = some d → j ≠ k → o.dst ≠ some d) {vs' : Nat → Value} (hvs : ∀ j, j < n → L j → j ≠ k → vs' j = vs j) : Agree ops n L' vs' a0 (a.put o.dst (vs' k)) := by
  cases hd : o.dst with
  | none =>
    refine ⟨h.defers, h.size, fun j oj d hj hoj hdj hlj hsz => ?_, fun t ht => h.rest t fun j oj hj hoj hdj hlj => ht j oj hj hoj hdj ((hL j hj).2 (.inl hlj))⟩
    have hjk : j ≠ k := fun e => by subst e; rw [ho] at hoj; cases hoj; rw [hd] at hdj; cases hdj
    have hlj' := ((hL j hj).1 hlj).resolve_right hjk
    rw [hvs j hj hlj' hjk]
    exact h.come j oj d hj hoj hdj hlj' hsz
  | some e =>
    refine ⟨h.defers, by simp [Act.put, h.size], fun j oj d hj hoj hdj hlj hsz => ?_, fun t ht => ?_⟩
    · by_cases hjk : j = k
      · subst hjk
        rw [ho] at hoj; cases hoj
        rw [hd] at hdj; cases hdj
        simp only [Act.put, Array.size_setIfInBounds] at hsz
        simp [Act.put, hsz]
      · have hlj' := ((hL j hj).1 hlj).resolve_right hjk
        have hed : e ≠ d := fun he => by subst he; exact hne j oj e hj hoj hdj hjk hd
        rw [hvs j hj hlj' hjk]
        simp only [Act.put, Array.size_setIfInBounds] at hsz ⊢
        rw [Array.getElem?_setIfInBounds_ne hed]
        exact h.come j oj d hj hoj hdj hlj' hsz
    · have het : e ≠ t := fun he => by subst he; exact ht k o hk ho hd ((hL k hk).2 (.inr rfl))
      simp only [Act.put]
      rw [Array.getElem?_setIfInBounds_ne het]
      exact h.rest t fun j oj hj hoj hdj hlj => ht j oj hj hoj hdj ((hL j hj).2 (.inl hlj))

theorem Agree.look {L L' : Nat → Prop} {vs : Nat → Value} {a0 a b : Act} (h : Agree ops n L vs a0 a) (h' : Agree ops n L' vs a0 b) {t : Tmp} (ht : ∀ j oj, j < n → ops[j]? = some oj → oj.dst = some t → (L j ↔ L' j)) : a.tmps[t]? = b.tmps[t]? := by
  by_cases hx : ∃ j oj, j < n ∧ ops[j]? = some oj ∧ oj.dst = some t ∧ L j
  · obtain ⟨j, oj, hj, hoj, hdj, hlj⟩ := hx
    have hlj' := (ht j oj hj hoj hdj).1 hlj
    rcases Nat.lt_or_ge t a.tmps.size with hlt | hge
    · rw [h.come j oj t hj hoj hdj hlj hlt, h'.come j oj t hj hoj hdj hlj' (by rw [h'.size, ← h.size]; exact hlt)]
    · rw [Array.getElem?_eq_none hge, Array.getElem?_eq_none (by rw [h'.size, ← h.size]; exact hge)]
  · rw [h.rest t fun j oj hj hoj hdj hlj => hx ⟨j, oj, hj, hoj, hdj, hlj⟩, h'.rest t fun j oj hj hoj hdj hlj => hx ⟨j, oj, hj, hoj, hdj, (ht j oj hj hoj hdj).2 hlj⟩]

theorem Agree.eq {L L' : Nat → Prop} {vs : Nat → Value} {a0 a b : Act} (h : Agree ops n L vs a0 a) (h' : Agree ops n L' vs a0 b) (hL : ∀ j, j < n → (L j ↔ L' j)) : a = b := by
  obtain ⟨t, d⟩ := a
  obtain ⟨t', d'⟩ := b
  have h1 : d = d' := h.defers.trans h'.defers.symm
  have h2 : t = t' := Array.ext_getElem? fun i => h.look h' fun j oj hj _ _ => hL j hj
  rw [h1, h2]

theorem Agree.opRG {L L' : Nat → Prop} {vs : Nat → Value} {a0 a b : Act} (h : Agree ops n L vs a0 a) (h' : Agree ops n L' vs a0 b) {o : Oper} (hsel : ∀ cs b, o.op ≠ .select cs b)
    (ht : ∀ j oj d, j < n → ops[j]? = some oj → oj.dst = some d → d ∈ o.looksAt ops → (L j ↔ L' j)) {w : World} {N : Value → World → Prop} (hr : Go.Proofs.Ytdhmefdnpiidbaa.RG.opRG F m P ops o b w N) : Go.Proofs.Ytdhmefdnpiidbaa.RG.opRG F m P ops o a w N := by
  have hl : ∀ t ∈ o.looksAt ops, a.tmps[t]? = b.tmps[t]? := fun t hm => h.look h' fun j oj hj hoj hd => ht j oj t hj hoj hd hm
  have he : ∀ x ∈ o.op.operands, a.eval x = b.eval x := fun x hx => by
    cases x with
    | tmp t =>
      have := hl t (List.mem_append_left _ (List.mem_filterMap.2 ⟨.tmp t, by simpa using hx, rfl⟩))
      simp only [Act.eval, Array.getD_eq_getD_getElem?, this]
    | _ => rfl
  refine hr.congr (execOp_congr o hsel he) ?_ (about_congr o w he)
  unfold Region.wanted
  cases hg : o.guard with
  | none => rfl
  | some gw =>
    obtain ⟨g, want⟩ := gw
    have hy : yielded ops a.tmps g = yielded ops b.tmps g := by
      unfold yielded
      cases ht : (ops[g]?).bind (·.dst) with
      | none => rfl
      | some t =>
        have := hl t (by simp [Oper.looksAt, hg, ht])
        simp only [Option.bind_some, this]
    simp only [hy]

def left (listed : Array Bool) : Nat → Nat
  | 0 => 0
  | k + 1 => left listed k + if listed.getD k false = true then 0 else 1

theorem left_far {listed : Array Bool} {i : Nat} : ∀ k, k ≤ i → left (listed.setIfInBounds i true) k = left listed k
  | 0, _ => rfl
  | k + 1, h => by
    simp only [left]
    rw [left_far k (by omega), getD_set_ne false (by omega)]
theorem left_set {listed : Array Bool} {i : Nat} (hi : i < listed.size) (hu : listed.getD i false = false) : ∀ k, i < k → left (listed.setIfInBounds i true) k + 1 = left listed k
  | 0, h => by omega
  | k + 1, h => by
    simp only [left]
    by_cases e : i = k
    · subst e
      rw [left_far i (Nat.le_refl _)]
      have : (listed.setIfInBounds i true).getD i false = true := by simp [hi]
      rw [if_pos this, hu]
      simp
    · have := left_set hi hu k (by omega)
      rw [getD_set_ne false e]
      omega
theorem left_zero {listed : Array Bool} : ∀ k, left listed k = 0 → ∀ j, j < k → listed.getD j false = true
  | 0, _, j, hj => by omega
  | k + 1, h, j, hj => by
    simp only [left] at h
    by_cases e : j = k
    · subst e
      by_cases hl : listed.getD j false = true
      · exact hl
      · rw [if_neg hl] at h; omega
    · exact left_zero k (by omega) j (by omega)
theorem left_some {listed : Array Bool} : ∀ k, left listed k ≠ 0 → ∃ j, j < k ∧ listed.getD j false = false
  | 0, h => by simp [left] at h
  | k + 1, h => by
    simp only [left] at h
    by_cases hl : listed.getD k false = true
    · rw [if_pos hl] at h
      obtain ⟨j, hj, hu⟩ := left_some k (by omega)
      exact ⟨j, by omega, hu⟩
    · exact ⟨k, by omega, by simpa using hl⟩
theorem left_all {s : Nat} : ∀ k, left (Array.replicate s false) k = k
  | 0 => rfl
  | k + 1 => by simp only [left]; rw [left_all k, getD_replicate_false]; simp


/-- The head in whatever order, kept by an invariant of what has come, its values, and the world. -/
theorem rg_any {Q : Exit → Act → World → Prop} {l : List Oper} {a0 : Act} (hsel : Region.noSelect ops = true) (hn : n ≤ ops.size) (hsc : n = ops.size ∨ (Region.sinkB .any ops n = true ∧ Region.chainB .any ops n = true))
    (hok : ∀ k o, k < n → ops[k]? = some o → okOp ops n k o = true) (hseq : Region.seqB .any ops (ops.size - n) n ((List.range ops.size).map fun j => decide (j < n)).toArray = true)
    (hl : ∀ j, j < n → l[j]? = ops[j]?) (hll : l.length = n) (tail : List Oper) (htl : ∀ j, tail[j]? = ops[n + j]?) (I : (Nat → Bool) → (Nat → Value) → World → Prop)
    (hI : ∀ L L' vs w, (∀ j, j < n → L j = L' j) → I L vs w → I L' vs w)
    (hstep : ∀ k o, k < n → ops[k]? = some o → ∀ L vs w, I L vs w → L k = false → (∀ j, Bef ops j k = true → L j = true) → opRG F m P ops o (stAt (l.take k) 0 vs a0) w fun v w' => I (upd L k true) (upd vs k v) w')
    (hend : ∀ L vs w, I L vs w → (∀ j, j < n → L j = true) → wpListIn F m P ops Q tail (stAt l 0 vs a0) w) :
    ∀ (f : Nat) (listed : Array Bool) (vs : Nat → Value) (a : Act) (w : World), left listed n = f → HeadInv .any ops n listed → I (fun j => listed.getD j false) vs w →
      Agree ops n (fun j => listed.getD j false = true) vs a0 a → wpAnyIn F m P .any ops Q (f + (ops.size - n)) listed a w := by
  have hop : ∀ j, j < n → ∃ o, ops[j]? = some o := fun j hj => ⟨ops[j]'(by omega), by simp [show j < ops.size by omega]⟩
  have hag : ∀ (vs : Nat → Value) (k : Nat), k ≤ n → Agree ops n (fun j => j < k) vs a0 (stAt (l.take k) 0 vs a0) := by
    intro vs k
    induction k with
    | zero => intro _; exact Agree.nil fun j _ h => by omega
    | succ k ih =>
      intro hk
      obtain ⟨o, ho⟩ := hop k (by omega)
      have hlk : l[k]? = some o := (hl k (by omega)).trans ho
      have hlt : k < l.length := by omega
      rw [List.take_succ_eq_append_getElem hlt, stAt_append]
      have hgo : l[k] = o := by
        have := List.getElem?_eq_getElem hlt
        rw [hlk] at this; exact (Option.some.inj this).symm
      simp only [stAt, hgo, List.length_take, Nat.min_eq_left (Nat.le_of_lt hlt), Nat.zero_add]
      exact (ih (by omega)).put (by omega) ho (fun j _ => by omega) (fun j oj d hj hoj hdj hne => ((okOp_spec (hok k o (by omega) ho)).2.2 j oj d hj hoj hdj).2 hne) (fun j _ _ _ => rfl)
  intro f
  induction f with
  | zero =>
    intro listed vs a w hf inv hinv ha
    have hall := left_zero n hf
    have hl2 : listed = ((List.range ops.size).map fun j => decide (j < n)).toArray := by
      apply Array.ext_getElem?
      intro i
      rcases Nat.lt_or_ge i ops.size with hi | hi
      · have hi' : i < listed.size := by rw [inv.size]; exact hi
        simp only [List.getElem?_toArray, List.getElem?_map, List.getElem?_range hi, Option.map_some]
        rw [Array.getElem?_eq_getElem hi']
        rcases Nat.lt_or_ge i n with hin | hin
        · have := hall i hin
          simp only [Array.getD_eq_getD_getElem?, Array.getElem?_eq_getElem hi', Option.getD_some] at this
          simp [this, hin]
        · have := inv.tail i hin hi
          simp only [Array.getD_eq_getD_getElem?, Array.getElem?_eq_getElem hi', Option.getD_some] at this
          simp [this, Nat.not_lt.2 hin]
      · rw [Array.getElem?_eq_none (by rw [inv.size]; exact hi)]
        simp [hi]
    have hae : a = stAt l 0 vs a0 := by
      have := hag vs n (Nat.le_refl _)
      rw [List.take_of_length_le (by omega)] at this
      exact ha.eq this fun j hj => ⟨fun _ => hj, fun _ => hall j hj⟩
    have htlen : tail.length = ops.size - n := by
      have h1 : tail.length ≤ ops.size - n := by
        rcases Nat.lt_or_ge (ops.size - n) tail.length with h1 | h1
        · have := htl (ops.size - n)
          rw [List.getElem?_eq_getElem h1, Array.getElem?_eq_none (by omega)] at this
          cases this
        · exact h1
      have h2 : ops.size - n ≤ tail.length := by
        rcases Nat.lt_or_ge tail.length (ops.size - n) with h2 | h2
        · have := htl tail.length
          rw [List.getElem?_eq_none (Nat.le_refl _), Array.getElem?_eq_getElem (by omega)] at this
          cases this
        · exact h2
      omega
    rw [Nat.zero_add, ← htlen]
    refine seq_in tail n listed a w htl (by rw [htlen, hl2]; exact hseq) ?_
    rw [hae]
    exact hend _ vs w hinv hall
  | succ f ih =>
    intro listed vs a w hf inv hinv ha
    have hready : ∀ i, i < n → listed.getD i false = false → Region.ready .any ops listed ≠ [] := by
      intro i
      induction i using Nat.strongRecOn with
      | _ i ihi =>
        intro hi hu hnil
        obtain ⟨o, ho⟩ := hop i hi
        by_cases hex : ∃ e ∈ o.after, Region.binds .any e = true ∧ listed.getD e.on false = false
        · obtain ⟨e, he, hb, hue⟩ := hex
          have hlt := (okOp_spec (hok i o hi ho)).2.1 e he hb
          exact ihi e.on hlt (by omega) hue hnil
        · have : i ∈ Region.ready .any ops listed := mem_ready.2 ⟨getD_in (by rw [inv.size]; omega) hu, o, ho, fun e he hb => by
            cases hx : listed.getD e.on false with
            | true => rfl
            | false => exact absurd ⟨e, he, hb, hx⟩ hex⟩
          rw [hnil] at this
          cases this
    obtain ⟨i0, hi0, hu0⟩ := left_some n (by omega : left listed n ≠ 0)
    rw [show f + 1 + (ops.size - n) = (f + (ops.size - n)) + 1 by omega]
    refine ⟨fun h0 => absurd h0 (hready i0 hi0 hu0), fun i hi => ?_⟩
    obtain ⟨hun, o, ho, hedges⟩ := mem_ready.1 hi
    have hisz : i < ops.size := (Array.getElem?_eq_some_iff.1 ho).1
    have hin : i < n := by
      rcases hsc with hsc | ⟨hs, hc⟩
      · omega
      · refine Nat.lt_of_not_le fun hge => ?_
        exact tail_waits hs hc (by omega) inv _ i0 rfl hi0 (getD_in (by rw [inv.size]; omega) hu0) i hge hi
    have hok' := okOp_spec (hok i o hin ho)
    have hfalse := getD_both hun
    have hr := hstep i o hin ho _ vs w hinv hfalse fun j hb => before_ready inv.closed hi _ j hb
    have hr2 := ha.opRG (hag vs i (by omega)) (Region.noSelect_spec hsel i o · · ho) (fun j oj d hj hoj hdj hlk => by
      obtain ⟨h1, h2⟩ := (hok'.2.2 j oj d hj hoj hdj).1 hlk
      exact ⟨fun _ => h1, fun _ => before_ready inv.closed hi _ j h2⟩) hr
    refine hr2.wpOpIn ho hok'.1 ?_
    intro v w' hI'
    refine ih (listed.setIfInBounds i true) (upd vs i v) _ w' ?_ (inv.set hi hin) (hI _ _ _ _ (fun j _ => ?_) hI') ?_
    · have := left_set (k := n) (by rw [inv.size]; exact hisz) hfalse hin
      omega
    · by_cases e : j = i
      · subst e
        rw [upd_same]
        simp [show j < listed.size by rw [inv.size]; exact hisz]
      · rw [upd_ne _ _ e, getD_set_ne false (Ne.symm e)]
    · have := ha.put (vs' := upd vs i v) (L' := fun j => (listed.setIfInBounds i true).getD j false = true) hin ho (fun j hj => by
        by_cases e : j = i
        · subst e
          exact ⟨fun _ => .inr rfl, fun _ => by simp [show j < listed.size by rw [inv.size]; exact hisz]⟩
        · rw [getD_set_ne false (Ne.symm e)]
          exact ⟨.inl, fun h => h.resolve_right e⟩) (fun j oj d hj hoj hdj hne => (hok'.2.2 j oj d hj hoj hdj).2 hne) (fun j _ _ hne => upd_ne _ _ hne)
      rw [upd_same] at this
      exact this

theorem wpIn_region_inv {id : Nat} {Q : Exit → Act → World → Prop} {a : Act} {w : World} {l : List Oper} (n : Nat) (hm : P.follows .mixedOrders = true) (hB : rgB l.toArray n = true) (I : (Nat → Bool) → (Nat → Value) → World → Prop)
    (hI : ∀ L L' vs w, (∀ j, j < n → L j = L' j) → I L vs w → I L' vs w) (vs0 : Nat → Value) (h0 : I (fun _ => false) vs0 w.drew)
    (hstep : ∀ k o, k < n → l[k]? = some o → ∀ L vs w, I L vs w → L k = false → (∀ j, Bef l.toArray j k = true → L j = true) → opRG F m P l.toArray o (stAt (l.take k) 0 vs a) w fun v w' => I (upd L k true) (upd vs k v) w')
    (hend : ∀ L vs w, I L vs w → (∀ j, j < n → L j = true) → wpListIn F m P l.toArray Q (l.drop n) (stAt (l.take n) 0 vs a) w) : (Code.region id l.toArray true).wpIn F m P Q a w := by
  simp only [rgB, Bool.and_eq_true, Bool.or_eq_true, decide_eq_true_eq] at hB
  obtain ⟨⟨⟨⟨hsel, hn⟩, hsc⟩, hok⟩, hseq⟩ := hB
  have hn' : n ≤ l.length := by simpa using hn
  refine wpIn_region_any hm ?_
  have H := rg_any (F := F) (m := m) (P := P) (ops := l.toArray) (n := n) (Q := Q) (l := l.take n) (a0 := a) hsel hn hsc (fun k o hk ho => by
      have := List.all_eq_true.1 hok k (List.mem_range.2 hk)
      simp only [ho] at this
      exact this) hseq (fun j hj => by simp [hj]) (by simp; omega) (l.drop n) (fun j => by simp [List.getElem?_drop]) I hI (fun k o hk ho L vs w hi hL hb => by
      have := hstep k o hk (by simpa using ho) L vs w hi hL hb
      rwa [List.take_take, Nat.min_eq_left (Nat.le_of_lt hk)]) hend n (Array.replicate l.toArray.size false) vs0 a w.drew (left_all n)
    ⟨by simp, fun j oj _ hl => (by rw [getD_replicate_false] at hl; cases hl), fun t _ ht => getD_in (by simpa using ht) (getD_replicate_false _ _)⟩
    (hI _ _ _ _ (fun j _ => (getD_replicate_false _ _).symm) h0) (Agree.nil fun j _ hl => by rw [getD_replicate_false] at hl; cases hl)
  rw [show n + (l.toArray.size - n) = l.toArray.size by omega] at H
  exact H

theorem opRG.mono {o : Oper} {a : Act} {w : World} {N N' : Value → World → Prop} (h : ∀ v w', N v w' → N' v w') (hr : Go.Proofs.Ytdhmefdnpiidbaa.RG.opRG F m P ops o a w N) : Go.Proofs.Ytdhmefdnpiidbaa.RG.opRG F m P ops o a w N' := by
  unfold Go.Proofs.Ytdhmefdnpiidbaa.RG.opRG at *
  refine ⟨hr.1, ?_⟩
  split
  · rename_i hw
    have h2 := hr.2
    rw [if_pos hw] at h2
    generalize (execOp a.eval o).run P w = r at *
    match r, h2 with
    | .ok (.value u) w', h2 => exact h _ _ h2
    | .ok .skip w', h2 => exact h _ _ h2
    | .ok (.enter f args) w', h2 => exact ⟨h2.1, h2.2.mono fun e w'' ⟨v, he, hv⟩ => ⟨v, he, h _ _ hv⟩⟩
  · rename_i hw
    have h2 := hr.2
    rw [if_neg hw] at h2
    exact h _ _ h2

/-! ### Values told ahead, and the rest by an invariant -/

/-- What keeps all that lay there. -/
def Keeps (w w' : World) : Prop := Below w.heap.size w w'
theorem Keeps.refl (w : World) : Keeps w w := Below.refl _ _
theorem Keeps.trans {a b c : World} (h : Keeps a b) (k : Keeps b c) : Keeps a c := Below.trans h (Below.mono k h.size)

section
variable {rel : List Nat} {J : List Bool → List Value → World → Prop} {C : World → Prop} {val : Nat → Option Value} {T : (Nat → Value) → Act → Prop}

/-- The walk in the order of the text. C: what all keep; J: what is told of those that are in 'rel' (whether they have come; their values). -/
def rgWalk (F : Fence) (m : Nat) (P : Program) (ops : Array Oper) (C : World → Prop) (rel : List Nat) (J : List Bool → List Value → World → Prop) (val : Nat → Option Value) (T : (Nat → Value) → Act → Prop) : List Oper → Nat → (Nat → Value) → Act → Prop
  | [], _, vs, a => T vs a
  | o :: rest, k, vs, a =>
    (∀ L us w, C w → (∀ j, j < k → us j = vs j) → L k = false → (∀ j, Bef ops j k = true → L j = true) → J (rel.map L) (rel.map us) w → opRG F m P ops o a w fun v w' => C w' ∧ J (rel.map (upd L k true)) (rel.map (upd us k v)) w' ∧ ∀ c, val k = some c → v = c) ∧
    ∀ v, (∀ c, val k = some c → v = c) → rgWalk F m P ops C rel J val T rest (k + 1) (upd vs k v) (a.put o.dst v)

theorem rgWalk_at (us : Nat → Value) (hg : ∀ k c, val k = some c → us k = c) : ∀ (l : List Oper) (k : Nat) (vs : Nat → Value) (a : Act), (∀ j, j < k → us j = vs j) → rgWalk F m P ops C rel J val T l k vs a →
    (∀ i o, l[i]? = some o → ∀ L w, C w → L (k + i) = false → (∀ j, Bef ops j (k + i) = true → L j = true) → J (rel.map L) (rel.map us) w → opRG F m P ops o (stAt (l.take i) k us a) w fun v w' => C w' ∧ J (rel.map (upd L (k + i) true)) (rel.map (upd us (k + i) v)) w' ∧ ∀ c, val (k + i) = some c → v = c) ∧
    ∃ vs', (∀ j, j < k + l.length → us j = vs' j) ∧ T vs' (stAt l k us a) := by
  intro l
  induction l with
  | nil => intro k vs a h0 h; exact ⟨fun i o hi => by simp at hi, vs, by simpa using h0, h⟩
  | cons o l ih =>
    intro k vs a h0 h
    obtain ⟨hs, hn⟩ := h
    have hn' := ih (k + 1) (upd vs k (us k)) (a.put o.dst (us k)) (fun j hj => by
      by_cases e : j = k
      · subst e; rw [upd_same]
      · rw [upd_ne _ _ e]; exact h0 j (by omega)) (hn (us k) fun c hc => hg k c hc)
    refine ⟨fun i o' hi L w hC hL hb hJ => ?_, ?_⟩
    · cases i with
      | zero =>
        obtain rfl : o = o' := by simpa using hi
        exact hs L us w hC h0 hL hb hJ
      | succ i =>
        have := hn'.1 i o' (by simpa using hi) L w hC (by rw [show k + 1 + i = k + (i + 1) by omega]; exact hL) (by rw [show k + 1 + i = k + (i + 1) by omega]; exact hb) hJ
        rw [show k + 1 + i = k + (i + 1) by omega] at this
        exact this
    · obtain ⟨vs', h1, h2⟩ := hn'.2
      exact ⟨vs', fun j hj => h1 j (by simp only [List.length_cons] at hj; omega), h2⟩

theorem wpIn_region_rg {id : Nat} {Q : Exit → Act → World → Prop} {a : Act} {w : World} {l : List Oper} (n : Nat) (hm : P.follows .mixedOrders = true) (hB : rgB l.toArray n = true) (C : World → Prop) (rel : List Nat) (J : List Bool → List Value → World → Prop) (val : Nat → Option Value)
    (hrel : ∀ j ∈ rel, j < n) (hC : C w.drew) (hJ : ∀ us : Nat → Value, J (rel.map fun _ => false) (rel.map us) w.drew)
    (h : rgWalk F m P l.toArray C rel J val (fun vs a => ∀ us V, C V → (∀ j, j < n → us j = vs j) → J (rel.map fun _ => true) (rel.map us) V → wpListIn F m P l.toArray Q (l.drop n) a V) (l.take n) 0 (fun _ => undef) a) :
    (Code.region id l.toArray true).wpIn F m P Q a w := by
  refine wpIn_region_inv n hm hB (fun L vs w => C w ∧ J (rel.map L) (rel.map vs) w ∧ ∀ k c, val k = some c → vs k = c) (fun L L' vs w hL hi => ⟨hi.1, ?_, hi.2.2⟩) (fun k => (val k).getD undef) ⟨hC, hJ _, fun k c hk => by simp [hk]⟩ (fun k o hk ho L vs w hi hL hb => ?_) (fun L vs w hi hL => ?_)
  · rw [List.map_congr_left fun j hj => (hL j (hrel j hj)).symm]
    exact hi.2.1
  · have hn' : n ≤ l.length := by
      simp only [rgB, Bool.and_eq_true, decide_eq_true_eq] at hB
      simpa using hB.1.1.1.2
    have hlt : k < l.length := by omega
    have := (rgWalk_at vs hi.2.2 (l.take n) 0 _ a (fun j hj => by omega) h).1 k o (by simp [hk, ho]) L w hi.1 (by simpa using hL) (by simpa using hb) hi.2.1
    rw [List.take_take, Nat.min_eq_left (Nat.le_of_lt hk)] at this
    simp only [Nat.zero_add] at this
    refine this.mono fun v w' ⟨h1, h2, h3⟩ => ⟨h1, h2, fun j c hj => ?_⟩
    by_cases e : j = k
    · subst e; rw [upd_same]; exact h3 c hj
    · rw [upd_ne _ _ e]; exact hi.2.2 j c hj
  · have hn' : n ≤ l.length := by
      simp only [rgB, Bool.and_eq_true, decide_eq_true_eq] at hB
      simpa using hB.1.1.1.2
    obtain ⟨vs', h1, h2⟩ := (rgWalk_at vs hi.2.2 (l.take n) 0 _ a (fun j hj => by omega) h).2
    refine h2 vs w hi.1 (fun j hj => h1 j (by simp; omega)) ?_
    rw [List.map_congr_left fun j hj => (hL j (hrel j hj)).symm]
    exact hi.2.1

theorem rgWalk.nil {vs : Nat → Value} {a : Act} {k : Nat} (h : T vs a) : rgWalk F m P ops C rel J val T [] k vs a := h

theorem map_upd {α : Type} {rel : List Nat} {k : Nat} (hk : rel.contains k = false) (L : Nat → α) (v : α) : rel.map (upd L k v) = rel.map L :=
  List.map_congr_left fun j hj => upd_ne _ _ fun e => by subst e; simp [hj] at hk

/-- One operation whose value is told. -/
theorem rg_val {o : Oper} {rest : List Oper} {k : Nat} {vs : Nat → Value} {a : Act} (c : Value) (hs : val k = some c) (hk : rel.contains k = false) (hCk : ∀ V V', C V → Keeps V V' → C V') (hJk : ∀ bs us V V', Keeps V V' → J bs us V → J bs us V')
    (h : ∀ L us V, C V → (∀ j, j < k → us j = vs j) → (∀ j, Bef ops j k = true → L j = true) → J (rel.map L) (rel.map us) V → Go.Proofs.Ytdhmefdnpiidbaa.RG.opRG F m P ops o a V fun v w' => v = c ∧ Keeps V w')
    (hn : rgWalk F m P ops C rel J val T rest (k + 1) (upd vs k c) (a.put o.dst c)) : rgWalk F m P ops C rel J val T (o :: rest) k vs a := by
  refine ⟨fun L us V hC hu hL hb hJ => (h L us V hC hu hb hJ).mono fun v w' ⟨e, hw⟩ => ⟨hCk _ _ hC hw, by rw [map_upd hk, map_upd hk]; exact hJk _ _ _ _ hw hJ, fun c' hc' => by rw [hs] at hc'; cases hc'; exact e⟩, fun v hv => ?_⟩
  rw [hv c hs]
  exact hn
/-- One operation that is told by the invariant. -/
theorem rg_rel {o : Oper} {rest : List Oper} {k : Nat} {vs : Nat → Value} {a : Act} (hs : val k = none)
    (h : ∀ L us V, C V → (∀ j, j < k → us j = vs j) → L k = false → (∀ j, Bef ops j k = true → L j = true) → J (rel.map L) (rel.map us) V → Go.Proofs.Ytdhmefdnpiidbaa.RG.opRG F m P ops o a V fun v w' => C w' ∧ J (rel.map (upd L k true)) (rel.map (upd us k v)) w')
    (hn : ∀ v, rgWalk F m P ops C rel J val T rest (k + 1) (upd vs k v) (a.put o.dst v)) : rgWalk F m P ops C rel J val T (o :: rest) k vs a :=
  ⟨fun L us V hC hu hL hb hJ => (h L us V hC hu hL hb hJ).mono fun v w' ⟨h1, h2⟩ => ⟨h1, h2, fun c hc => by rw [hs] at hc; cases hc⟩, fun v _ => hn v⟩
end
end

theorem uponRG_value {F : Fence} {m : Nat} {P : Program} {N : Value → World → Prop} (u : Value) (w : World) : uponRG F m P N (.ok (.value u) w) = N u w := rfl
theorem uponRG_skip {F : Fence} {m : Nat} {P : Program} {N : Value → World → Prop} (w : World) : uponRG F m P N (.ok .skip w) = N undef w := rfl
theorem uponRG_enter {F : Fence} {m : Nat} {P : Program} {N : Value → World → Prop} (f : FuncId) (args : Array Value) (w : World) :
    uponRG F m P N (.ok (.enter f args) w) = ((F.depth.isSome = true → 1 ≤ m) ∧ CallsIn F (m - 1) P f args w fun e w'' => ∃ v, e = .returned v ∧ N v w'') := rfl
theorem opRG_run {F : Fence} {m : Nat} {P : Program} {ops : Array Oper} {o : Oper} {a : Act} {w : World} {N : Value → World → Prop} (hF : ∀ f, F.fn f) (hw : Region.wanted o (yielded ops a.tmps) = true) (h : uponRG F m P N ((execOp a.eval o).run P w)) : opRG F m P ops o a w N :=
  ⟨fun f _ => hF f, by rw [if_pos hw]; exact h⟩
theorem opRG_not {F : Fence} {m : Nat} {P : Program} {ops : Array Oper} {o : Oper} {a : Act} {w : World} {N : Value → World → Prop} (hF : ∀ f, F.fn f) (hw : Region.wanted o (yielded ops a.tmps) = false) (h : N undef w) : opRG F m P ops o a w N :=
  ⟨fun f _ => hF f, by rw [if_neg (by rw [hw]; exact Bool.false_ne_true)]; exact h⟩

def tellOf (sp : List (Option Value)) (k : Nat) : Option Value := sp.getD k none

/-- Values alone; all keeps what lay there. -/
theorem wpIn_rg0 {F : Fence} {m : Nat} {P : Program} {id : Nat} {Q : Exit → Act → World → Prop} {a : Act} {w : World} {l : List Oper} (n : Nat) (sp : List (Option Value)) (hm : P.follows .mixedOrders = true) (hB : rgB l.toArray n = true)
    (h : rgWalk F m P l.toArray (Keeps w.drew) [] (fun _ _ _ => True) (tellOf sp) (fun vs a => ∀ (us : Nat → Value) V, Keeps w.drew V → (∀ j, j < n → us j = vs j) → True → wpListIn F m P l.toArray Q (l.drop n) a V) (l.take n) 0 (fun _ => undef) a) :
    (Code.region id l.toArray true).wpIn F m P Q a w :=
  wpIn_region_rg n hm hB (Keeps w.drew) [] (fun _ _ _ => True) (tellOf sp) (fun j hj => by cases hj) (Keeps.refl _) (fun _ => trivial) h
theorem rg_val0 {F : Fence} {m : Nat} {P : Program} {ops : Array Oper} {w0 : World} {sp : List (Option Value)} {T : (Nat → Value) → Act → Prop} {o : Oper} {rest : List Oper} {k : Nat} {vs : Nat → Value} {a : Act} (c : Value) (hs : tellOf sp k = some c)
    (h : ∀ V, Keeps w0 V → opRG F m P ops o a V fun v w' => v = c ∧ Keeps V w')
    (hn : rgWalk F m P ops (Keeps w0) [] (fun _ _ _ => True) (tellOf sp) T rest (k + 1) (upd vs k c) (a.put o.dst c)) : rgWalk F m P ops (Keeps w0) [] (fun _ _ _ => True) (tellOf sp) T (o :: rest) k vs a :=
  rg_val c hs rfl (fun _ _ h k => h.trans k) (fun _ _ _ _ _ h => h) (fun _ _ V hV _ _ _ => h V hV) hn

/-- One box that the region makes and fills: whether it has come, whether it is filled; its pointer. -/
def BoxJ (n0 : Nat) (o0 o1 : Obj) : List Bool → List Value → World → Prop
  | [b, c], [p, _], V => (c = true → b = true) ∧ (b = true → ∃ g, p = .pointer (some ⟨g, 0, none⟩) ∧ n0 ≤ g ∧ V.heap[g]? = some (if c = true then o1 else o0))
  | _, _, _ => True
theorem BoxJ.keeps {n0 : Nat} {o0 o1 : Obj} (bs : List Bool) (us : List Value) (V V' : World) (hk : Keeps V V') (h : BoxJ n0 o0 o1 bs us V) : BoxJ n0 o0 o1 bs us V' := by
  match bs, us, h with
  | [b, c], [p, _], h => exact ⟨h.1, fun hb => let ⟨g, e, hl, hg⟩ := h.2 hb; ⟨g, e, hl, (hk.block g (Array.getElem?_eq_some_iff.1 hg).1).trans hg⟩⟩
  | [], _, _ => exact trivial
  | [_], _, _ => exact trivial
  | _ :: _ :: _ :: _, _, _ => exact trivial
  | [_, _], [], _ => exact trivial
  | [_, _], [_], _ => exact trivial
  | [_, _], _ :: _ :: _ :: _, _ => exact trivial
theorem BoxJ.start {n0 : Nat} {o0 o1 : Obj} (p q : Value) (V : World) : BoxJ n0 o0 o1 [false, false] [p, q] V := ⟨fun h => h, fun h => by cases h⟩
theorem BoxJ.made {n0 : Nat} {o0 o1 : Obj} {b c : Bool} {p q p' : Value} {V V' : World} (h : BoxJ n0 o0 o1 [b, c] [p, q] V) (hb : b = false) {g : Nat} (hp : p' = .pointer (some ⟨g, 0, none⟩)) (hn : n0 ≤ g) (hg : V'.heap[g]? = some o0) : BoxJ n0 o0 o1 [true, c] [p', q] V' :=
  ⟨fun _ => rfl, fun _ => ⟨g, hp, hn, by
    cases c with
    | false => exact hg
    | true => rw [h.1 rfl] at hb; cases hb⟩⟩
theorem BoxJ.get {n0 : Nat} {o0 o1 : Obj} {b c : Bool} {p q : Value} {V : World} (h : BoxJ n0 o0 o1 [b, c] [p, q] V) (hb : b = true) : ∃ g, p = .pointer (some ⟨g, 0, none⟩) ∧ n0 ≤ g ∧ V.heap[g]? = some (if c = true then o1 else o0) := h.2 hb
theorem BoxJ.filled {n0 : Nat} {o0 o1 : Obj} {g : Nat} {q : Value} {V : World} (hn : n0 ≤ g) (hg : V.heap[g]? = some o1) : BoxJ n0 o0 o1 [true, true] [.pointer (some ⟨g, 0, none⟩), q] V := ⟨fun _ => rfl, fun _ => ⟨g, rfl, hn, hg⟩⟩
end Go.Proofs.Ytdhmefdnpiidbaa.RG
