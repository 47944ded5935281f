/- For every list and every place: the list sorted, its mid, its spread, and it without the element of that place are as the document says; of more than 40 elements the live question alone is asked. -/
import Derived.Test.YtdhmefdnpiidbaaPOrderTellsx1
import Derived.Test.YtdhmefdnpiidbaaAlv02
namespace Go.Proofs.Ytdhmefdnpiidbaa.Pure
open Go.RowKit Go.Proofs.Ytdhmefdnpiidbaa.POrderTells Go.Proofs.YtdhmefdnpiidbaaW.PrintWords Go.Proofs.YtdhmefdnpiidbaaW.PrintLast
open Go.Proofs.Ytdhmefdnpiidbaa.Base Go.Proofs.Ytdhmefdnpiidbaa.Ord Go.Proofs.Ytdhmefdnpiidbaa.Ref Go.Proofs.Ytdhmefdnpiidbaa.Al02

theorem OrderTells : rudderlaw02_OrderTells.Pure := by
  intro l a _ h8 _ _
  have hm : l.length ≤ 140737488351232 := by omega
  refine Ev.rounds (g := fun k => rudderlaw02_OrderTells.f k l a) ?_
  unfold rudderlaw02_OrderTells.f
  by_cases h40 : (l.length : Int) > 40
  · simp only [if_pos h40]
    exact Ev.bind ev_alive (Ev.now _)
  · simp only [if_neg h40]
    have hs : (if okB l = true then sortI l else []).length ≤ 140737488351232 := by
      split
      · rw [sortI_length]; exact hm
      · simp
    have hw : (if okB l = true then withoutI l a else []).length ≤ 140737488351232 := by
      split
      · unfold withoutI dropI
        split
        · simp; omega
        · exact hm
      · simp
    refine Ev.bind (g := fun _ => order_Mid.f l) (Ev.now _) ?_
    refine Ev.bind (ev_mid l hm) ?_
    refine Ev.bind (g := fun _ => order_Sort.f l) (Ev.now _) ?_
    refine Ev.bind (ev_sort l hm) ?_
    refine Ev.bind (ev_ints _ _ hs) ?_
    refine Ev.bind (g := fun _ => order_Without.f l a) (Ev.now _) ?_
    refine Ev.bind (ev_without l a hm) ?_
    refine Ev.bind (ev_ints _ _ hw) ?_
    refine Ev.bind ev_alive ?_
    simp only [if_true, decide_true, beq_self_eq_true]
    refine Ev.bind (g := fun _ => order_Spread.f l) (Ev.now _) ?_
    refine Ev.bind (ev_spread l hm) ?_
    simp only [beq_self_eq_true]
    exact Ev.now _

end Go.Proofs.Ytdhmefdnpiidbaa.Pure
