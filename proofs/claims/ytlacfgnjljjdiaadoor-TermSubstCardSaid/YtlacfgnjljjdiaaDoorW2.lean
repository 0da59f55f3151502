import Derived.Test.YtlacfgnjljjdiaaDoorT1
import Derived.Lib.Hide
import Derived.StillTailTactics
set_option linter.unusedVariables false
set_option linter.unusedSimpArgs false
open Go Go.RowKit Go.Proofs
namespace Wh
/-! ### a drawn region of quiet operations, walked one by one, its own text out of sight -/
section
variable {P : Program}
/-- Number i of the region's first n operations is next. -/
def StillAt (P : Program) (l : List Oper) (n : Nat) (w : World) (Q : Act → Prop) (i : Nat) (a : Act) : Prop := wpStill P l.toArray w Q ((l.take n).drop i) a
theorem drop_next {α : Type} {l : List α} {i : Nat} {o : α} {r : List α} (h : l.drop i = o :: r) : r = l.drop (i + 1) := by
  have := congrArg List.tail h
  simpa [List.tail_drop] using this.symm
theorem StillAt.take {l : List Oper} {n i : Nat} {w : World} {Q : Act → Prop} {a a' : Act} {o : Oper} {r : List Oper} {v : Value} (ho : (l.take n).drop i = o :: r) (hw : Region.wanted o (yielded l.toArray a.tmps) = true)
    (hv : (execOp a.eval o).run P w = .ok (.value v) w) (ha : a.put o.dst v = a') (h : StillAt P l n w Q (i + 1) a') : StillAt P l n w Q i a := by
  unfold StillAt at *
  rw [ho]
  refine wpStill_step fun K hK => ?_
  rw [if_pos hw]
  unfold Oper.still
  rw [hv, Oper.stillUpon_value]
  subst ha
  rw [← drop_next ho] at h
  exact hK _ h
theorem StillAt.skip {l : List Oper} {n i : Nat} {w : World} {Q : Act → Prop} {a a' : Act} {o : Oper} {r : List Oper} (ho : (l.take n).drop i = o :: r) (hw : Region.wanted o (yielded l.toArray a.tmps) = false)
    (ha : a.put o.dst undef = a') (h : StillAt P l n w Q (i + 1) a') : StillAt P l n w Q i a := by
  unfold StillAt at *
  rw [ho]
  refine wpStill_step fun K hK => ?_
  rw [if_neg (by simp [hw])]
  subst ha
  rw [← drop_next ho] at h
  exact hK _ h
theorem StillAt.take' {l l' : List Oper} {n i : Nat} {w : World} {Q : Act → Prop} {a a' : Act} {o : Oper} {r : List Oper} {v : Value} (hl : Hid (l' = l)) (ho : (l.take n).drop i = o :: r) (hw : Region.wanted o (yielded l.toArray a.tmps) = true)
    (hv : (execOp a.eval o).run P w = .ok (.value v) w) (ha : a.put o.dst v = a') (h : StillAt P l' n w Q (i + 1) a') : StillAt P l' n w Q i a := by
  obtain rfl : l' = l := hl
  exact StillAt.take ho hw hv ha h
theorem StillAt.skip' {l l' : List Oper} {n i : Nat} {w : World} {Q : Act → Prop} {a a' : Act} {o : Oper} {r : List Oper} (hl : Hid (l' = l)) (ho : (l.take n).drop i = o :: r) (hw : Region.wanted o (yielded l.toArray a.tmps) = false)
    (ha : a.put o.dst undef = a') (h : StillAt P l' n w Q (i + 1) a') : StillAt P l' n w Q i a := by
  obtain rfl : l' = l := hl
  exact StillAt.skip ho hw ha h
theorem StillAt.done' {l l' : List Oper} {n i : Nat} {w : World} {Q : Act → Prop} {a : Act} (hl : Hid (l' = l)) (ho : (l.take n).drop i = []) (h : Q a) : StillAt P l' n w Q i a := by
  obtain rfl : l' = l := hl
  unfold StillAt
  rw [ho]
  exact wpStill_nil h
theorem still_begin {id : Nat} {Q : Exit → Act → World → Prop} {a : Act} {w : World} {l : List Oper} (n : Nat) (hm : P.follows .mixedOrders = true) (hB : Region.lexTailB .any l.toArray n = true)
    (h : ∀ (l' : List Oper) (Q' : Act → Prop), Hid (l' = l) → Hid (∀ a', wpList P l.toArray Q (l.drop n) a' w.drew → Q' a') → StillAt P l' n w.drew Q' 0 a) : (Code.region id l.toArray true).wp P Q a w :=
  wp_region_still_tail n hm hB (h l _ (Lib.hid rfl) (Lib.hid (fun _ h => h)))
theorem still_whole {id : Nat} {Q : Exit → Act → World → Prop} {a : Act} {w : World} {l : List Oper} (hm : P.follows .mixedOrders = true) (hB : Region.lexB .any l.toArray = true)
    (h : ∀ (l' : List Oper) (Q' : Act → Prop), Hid (l' = l) → Hid (∀ a', Q .normal a' w.drew → Q' a') → StillAt P l' l.length w.drew Q' 0 a) : (Code.region id l.toArray true).wp P Q a w := by
  refine wp_region_still_lit hm hB ?_
  have := h l _ (Lib.hid rfl) (Lib.hid (fun _ h => h))
  unfold StillAt at this
  simpa using this
end
end Wh
