import Derived.Test.YtlacfgnjljjdiaaDoorL1
set_option linter.unusedVariables false
open Go Go.RowKit
namespace Wh
/-- append of one element, as one operation of a list that draws no order. -/
theorem list_append {P : Program} {ops : Array Oper} {rest : List Oper} {o : Oper} {a : Act} {w : World} {Q : Exit → Act → World → Prop} (hg : o.guard = none) (s x : Operand) {t e : TypeId} {z : Value} {size bytes : Nat}
    (hop : o.op = .call { callee := .builtin .append, args := #[s, x], argTypes := #[t, t] }) (ht : P.underlying t = some (.slice e)) (hinfo : (P.info? e).map (fun i => (i.zero, i.size, i.bytes)) = some (some z, size, bytes)) (hz : z.cells.size = size) (hsz : 0 < size) (hby : bytes ≤ 100000)
    (base : Nat) (v : Value) (n : Nat) (xs : List Value) (hs : a.eval s = v) (hown : w.ownsRow base e size v n xs)
    (g : Nat) (cs : Array Value) (hx : a.eval x = .slice (some ⟨g, 0, none⟩) 1 1) (hb : Blk w g cs e) (hl : cs.size = size) (h1 : ∀ u ∈ cs.toList, u.oneCell' = true) (hn : n < 1000000000) (hbase : base ≤ w.heap.size)
    (hK : ∀ A c w', w'.ownsRow base e size (.slice A (n + 1) c) (n + 1) (xs ++ cs.toList) → w.grownBy w' v.ownBlock → ((Value.slice A (n + 1) c).ownBlock = v.ownBlock ∨ (Value.slice A (n + 1) c).ownBlock = some w.heap.size) → wpList P ops Q rest (a.put o.dst (.slice A (n + 1) c)) w') :
    wpList P ops Q (o :: rest) a w := by
  obtain ⟨i0, hi, hz0, hz1, hz2⟩ := info_parts hinfo
  have hbound : (n + 1) * bytes ≤ 140737488355328 := Nat.le_trans (Nat.mul_le_mul (show n + 1 ≤ 1000000000 by omega) hby) (by decide)
  refine wpList_append_own_at w hg s x t hop base e i0 z size bytes ht hi hz0 hz1 hz2 hz hsz v n xs hs hown ⟨g, 0, none⟩ 1 1 cs.toList hx (by simp [hl]) (by
    intro j u hu
    rw [add_lit', Nat.zero_add, hb.cell]
    simpa using hu) h1 (by simp only [maxLen]; omega) hbound hbase ?_
  intro v' w' hown1 hgr _ hat
  obtain ⟨A, c, rfl⟩ := own_shape hown1
  exact hK A c w' hown1 hgr hat
/-- 'step_call', which fails at once at another operation, at a call of another function. -/
theorem step_callq {P : Program} {ops : Array Oper} {o : Oper} {a : Act} {w : World} {K : Act → World → Prop} {Q : Exit → Act → World → Prop} {E : Prop} (f : FuncId) {args : Array Value} {xs : Array Operand} {ats : Array TypeId} (hg : o.guard = none)
    (hop : o.op = .call { callee := .value (.func f), args := xs, argTypes := ats })
    (hrun : (execOp a.eval o).run P w = .ok (.enter f args) w)
    (h : Calls P f args w fun | .returned v, w'' => K (a.put o.dst v) w'' | .panicked chain, w'' => Q (.panic chain) a w'' | .outgrown, _ => LetsOut Q) :
    if Region.wanted o (yielded ops a.tmps) = true then Oper.wp P o a w K Q else E := step_call f hg hrun h
theorem own_ne'' {w : World} {base : Nat} {e : TypeId} {size : Nat} {v : Value} {n : Nat} {xs : List Value} (h : w.ownsRow base e size v n xs) {g : Nat} (hg : w.heap.size ≤ g) : some g ≠ v.ownBlock := by
  intro e
  have := (h.lt g e.symm).2
  omega
/-- What stays, where one block, and one row, are written. -/
structure Two (w w' : World) (b : Nat) (row : Option Nat) : Prop where
  os : w'.os = w.os
  tape : w'.tape = w.tape
  output : w'.output = w.output
  size : w.heap.size ≤ w'.heap.size
  block : ∀ g, g < w.heap.size → g ≠ b → some g ≠ row → w'.heap[g]? = w.heap[g]?
theorem Two.refl (w : World) (b : Nat) (row : Option Nat) : Two w w b row := ⟨rfl, rfl, rfl, Nat.le_refl _, fun _ _ _ _ => rfl⟩
theorem Two.trans {a w w' : World} {b : Nat} {row row' : Option Nat} (h : Two a w b row) (k : Two w w' b row') (hr : row' = row ∨ ∃ g, row' = some g ∧ a.heap.size ≤ g) : Two a w' b row :=
  ⟨k.os.trans h.os, k.tape.trans h.tape, k.output.trans h.output, Nat.le_trans h.size k.size, fun g hg hb hne => (k.block g (Nat.lt_of_lt_of_le hg h.size) hb (by
    rcases hr with rfl | ⟨q, rfl, hq⟩
    · exact hne
    · intro e
      injection e with e
      omega)).trans (h.block g hg hb hne)⟩
theorem Two.alloc {a w : World} {b : Nat} {row : Option Nat} (h : Two a w b row) (o : Obj) : Two a (w.alloc o) b row :=
  ⟨h.os, h.tape, h.output, Nat.le_trans h.size (by simp), fun g hg hb hne => (Below.heap_alloc w o g (Nat.lt_of_lt_of_le hg h.size)).trans (h.block g hg hb hne)⟩
theorem Two.set {a w : World} {b : Nat} {row : Option Nat} (h : Two a w b row) (i : Nat) (u : Value) : Two a (w.setCell ⟨b, i, none⟩ u) b row :=
  ⟨h.os, h.tape, h.output, by simpa [World.setCell] using h.size, fun g hg hb hne => (Below.heap_setCell w _ u g hb).trans (h.block g hg hb hne)⟩
theorem Two.grown {a w w' : World} {b : Nat} {row row' : Option Nat} (h : Two a w b row) (k : w.grownBy w' row') (hr : row' = row ∨ ∃ g, row' = some g ∧ a.heap.size ≤ g) : Two a w' b row :=
  h.trans ⟨k.os, k.tape, k.output, k.size, fun g hg _ hne => k.block g hg hne⟩ hr
theorem Blk.two {w w' : World} {g b : Nat} {cs : Array Value} {t : TypeId} {row : Option Nat} (h : Blk w g cs t) (k : Two w w' b row) (hb : g ≠ b) (hr : some g ≠ row) : Blk w' g cs t := (k.block g h.lt hb hr).trans h
theorem D.rd_two {w w' : World} {ok : Nat → Prop} {d : D} {v : Value} {b : Nat} {row : Option Nat} (h : d.rd w ok v) (k : Two w w' b row) (hok : ∀ g, ok g → g ≠ b ∧ some g ≠ row) : d.rd w' ok v :=
  D.rd_keep h (fun g hg hl => ⟨hg, k.block g hl (hok g hg).1 (hok g hg).2⟩)
end Wh
