import Derived.Test.YtlacfgnjljjdiaaDoorT5
import Derived.Recover
import Derived.Laws.Pointers
set_option linter.unusedVariables false
set_option linter.unusedSimpArgs false
open Go Go.RowKit Go.Proofs
namespace Wh
theorem tried1_idle (be bx : Nat) (w : World) :
    CallsD Tryd.prog 44 #[.pointer (some ⟨be, 0, none⟩), .pointer (some ⟨bx, 0, none⟩)] .returning w fun e u' w' => e = .returned (.tuple #[]) ∧ u' = .returning ∧ w' = w := by
  refine callsD_of_wpS Tryd.func44 rfl fun c₀ cs hu => ?_
  apply wpS_seq
  apply wpS_region
  simp [wpOpsS, go_sem, recoverD, hu, Tryd.ntmps44, Exit.thenS]
  refine wpS_of_wp ?_
  simp only [List.size_toArray, List.length_cons, List.length_nil, Nat.reduceAdd, Nat.reduceSub, Array.replicate_succ, Array.replicate_zero, List.push_toArray, List.append_toArray, List.nil_append, List.cons_append, List.setIfInBounds_toArray, List.set_cons_zero, List.set_cons_succ]
  go_wp2_with fail
  cases c₀
  simp_all [bodyPostS, results, Tryd.results44]
set_option maxRecDepth 100000 in
theorem tried1_panic (be bx : Nat) (n e0 : Int) (a b c d e : Value) (older : List PanicEntry) (w : World) (he : Blk w be #[.int .i64 e0] 41) (hx : Blk w bx #[a, b, c, d, e] 28) (hne : be ≠ bx) :
    CallsD Tryd.prog 44 #[.pointer (some ⟨be, 0, none⟩), .pointer (some ⟨bx, 0, none⟩)] (.panicking ({ v := .iface 41 (.int .i64 n), recovered := false } :: older)) w fun e u' w' =>
      e = .returned (.tuple #[]) ∧ u' = .panicking ({ v := .iface 41 (.int .i64 n), recovered := true } :: older) ∧ w' = (set5 (w.setCell ⟨be, 0, none⟩ (.int .i64 n)) bx (.int .u8 0) (.string ⟨#[]⟩) (.bool false) (.slice none 0 0) (.slice none 0 0)).alloc (.cells #[.int .u8 0, .string ⟨#[]⟩, .bool false, .slice none 0 0, .slice none 0 0] 28) := by
  refine callsD_of_wpS Tryd.func44 rfl fun c₀ cs hu => ?_
  apply wpS_seq
  apply wpS_region
  simp [wpOpsS, go_sem, recoverD, hu, Tryd.ntmps44, Exit.thenS]
  refine wpS_of_wp ?_
  simp only [List.size_toArray, List.length_cons, List.length_nil, Nat.reduceAdd, Nat.reduceSub, Array.replicate_succ, Array.replicate_zero, List.push_toArray, List.append_toArray, List.nil_append, List.cons_append, List.setIfInBounds_toArray, List.set_cons_zero, List.set_cons_succ]
  obtain ⟨e1, e2⟩ := Blk.c1 he
  obtain ⟨⟨x0, x1, x2, x3, x4⟩, y0, y1, y2, y3, y4⟩ := Blk.c5 hx
  have z1 := he.lt
  have z2 := hx.lt
  clear he hx
  have hta : ∀ w, (Instr.typeAssert (.iface 41 (.int .i64 n)) 20 41 true).run Tryd.prog w = .ok (.tuple #[.int .i64 n, .bool true]) w := fun _ => rfl
  go_wp2_with fail
  all_goals simp [bodyPostS, results, Tryd.results44, set5]
theorem with_blk' {W w2 : World} {g : Nat} {cs : Array Value} {t : TypeId} {row : Option Nat} (hg2 : W.grownBy w2 row) (h : Blk W g cs t) (hne : ∀ k, row = some k → k < g ∨ g < k) : Blk w2 g cs t := h.grown hg2 (by rintro rfl; have := hne g rfl; omega)
/-- The world as 'tried' calls what it is given. -/
def triedW (w : World) : World := (w.alloc (.cells #[.int .u8 0, .string ⟨#[]⟩, .bool false, .slice none 0 0, .slice none 0 0] 28)).alloc (.cells #[.int .i64 0] 41)
/-- What 'tried' makes of what its function leaves (S). -/
def TriedPost (w : World) (S : Ending → World → Prop) (row : Option Nat) (e : Ending) (w3 : World) : Prop :=
  ∃ w2, w.grownBy w3 row ∧ w2.heap.size ≤ w3.heap.size ∧ (∀ g, g < w2.heap.size → g ≠ w.heap.size → g ≠ w.heap.size + 1 → w3.heap[g]? = w2.heap[g]?) ∧
    ((∃ k n ng dA dn dc kA kn kc, S (.returned (.agg #[.int .u8 k, .string n, .bool ng, .slice dA dn dc, .slice kA kn kc])) w2 ∧ e = .returned (.tuple #[.agg #[.int .u8 k, .string n, .bool ng, .slice dA dn dc, .slice kA kn kc], .int .i64 0])) ∨
     (∃ n, S (.panicked (thrown n)) w2 ∧ e = .returned (.tuple #[.agg #[.int .u8 0, .string ⟨#[]⟩, .bool false, .slice none 0 0, .slice none 0 0], .int .i64 n])))
set_option maxRecDepth 100000 in
theorem tried_calls {g : Nat} {cap : Array Value} {w : World} {S : Ending → World → Prop} {row : Option Nat} (hrow : ∀ k, row = some k → k < w.heap.size) (eg : ∀ args w, (callFunc g args).run Tryd.prog w = .ok (.enter g args) w) (h : Calls Tryd.prog g cap (triedW w) S)
    (hS : ∀ e w', S e w' → (triedW w).grownBy w' row ∧ ((∃ k n ng dA dn dc kA kn kc, e = .returned (.agg #[.int .u8 k, .string n, .bool ng, .slice dA dn dc, .slice kA kn kc])) ∨ ∃ n, e = .panicked (thrown n))) :
    Calls Tryd.prog 26 #[.func (.func g) #[] cap] w (TriedPost w S row) := by
  have hmf : ∀ (fn : Fn) (first cap : Array Value) (w : World), (Instr.makeFunc fn first cap).run Tryd.prog w = .ok (.func fn first cap) w := fun _ _ _ _ => rfl
  have H := Lib.hid h
  have HS := Lib.hid hS
  have HR := Lib.hid hrow
  clear h hS hrow
  go_enter_defers Tryd.func26, Tryd.ntmps26
  go_wp2_with fail
  refine Calls.mono (H.out) ?_
  intro e w2 hs2
  obtain ⟨hg2, hs3⟩ := HS.out e w2 hs2
  have hx := with_blk' hg2 (Blk.alloc (Blk.new w _ _) _) (fun k hk => by have := HR.out k hk; omega)
  have he := with_blk' (g := w.heap.size + 1) hg2 (Blk.new' _ _ _ (by simp)) (fun k hk => by have := HR.out k hk; omega)
  have z2 := hg2.size
  simp [triedW] at z2
  have z3 : w.heap.size < w2.heap.size := by omega
  have z4 : w.heap.size + 1 < w2.heap.size := by omega
  obtain ⟨ee1, ee2⟩ := Blk.c1 he
  obtain ⟨⟨x0, x1, x2, x3, x4⟩, y0, y1, y2, y3, y4⟩ := Blk.c5 hx
  have HE := Lib.hid he
  have HX := Lib.hid hx
  have HG := Lib.hid hg2
  clear he hx hg2
  rcases hs3 with ⟨k, n, ng, dA, dn, dc, kA, kn, kc, rfl⟩ | ⟨n, rfl⟩
  · have HS2 := Lib.hid hs2
    clear hs2
    dsimp only
    go_wp2
    refine leaves_cons (f := 44) (args := #[.pointer (some ⟨w.heap.size + 1, 0, none⟩), .pointer (some ⟨w.heap.size, 0, none⟩)]) (by simp) (by simp [go_sem]) ?_
    refine (tried1_idle (w.heap.size + 1) w.heap.size _).mono ?_
    rintro e u' w' ⟨rfl, rfl, rfl⟩
    simp [Leaves, settle, results, Tryd.results26, go_sem, x0, x1, x2, x3, x4, ee1, y0, y1, y2, y3, y4, ee2]
    refine ⟨w2, ?_, ?_, ?_, .inl ⟨k, n, ng, dA, dn, dc, kA, kn, kc, HS2.out, rfl⟩⟩
    · exact grown_set (set5_grown (grown_trans (grown_alloc (grown_alloc (grown_refl _ _) _) _) HG.out) (Nat.le_refl _) _ _ _ _ _) (.inr (by simp)) _
    · simp [World.setCell]
    · intro g hg h1 h2
      exact (Below.heap_setCell _ _ _ g h2).trans (set5_keep h1)
  · have HS2 := Lib.hid hs2
    clear hs2
    dsimp only
    go_wp2
    refine leaves_cons (f := 44) (args := #[.pointer (some ⟨w.heap.size + 1, 0, none⟩), .pointer (some ⟨w.heap.size, 0, none⟩)]) (by simp) (by simp [go_sem]) ?_
    refine (tried1_panic (w.heap.size + 1) w.heap.size n 0 _ _ _ _ _ [] _ HE.out HX.out (by omega)).mono ?_
    rintro e u' w' ⟨rfl, rfl, rfl⟩
    simp [Leaves, settle, results, Tryd.results26, go_sem, set5, z3, z4, x0, x1, x2, x3, x4, ee1, y0, y1, y2, y3, y4, ee2]
    refine ⟨w2, ?_, ?_, ?_, .inr ⟨n, HS2.out, rfl⟩⟩
    · exact grown_alloc (set5_grown (grown_set (grown_trans (grown_alloc (grown_alloc (grown_refl _ _) _) _) HG.out) (.inr (by simp)) _) (Nat.le_refl _) _ _ _ _ _) _
    · simp [World.setCell]
    · intro g hg h1 h2
      exact (Below.heap_alloc _ _ _ (by simpa [set5] using hg)).trans ((set5_keep h1).trans (Below.heap_setCell _ _ _ g h2))
end Wh
