import Derived.Test.YtlacfgnjljjdiaaDoorW1
set_option linter.unusedVariables false
set_option linter.unusedSimpArgs false
open Go Go.RowKit Go.Proofs
namespace Wh
/-- The reference's reader: at a place of s, all well so far or not. -/
def RSt (w : World) (b : Nat) (s : ByteArray) (at_ : Nat) (bad : Bool) : Prop := Blk w b #[.string s, .int .i64 at_, .bool bad] 74
theorem Blk.c3 {w : World} {b : Nat} {v0 v1 v2 : Value} {t : TypeId} (h : Blk w b #[v0, v1, v2] t) : (w.cell? ⟨b, 0, none⟩ = some v0 ∧ w.cell? ⟨b, 1, none⟩ = some v1 ∧ w.cell? ⟨b, 2, none⟩ = some v2) ∧ w.frozen? ⟨b, 0, none⟩ = false ∧ w.frozen? ⟨b, 1, none⟩ = false ∧ w.frozen? ⟨b, 2, none⟩ = false :=
  ⟨⟨h.cell 0, h.cell 1, h.cell 2⟩, h.free 0, h.free 1, h.free 2⟩
def sgnBad (s : ByteArray) (at_ : Nat) (c : Int) : Bool := if h : at_ < s.size then ((s[at_].toNat : Int) != c) else true
def SignPost (w : World) (b : Nat) (s : ByteArray) (at_ : Nat) (bad : Bool) (c : Int) (e : Ending) (w' : World) : Prop := e = .returned (.tuple #[]) ∧ w.grownBy w' (some b) ∧ RSt w' b s (at_ + 1) (bad || sgnBad s at_ c)
theorem RSt.turn {w : World} {b : Nat} {s : ByteArray} {at_ : Nat} {bad x : Bool} (h : RSt w b s at_ bad) : RSt ((w.setCell ⟨b, 2, none⟩ (.bool x)).setCell ⟨b, 1, none⟩ (.int .i64 ((at_ : Int) + 1))).drew b s (at_ + 1) x := by
  have h2 := ((Blk.set h 2 (.bool x)).set 1 (.int .i64 ((at_ : Int) + 1))).drew
  have e : ((#[.string s, .int .i64 at_, .bool bad] : Array Value).setIfInBounds 2 (.bool x)).setIfInBounds 1 (.int .i64 ((at_ : Int) + 1)) = #[.string s, .int .i64 ((at_ + 1 : Nat) : Int), .bool x] := by simp
  rw [e] at h2
  exact h2
theorem SignPost.mk' {w : World} {b : Nat} {s : ByteArray} {at_ : Nat} {bad : Bool} {c : Int} {x : Bool} (h : RSt w b s at_ bad) (hx : (bad || sgnBad s at_ c) = x) :
    SignPost w b s at_ bad c (.returned (.tuple #[])) ((w.setCell ⟨b, 2, none⟩ (.bool x)).setCell ⟨b, 1, none⟩ (.int .i64 ((at_ : Int) + 1))).drew := by
  subst hx
  have g0 : w.grownBy w (some b) := grown_refl _ _
  have g1 := grown_set g0 (p := ⟨b, 2, none⟩) (.inl rfl) (.bool (bad || sgnBad s at_ c))
  have g2 := grown_set g1 (p := ⟨b, 1, none⟩) (.inl rfl) (.int .i64 ((at_ : Int) + 1))
  exact ⟨rfl, grown_drew g2, RSt.turn h⟩
set_option maxHeartbeats 1000000 in
set_option maxRecDepth 100000 in
theorem refsign_calls (b : Nat) (s : ByteArray) (at_ : Nat) (bad : Bool) (c : Int) (w : World) (h : RSt w b s at_ bad) (hs : s.size ≤ 1000000000) (ha : at_ ≤ 2000000000) :
    Calls Tryd.prog 51 #[.pointer (some ⟨b, 0, none⟩), .int .u8 c] w (SignPost w b s at_ bad c) := by
  have hb := Blk.lt h
  have HH := Lib.hid h
  obtain ⟨⟨c0, c1, c2⟩, f0, f1, f2⟩ := Blk.c3 h
  clear h
  have hw : IntKind.i64.wrap ((at_ : Int) + 1) = (at_ : Int) + 1 := wrap_id _ (by omega) (by omega)
  cases bad with
  | true =>
    go_enter Tryd.func51, Tryd.ntmps51
    go_wp2_with fail
    refine still_begin 32 (by kernel_rfl) (by kernel_rfl) (fun lq Qq HLq HQq => ?_)
    refine StillAt.take' (i := 0) (v := ?_) (a' := ?_) HLq rfl (by rfl) ?_ ?_ ?_
    rotate_left 2
    · go_simp
      all_goals (with_reducible rfl)
    · simp only [Act.put, List.setIfInBounds_toArray, List.set_cons_zero, List.set_cons_succ]
      rfl
    refine StillAt.take' (i := 1) (v := ?_) (a' := ?_) HLq rfl (by rfl) ?_ ?_ ?_
    rotate_left 2
    · go_simp
      all_goals (with_reducible rfl)
    · simp only [Act.put, List.setIfInBounds_toArray, List.set_cons_zero, List.set_cons_succ]
      rfl
    refine StillAt.take' (i := 2) (v := ?_) (a' := ?_) HLq rfl (by rfl) ?_ ?_ ?_
    rotate_left 2
    · go_simp
      all_goals (with_reducible rfl)
    · simp only [Act.put, List.setIfInBounds_toArray, List.set_cons_zero, List.set_cons_succ]
      rfl
    refine StillAt.take' (i := 3) (v := ?_) (a' := ?_) HLq rfl (by rfl) ?_ ?_ ?_
    rotate_left 2
    · go_simp
      all_goals (with_reducible rfl)
    · simp only [Act.put, List.setIfInBounds_toArray, List.set_cons_zero, List.set_cons_succ]
      rfl
    refine StillAt.take' (i := 4) (v := ?_) (a' := ?_) HLq rfl (by rfl) ?_ ?_ ?_
    rotate_left 2
    · go_simp
      all_goals (with_reducible rfl)
    · simp only [Act.put, List.setIfInBounds_toArray, List.set_cons_zero, List.set_cons_succ]
      rfl
    refine StillAt.take' (i := 5) (v := ?_) (a' := ?_) HLq rfl (by rfl) ?_ ?_ ?_
    rotate_left 2
    · go_simp
      all_goals (with_reducible rfl)
    · simp only [Act.put, List.setIfInBounds_toArray, List.set_cons_zero, List.set_cons_succ]
      rfl
    refine StillAt.skip' (i := 6) (a' := ?_) HLq rfl (by rfl) ?_ ?_
    rotate_left 1
    · simp only [Act.put, List.setIfInBounds_toArray, List.set_cons_zero, List.set_cons_succ]
      rfl
    refine StillAt.skip' (i := 7) (a' := ?_) HLq rfl (by rfl) ?_ ?_
    rotate_left 1
    · simp only [Act.put, List.setIfInBounds_toArray, List.set_cons_zero, List.set_cons_succ]
      rfl
    refine StillAt.skip' (i := 8) (a' := ?_) HLq rfl (by rfl) ?_ ?_
    rotate_left 1
    · simp only [Act.put, List.setIfInBounds_toArray, List.set_cons_zero, List.set_cons_succ]
      rfl
    refine StillAt.skip' (i := 9) (a' := ?_) HLq rfl (by rfl) ?_ ?_
    rotate_left 1
    · simp only [Act.put, List.setIfInBounds_toArray, List.set_cons_zero, List.set_cons_succ]
      rfl
    refine StillAt.skip' (i := 10) (a' := ?_) HLq rfl (by rfl) ?_ ?_
    rotate_left 1
    · simp only [Act.put, List.setIfInBounds_toArray, List.set_cons_zero, List.set_cons_succ]
      rfl
    refine StillAt.skip' (i := 11) (a' := ?_) HLq rfl (by rfl) ?_ ?_
    rotate_left 1
    · simp only [Act.put, List.setIfInBounds_toArray, List.set_cons_zero, List.set_cons_succ]
      rfl
    refine StillAt.skip' (i := 12) (a' := ?_) HLq rfl (by rfl) ?_ ?_
    rotate_left 1
    · simp only [Act.put, List.setIfInBounds_toArray, List.set_cons_zero, List.set_cons_succ]
      rfl
    refine StillAt.skip' (i := 13) (a' := ?_) HLq rfl (by rfl) ?_ ?_
    rotate_left 1
    · simp only [Act.put, List.setIfInBounds_toArray, List.set_cons_zero, List.set_cons_succ]
      rfl
    refine StillAt.skip' (i := 14) (a' := ?_) HLq rfl (by rfl) ?_ ?_
    rotate_left 1
    · simp only [Act.put, List.setIfInBounds_toArray, List.set_cons_zero, List.set_cons_succ]
      rfl
    refine StillAt.skip' (i := 15) (a' := ?_) HLq rfl (by rfl) ?_ ?_
    rotate_left 1
    · simp only [Act.put, List.setIfInBounds_toArray, List.set_cons_zero, List.set_cons_succ]
      rfl
    refine StillAt.take' (i := 16) (v := ?_) (a' := ?_) HLq rfl (by rfl) ?_ ?_ ?_
    rotate_left 2
    · go_simp
      all_goals (with_reducible rfl)
    · simp only [Act.put, List.setIfInBounds_toArray, List.set_cons_zero, List.set_cons_succ]
      rfl
    refine StillAt.take' (i := 17) (v := ?_) (a' := ?_) HLq rfl (by rfl) ?_ ?_ ?_
    rotate_left 2
    · go_simp
      all_goals (with_reducible rfl)
    · simp only [Act.put, List.setIfInBounds_toArray, List.set_cons_zero, List.set_cons_succ]
      rfl
    refine StillAt.skip' (i := 18) (a' := ?_) HLq rfl (by rfl) ?_ ?_
    rotate_left 1
    · simp only [Act.put, List.setIfInBounds_toArray, List.set_cons_zero, List.set_cons_succ]
      rfl
    refine StillAt.skip' (i := 19) (a' := ?_) HLq rfl (by rfl) ?_ ?_
    rotate_left 1
    · simp only [Act.put, List.setIfInBounds_toArray, List.set_cons_zero, List.set_cons_succ]
      rfl
    refine StillAt.skip' (i := 20) (a' := ?_) HLq rfl (by rfl) ?_ ?_
    rotate_left 1
    · simp only [Act.put, List.setIfInBounds_toArray, List.set_cons_zero, List.set_cons_succ]
      rfl
    refine StillAt.skip' (i := 21) (a' := ?_) HLq rfl (by rfl) ?_ ?_
    rotate_left 1
    · simp only [Act.put, List.setIfInBounds_toArray, List.set_cons_zero, List.set_cons_succ]
      rfl
    refine StillAt.skip' (i := 22) (a' := ?_) HLq rfl (by rfl) ?_ ?_
    rotate_left 1
    · simp only [Act.put, List.setIfInBounds_toArray, List.set_cons_zero, List.set_cons_succ]
      rfl
    refine StillAt.skip' (i := 23) (a' := ?_) HLq rfl (by rfl) ?_ ?_
    rotate_left 1
    · simp only [Act.put, List.setIfInBounds_toArray, List.set_cons_zero, List.set_cons_succ]
      rfl
    refine StillAt.skip' (i := 24) (a' := ?_) HLq rfl (by rfl) ?_ ?_
    rotate_left 1
    · simp only [Act.put, List.setIfInBounds_toArray, List.set_cons_zero, List.set_cons_succ]
      rfl
    refine StillAt.skip' (i := 25) (a' := ?_) HLq rfl (by rfl) ?_ ?_
    rotate_left 1
    · simp only [Act.put, List.setIfInBounds_toArray, List.set_cons_zero, List.set_cons_succ]
      rfl
    refine StillAt.skip' (i := 26) (a' := ?_) HLq rfl (by rfl) ?_ ?_
    rotate_left 1
    · simp only [Act.put, List.setIfInBounds_toArray, List.set_cons_zero, List.set_cons_succ]
      rfl
    refine StillAt.skip' (i := 27) (a' := ?_) HLq rfl (by rfl) ?_ ?_
    rotate_left 1
    · simp only [Act.put, List.setIfInBounds_toArray, List.set_cons_zero, List.set_cons_succ]
      rfl
    refine StillAt.skip' (i := 28) (a' := ?_) HLq rfl (by rfl) ?_ ?_
    rotate_left 1
    · simp only [Act.put, List.setIfInBounds_toArray, List.set_cons_zero, List.set_cons_succ]
      rfl
    refine StillAt.take' (i := 29) (v := ?_) (a' := ?_) HLq rfl (by rfl) ?_ ?_ ?_
    rotate_left 2
    · go_simp
      all_goals (with_reducible rfl)
    · simp only [Act.put, List.setIfInBounds_toArray, List.set_cons_zero, List.set_cons_succ]
      rfl
    refine StillAt.take' (i := 30) (v := ?_) (a' := ?_) HLq rfl (by rfl) ?_ ?_ ?_
    rotate_left 2
    · go_simp
      all_goals (with_reducible rfl)
    · simp only [Act.put, List.setIfInBounds_toArray, List.set_cons_zero, List.set_cons_succ]
      rfl
    refine StillAt.take' (i := 31) (v := ?_) (a' := ?_) HLq rfl (by rfl) ?_ ?_ ?_
    rotate_left 2
    · go_simp
      all_goals (with_reducible rfl)
    · simp only [Act.put, List.setIfInBounds_toArray, List.set_cons_zero, List.set_cons_succ]
      rfl
    refine StillAt.done' HLq rfl ?_
    refine HQq.out _ ?_
    clear HQq HLq Qq lq
    simp only [List.drop_succ_cons, List.drop_zero]
    go_wp2_with fail
    go_end0
    exact SignPost.mk' HH.out rfl
  | false =>
    by_cases hlt : at_ < s.size
    · have i1 : decide (s.size ≤ at_) = false := decide_eq_false (by omega)
      have b1 : (0 : Int) ≤ at_ := by omega
      have b2 : (at_ : Int) < s.size := by omega
      go_enter Tryd.func51, Tryd.ntmps51
      go_wp2_with fail
      refine still_begin 32 (by kernel_rfl) (by kernel_rfl) (fun lq Qq HLq HQq => ?_)
      refine StillAt.take' (i := 0) (v := ?_) (a' := ?_) HLq rfl (by rfl) ?_ ?_ ?_
      rotate_left 2
      · go_simp
        all_goals (with_reducible rfl)
      · simp only [Act.put, List.setIfInBounds_toArray, List.set_cons_zero, List.set_cons_succ]
        rfl
      refine StillAt.take' (i := 1) (v := ?_) (a' := ?_) HLq rfl (by rfl) ?_ ?_ ?_
      rotate_left 2
      · go_simp
        all_goals (with_reducible rfl)
      · simp only [Act.put, List.setIfInBounds_toArray, List.set_cons_zero, List.set_cons_succ]
        rfl
      refine StillAt.take' (i := 2) (v := ?_) (a' := ?_) HLq rfl (by rfl) ?_ ?_ ?_
      rotate_left 2
      · go_simp
        all_goals (with_reducible rfl)
      · simp only [Act.put, List.setIfInBounds_toArray, List.set_cons_zero, List.set_cons_succ]
        rfl
      refine StillAt.take' (i := 3) (v := ?_) (a' := ?_) HLq rfl (by rfl) ?_ ?_ ?_
      rotate_left 2
      · go_simp
        all_goals (with_reducible rfl)
      · simp only [Act.put, List.setIfInBounds_toArray, List.set_cons_zero, List.set_cons_succ]
        rfl
      refine StillAt.take' (i := 4) (v := ?_) (a' := ?_) HLq rfl (by rfl) ?_ ?_ ?_
      rotate_left 2
      · go_simp
        all_goals (with_reducible rfl)
      · simp only [Act.put, List.setIfInBounds_toArray, List.set_cons_zero, List.set_cons_succ]
        rfl
      refine StillAt.take' (i := 5) (v := ?_) (a' := ?_) HLq rfl (by rfl) ?_ ?_ ?_
      rotate_left 2
      · go_simp
        all_goals (with_reducible rfl)
      · simp only [Act.put, List.setIfInBounds_toArray, List.set_cons_zero, List.set_cons_succ]
        rfl
      refine StillAt.take' (i := 6) (v := ?_) (a' := ?_) HLq rfl (by rfl) ?_ ?_ ?_
      rotate_left 2
      · go_simp
        all_goals (with_reducible rfl)
      · simp only [Act.put, List.setIfInBounds_toArray, List.set_cons_zero, List.set_cons_succ]
        rfl
      refine StillAt.take' (i := 7) (v := ?_) (a' := ?_) HLq rfl (by rfl) ?_ ?_ ?_
      rotate_left 2
      · go_simp
        all_goals (with_reducible rfl)
      · simp only [Act.put, List.setIfInBounds_toArray, List.set_cons_zero, List.set_cons_succ]
        rfl
      refine StillAt.take' (i := 8) (v := ?_) (a' := ?_) HLq rfl (by rfl) ?_ ?_ ?_
      rotate_left 2
      · go_simp
        all_goals (with_reducible rfl)
      · simp only [Act.put, List.setIfInBounds_toArray, List.set_cons_zero, List.set_cons_succ]
        rfl
      refine StillAt.take' (i := 9) (v := ?_) (a' := ?_) HLq rfl (by rfl) ?_ ?_ ?_
      rotate_left 2
      · go_simp
        all_goals (with_reducible rfl)
      · simp only [Act.put, List.setIfInBounds_toArray, List.set_cons_zero, List.set_cons_succ]
        rfl
      refine StillAt.take' (i := 10) (v := ?_) (a' := ?_) HLq rfl (by rfl) ?_ ?_ ?_
      rotate_left 2
      · go_simp
        all_goals (with_reducible rfl)
      · simp only [Act.put, List.setIfInBounds_toArray, List.set_cons_zero, List.set_cons_succ]
        rfl
      refine StillAt.take' (i := 11) (v := ?_) (a' := ?_) HLq rfl (by rfl) ?_ ?_ ?_
      rotate_left 2
      · go_simp
        all_goals (with_reducible rfl)
      · simp only [Act.put, List.setIfInBounds_toArray, List.set_cons_zero, List.set_cons_succ]
        rfl
      refine StillAt.take' (i := 12) (v := ?_) (a' := ?_) HLq rfl (by rfl) ?_ ?_ ?_
      rotate_left 2
      · go_simp
        all_goals (with_reducible rfl)
      · simp only [Act.put, List.setIfInBounds_toArray, List.set_cons_zero, List.set_cons_succ]
        rfl
      refine StillAt.take' (i := 13) (v := ?_) (a' := ?_) HLq rfl (by rfl) ?_ ?_ ?_
      rotate_left 2
      · go_simp
        all_goals (with_reducible rfl)
      · simp only [Act.put, List.setIfInBounds_toArray, List.set_cons_zero, List.set_cons_succ]
        rfl
      refine StillAt.take' (i := 14) (v := ?_) (a' := ?_) HLq rfl (by rfl) ?_ ?_ ?_
      rotate_left 2
      · go_simp
        all_goals (with_reducible rfl)
      · simp only [Act.put, List.setIfInBounds_toArray, List.set_cons_zero, List.set_cons_succ]
        rfl
      refine StillAt.take' (i := 15) (v := ?_) (a' := ?_) HLq rfl (by rfl) ?_ ?_ ?_
      rotate_left 2
      · go_simp
        all_goals (with_reducible rfl)
      · simp only [Act.put, List.setIfInBounds_toArray, List.set_cons_zero, List.set_cons_succ]
        rfl
      refine StillAt.take' (i := 16) (v := ?_) (a' := ?_) HLq rfl (by rfl) ?_ ?_ ?_
      rotate_left 2
      · go_simp
        all_goals (with_reducible rfl)
      · simp only [Act.put, List.setIfInBounds_toArray, List.set_cons_zero, List.set_cons_succ]
        rfl
      refine StillAt.take' (i := 17) (v := ?_) (a' := ?_) HLq rfl (by rfl) ?_ ?_ ?_
      rotate_left 2
      · go_simp
        all_goals (with_reducible rfl)
      · simp only [Act.put, List.setIfInBounds_toArray, List.set_cons_zero, List.set_cons_succ]
        rfl
      refine StillAt.take' (i := 18) (v := ?_) (a' := ?_) HLq rfl (by rfl) ?_ ?_ ?_
      rotate_left 2
      · go_simp
        all_goals (with_reducible rfl)
      · simp only [Act.put, List.setIfInBounds_toArray, List.set_cons_zero, List.set_cons_succ]
        rfl
      refine StillAt.take' (i := 19) (v := ?_) (a' := ?_) HLq rfl (by rfl) ?_ ?_ ?_
      rotate_left 2
      · go_simp
        all_goals (with_reducible rfl)
      · simp only [Act.put, List.setIfInBounds_toArray, List.set_cons_zero, List.set_cons_succ]
        rfl
      refine StillAt.take' (i := 20) (v := ?_) (a' := ?_) HLq rfl (by rfl) ?_ ?_ ?_
      rotate_left 2
      · go_simp
        all_goals (with_reducible rfl)
      · simp only [Act.put, List.setIfInBounds_toArray, List.set_cons_zero, List.set_cons_succ]
        rfl
      refine StillAt.take' (i := 21) (v := ?_) (a' := ?_) HLq rfl (by rfl) ?_ ?_ ?_
      rotate_left 2
      · go_simp
        all_goals (with_reducible rfl)
      · simp only [Act.put, List.setIfInBounds_toArray, List.set_cons_zero, List.set_cons_succ]
        rfl
      refine StillAt.take' (i := 22) (v := ?_) (a' := ?_) HLq rfl (by rfl) ?_ ?_ ?_
      rotate_left 2
      · go_simp
        all_goals (with_reducible rfl)
      · simp only [Act.put, List.setIfInBounds_toArray, List.set_cons_zero, List.set_cons_succ]
        rfl
      refine StillAt.take' (i := 23) (v := ?_) (a' := ?_) HLq rfl (by rfl) ?_ ?_ ?_
      rotate_left 2
      · go_simp
        all_goals (with_reducible rfl)
      · simp only [Act.put, List.setIfInBounds_toArray, List.set_cons_zero, List.set_cons_succ]
        rfl
      refine StillAt.take' (i := 24) (v := ?_) (a' := ?_) HLq rfl (by rfl) ?_ ?_ ?_
      rotate_left 2
      · go_simp
        all_goals (with_reducible rfl)
      · simp only [Act.put, List.setIfInBounds_toArray, List.set_cons_zero, List.set_cons_succ]
        rfl
      refine StillAt.take' (i := 25) (v := ?_) (a' := ?_) HLq rfl (by rfl) ?_ ?_ ?_
      rotate_left 2
      · go_simp
        all_goals (with_reducible rfl)
      · simp only [Act.put, List.setIfInBounds_toArray, List.set_cons_zero, List.set_cons_succ]
        rfl
      refine StillAt.take' (i := 26) (v := ?_) (a' := ?_) HLq rfl (by rfl) ?_ ?_ ?_
      rotate_left 2
      · go_simp
        all_goals (with_reducible rfl)
      · simp only [Act.put, List.setIfInBounds_toArray, List.set_cons_zero, List.set_cons_succ]
        rfl
      refine StillAt.take' (i := 27) (v := ?_) (a' := ?_) HLq rfl (by rfl) ?_ ?_ ?_
      rotate_left 2
      · go_simp
        all_goals (with_reducible rfl)
      · simp only [Act.put, List.setIfInBounds_toArray, List.set_cons_zero, List.set_cons_succ]
        rfl
      refine StillAt.take' (i := 28) (v := ?_) (a' := ?_) HLq rfl (by rfl) ?_ ?_ ?_
      rotate_left 2
      · go_simp
        all_goals (with_reducible rfl)
      · simp only [Act.put, List.setIfInBounds_toArray, List.set_cons_zero, List.set_cons_succ]
        rfl
      refine StillAt.take' (i := 29) (v := ?_) (a' := ?_) HLq rfl (by rfl) ?_ ?_ ?_
      rotate_left 2
      · go_simp
        all_goals (with_reducible rfl)
      · simp only [Act.put, List.setIfInBounds_toArray, List.set_cons_zero, List.set_cons_succ]
        rfl
      refine StillAt.take' (i := 30) (v := ?_) (a' := ?_) HLq rfl (by rfl) ?_ ?_ ?_
      rotate_left 2
      · go_simp
        all_goals (with_reducible rfl)
      · simp only [Act.put, List.setIfInBounds_toArray, List.set_cons_zero, List.set_cons_succ]
        rfl
      refine StillAt.take' (i := 31) (v := ?_) (a' := ?_) HLq rfl (by rfl) ?_ ?_ ?_
      rotate_left 2
      · go_simp
        all_goals (with_reducible rfl)
      · simp only [Act.put, List.setIfInBounds_toArray, List.set_cons_zero, List.set_cons_succ]
        rfl
      refine StillAt.done' HLq rfl ?_
      refine HQq.out _ ?_
      clear HQq HLq Qq lq
      simp only [List.drop_succ_cons, List.drop_zero]
      go_wp2_with fail
      go_end0
      exact SignPost.mk' HH.out (by simp [sgnBad, hlt])
    · have i1 : decide (s.size ≤ at_) = true := decide_eq_true (by omega)
      go_enter Tryd.func51, Tryd.ntmps51
      go_wp2_with fail
      refine still_begin 32 (by kernel_rfl) (by kernel_rfl) (fun lq Qq HLq HQq => ?_)
      refine StillAt.take' (i := 0) (v := ?_) (a' := ?_) HLq rfl (by rfl) ?_ ?_ ?_
      rotate_left 2
      · go_simp
        all_goals (with_reducible rfl)
      · simp only [Act.put, List.setIfInBounds_toArray, List.set_cons_zero, List.set_cons_succ]
        rfl
      refine StillAt.take' (i := 1) (v := ?_) (a' := ?_) HLq rfl (by rfl) ?_ ?_ ?_
      rotate_left 2
      · go_simp
        all_goals (with_reducible rfl)
      · simp only [Act.put, List.setIfInBounds_toArray, List.set_cons_zero, List.set_cons_succ]
        rfl
      refine StillAt.take' (i := 2) (v := ?_) (a' := ?_) HLq rfl (by rfl) ?_ ?_ ?_
      rotate_left 2
      · go_simp
        all_goals (with_reducible rfl)
      · simp only [Act.put, List.setIfInBounds_toArray, List.set_cons_zero, List.set_cons_succ]
        rfl
      refine StillAt.take' (i := 3) (v := ?_) (a' := ?_) HLq rfl (by rfl) ?_ ?_ ?_
      rotate_left 2
      · go_simp
        all_goals (with_reducible rfl)
      · simp only [Act.put, List.setIfInBounds_toArray, List.set_cons_zero, List.set_cons_succ]
        rfl
      refine StillAt.take' (i := 4) (v := ?_) (a' := ?_) HLq rfl (by rfl) ?_ ?_ ?_
      rotate_left 2
      · go_simp
        all_goals (with_reducible rfl)
      · simp only [Act.put, List.setIfInBounds_toArray, List.set_cons_zero, List.set_cons_succ]
        rfl
      refine StillAt.take' (i := 5) (v := ?_) (a' := ?_) HLq rfl (by rfl) ?_ ?_ ?_
      rotate_left 2
      · go_simp
        all_goals (with_reducible rfl)
      · simp only [Act.put, List.setIfInBounds_toArray, List.set_cons_zero, List.set_cons_succ]
        rfl
      refine StillAt.take' (i := 6) (v := ?_) (a' := ?_) HLq rfl (by rfl) ?_ ?_ ?_
      rotate_left 2
      · go_simp
        all_goals (with_reducible rfl)
      · simp only [Act.put, List.setIfInBounds_toArray, List.set_cons_zero, List.set_cons_succ]
        rfl
      refine StillAt.take' (i := 7) (v := ?_) (a' := ?_) HLq rfl (by rfl) ?_ ?_ ?_
      rotate_left 2
      · go_simp
        all_goals (with_reducible rfl)
      · simp only [Act.put, List.setIfInBounds_toArray, List.set_cons_zero, List.set_cons_succ]
        rfl
      refine StillAt.take' (i := 8) (v := ?_) (a' := ?_) HLq rfl (by rfl) ?_ ?_ ?_
      rotate_left 2
      · go_simp
        all_goals (with_reducible rfl)
      · simp only [Act.put, List.setIfInBounds_toArray, List.set_cons_zero, List.set_cons_succ]
        rfl
      refine StillAt.take' (i := 9) (v := ?_) (a' := ?_) HLq rfl (by rfl) ?_ ?_ ?_
      rotate_left 2
      · go_simp
        all_goals (with_reducible rfl)
      · simp only [Act.put, List.setIfInBounds_toArray, List.set_cons_zero, List.set_cons_succ]
        rfl
      refine StillAt.take' (i := 10) (v := ?_) (a' := ?_) HLq rfl (by rfl) ?_ ?_ ?_
      rotate_left 2
      · go_simp
        all_goals (with_reducible rfl)
      · simp only [Act.put, List.setIfInBounds_toArray, List.set_cons_zero, List.set_cons_succ]
        rfl
      refine StillAt.take' (i := 11) (v := ?_) (a' := ?_) HLq rfl (by rfl) ?_ ?_ ?_
      rotate_left 2
      · go_simp
        all_goals (with_reducible rfl)
      · simp only [Act.put, List.setIfInBounds_toArray, List.set_cons_zero, List.set_cons_succ]
        rfl
      refine StillAt.take' (i := 12) (v := ?_) (a' := ?_) HLq rfl (by rfl) ?_ ?_ ?_
      rotate_left 2
      · go_simp
        all_goals (with_reducible rfl)
      · simp only [Act.put, List.setIfInBounds_toArray, List.set_cons_zero, List.set_cons_succ]
        rfl
      refine StillAt.take' (i := 13) (v := ?_) (a' := ?_) HLq rfl (by rfl) ?_ ?_ ?_
      rotate_left 2
      · go_simp
        all_goals (with_reducible rfl)
      · simp only [Act.put, List.setIfInBounds_toArray, List.set_cons_zero, List.set_cons_succ]
        rfl
      refine StillAt.take' (i := 14) (v := ?_) (a' := ?_) HLq rfl (by rfl) ?_ ?_ ?_
      rotate_left 2
      · go_simp
        all_goals (with_reducible rfl)
      · simp only [Act.put, List.setIfInBounds_toArray, List.set_cons_zero, List.set_cons_succ]
        rfl
      refine StillAt.take' (i := 15) (v := ?_) (a' := ?_) HLq rfl (by rfl) ?_ ?_ ?_
      rotate_left 2
      · go_simp
        all_goals (with_reducible rfl)
      · simp only [Act.put, List.setIfInBounds_toArray, List.set_cons_zero, List.set_cons_succ]
        rfl
      refine StillAt.take' (i := 16) (v := ?_) (a' := ?_) HLq rfl (by rfl) ?_ ?_ ?_
      rotate_left 2
      · go_simp
        all_goals (with_reducible rfl)
      · simp only [Act.put, List.setIfInBounds_toArray, List.set_cons_zero, List.set_cons_succ]
        rfl
      refine StillAt.take' (i := 17) (v := ?_) (a' := ?_) HLq rfl (by rfl) ?_ ?_ ?_
      rotate_left 2
      · go_simp
        all_goals (with_reducible rfl)
      · simp only [Act.put, List.setIfInBounds_toArray, List.set_cons_zero, List.set_cons_succ]
        rfl
      refine StillAt.skip' (i := 18) (a' := ?_) HLq rfl (by rfl) ?_ ?_
      rotate_left 1
      · simp only [Act.put, List.setIfInBounds_toArray, List.set_cons_zero, List.set_cons_succ]
        rfl
      refine StillAt.skip' (i := 19) (a' := ?_) HLq rfl (by rfl) ?_ ?_
      rotate_left 1
      · simp only [Act.put, List.setIfInBounds_toArray, List.set_cons_zero, List.set_cons_succ]
        rfl
      refine StillAt.skip' (i := 20) (a' := ?_) HLq rfl (by rfl) ?_ ?_
      rotate_left 1
      · simp only [Act.put, List.setIfInBounds_toArray, List.set_cons_zero, List.set_cons_succ]
        rfl
      refine StillAt.skip' (i := 21) (a' := ?_) HLq rfl (by rfl) ?_ ?_
      rotate_left 1
      · simp only [Act.put, List.setIfInBounds_toArray, List.set_cons_zero, List.set_cons_succ]
        rfl
      refine StillAt.skip' (i := 22) (a' := ?_) HLq rfl (by rfl) ?_ ?_
      rotate_left 1
      · simp only [Act.put, List.setIfInBounds_toArray, List.set_cons_zero, List.set_cons_succ]
        rfl
      refine StillAt.skip' (i := 23) (a' := ?_) HLq rfl (by rfl) ?_ ?_
      rotate_left 1
      · simp only [Act.put, List.setIfInBounds_toArray, List.set_cons_zero, List.set_cons_succ]
        rfl
      refine StillAt.skip' (i := 24) (a' := ?_) HLq rfl (by rfl) ?_ ?_
      rotate_left 1
      · simp only [Act.put, List.setIfInBounds_toArray, List.set_cons_zero, List.set_cons_succ]
        rfl
      refine StillAt.skip' (i := 25) (a' := ?_) HLq rfl (by rfl) ?_ ?_
      rotate_left 1
      · simp only [Act.put, List.setIfInBounds_toArray, List.set_cons_zero, List.set_cons_succ]
        rfl
      refine StillAt.skip' (i := 26) (a' := ?_) HLq rfl (by rfl) ?_ ?_
      rotate_left 1
      · simp only [Act.put, List.setIfInBounds_toArray, List.set_cons_zero, List.set_cons_succ]
        rfl
      refine StillAt.skip' (i := 27) (a' := ?_) HLq rfl (by rfl) ?_ ?_
      rotate_left 1
      · simp only [Act.put, List.setIfInBounds_toArray, List.set_cons_zero, List.set_cons_succ]
        rfl
      refine StillAt.skip' (i := 28) (a' := ?_) HLq rfl (by rfl) ?_ ?_
      rotate_left 1
      · simp only [Act.put, List.setIfInBounds_toArray, List.set_cons_zero, List.set_cons_succ]
        rfl
      refine StillAt.take' (i := 29) (v := ?_) (a' := ?_) HLq rfl (by rfl) ?_ ?_ ?_
      rotate_left 2
      · go_simp
        all_goals (with_reducible rfl)
      · simp only [Act.put, List.setIfInBounds_toArray, List.set_cons_zero, List.set_cons_succ]
        rfl
      refine StillAt.take' (i := 30) (v := ?_) (a' := ?_) HLq rfl (by rfl) ?_ ?_ ?_
      rotate_left 2
      · go_simp
        all_goals (with_reducible rfl)
      · simp only [Act.put, List.setIfInBounds_toArray, List.set_cons_zero, List.set_cons_succ]
        rfl
      refine StillAt.take' (i := 31) (v := ?_) (a' := ?_) HLq rfl (by rfl) ?_ ?_ ?_
      rotate_left 2
      · go_simp
        all_goals (with_reducible rfl)
      · simp only [Act.put, List.setIfInBounds_toArray, List.set_cons_zero, List.set_cons_succ]
        rfl
      refine StillAt.done' HLq rfl ?_
      refine HQq.out _ ?_
      clear HQq HLq Qq lq
      simp only [List.drop_succ_cons, List.drop_zero]
      go_wp2_with fail
      go_end0
      exact SignPost.mk' HH.out (by simp [sgnBad, hlt])
/-! ### next -/
def nxtIs (s : ByteArray) (at_ : Nat) (c : Int) : Bool := if h : at_ < s.size then ((s[at_].toNat : Int) == c) else false
set_option maxHeartbeats 1000000 in
set_option maxRecDepth 100000 in
theorem refnext_calls (b : Nat) (s : ByteArray) (at_ : Nat) (bad : Bool) (c : Int) (w : World) (h : RSt w b s at_ bad) :
    Calls Tryd.prog 52 #[.pointer (some ⟨b, 0, none⟩), .int .u8 c] w fun e w' => e = .returned (.bool (nxtIs s at_ c)) ∧ w' = w.drew := by
  have hb := Blk.lt h
  obtain ⟨⟨c0, c1, c2⟩, f0, f1, f2⟩ := Blk.c3 h
  clear h
  by_cases hlt : at_ < s.size
  · have i1 : decide (at_ < s.size) = true := decide_eq_true (by omega)
    have b1 : (0 : Int) ≤ at_ := by omega
    have b2 : (at_ : Int) < s.size := by omega
    go_enter Tryd.func52, Tryd.ntmps52
    go_wp2_with fail
    refine still_whole (by kernel_rfl) (by kernel_rfl) (fun lq Qq HLq HQq => ?_)
    refine StillAt.take' (i := 0) (v := ?_) (a' := ?_) HLq rfl (by rfl) ?_ ?_ ?_
    rotate_left 2
    · go_simp
      all_goals (with_reducible rfl)
    · simp only [Act.put, List.setIfInBounds_toArray, List.set_cons_zero, List.set_cons_succ]
      rfl
    refine StillAt.take' (i := 1) (v := ?_) (a' := ?_) HLq rfl (by rfl) ?_ ?_ ?_
    rotate_left 2
    · go_simp
      all_goals (with_reducible rfl)
    · simp only [Act.put, List.setIfInBounds_toArray, List.set_cons_zero, List.set_cons_succ]
      rfl
    refine StillAt.take' (i := 2) (v := ?_) (a' := ?_) HLq rfl (by rfl) ?_ ?_ ?_
    rotate_left 2
    · go_simp
      all_goals (with_reducible rfl)
    · simp only [Act.put, List.setIfInBounds_toArray, List.set_cons_zero, List.set_cons_succ]
      rfl
    refine StillAt.take' (i := 3) (v := ?_) (a' := ?_) HLq rfl (by rfl) ?_ ?_ ?_
    rotate_left 2
    · go_simp
      all_goals (with_reducible rfl)
    · simp only [Act.put, List.setIfInBounds_toArray, List.set_cons_zero, List.set_cons_succ]
      rfl
    refine StillAt.take' (i := 4) (v := ?_) (a' := ?_) HLq rfl (by rfl) ?_ ?_ ?_
    rotate_left 2
    · go_simp
      all_goals (with_reducible rfl)
    · simp only [Act.put, List.setIfInBounds_toArray, List.set_cons_zero, List.set_cons_succ]
      rfl
    refine StillAt.take' (i := 5) (v := ?_) (a' := ?_) HLq rfl (by rfl) ?_ ?_ ?_
    rotate_left 2
    · go_simp
      all_goals (with_reducible rfl)
    · simp only [Act.put, List.setIfInBounds_toArray, List.set_cons_zero, List.set_cons_succ]
      rfl
    refine StillAt.take' (i := 6) (v := ?_) (a' := ?_) HLq rfl (by rfl) ?_ ?_ ?_
    rotate_left 2
    · go_simp
      all_goals (with_reducible rfl)
    · simp only [Act.put, List.setIfInBounds_toArray, List.set_cons_zero, List.set_cons_succ]
      rfl
    refine StillAt.take' (i := 7) (v := ?_) (a' := ?_) HLq rfl (by rfl) ?_ ?_ ?_
    rotate_left 2
    · go_simp
      all_goals (with_reducible rfl)
    · simp only [Act.put, List.setIfInBounds_toArray, List.set_cons_zero, List.set_cons_succ]
      rfl
    refine StillAt.take' (i := 8) (v := ?_) (a' := ?_) HLq rfl (by rfl) ?_ ?_ ?_
    rotate_left 2
    · go_simp
      all_goals (with_reducible rfl)
    · simp only [Act.put, List.setIfInBounds_toArray, List.set_cons_zero, List.set_cons_succ]
      rfl
    refine StillAt.take' (i := 9) (v := ?_) (a' := ?_) HLq rfl (by rfl) ?_ ?_ ?_
    rotate_left 2
    · go_simp
      all_goals (with_reducible rfl)
    · simp only [Act.put, List.setIfInBounds_toArray, List.set_cons_zero, List.set_cons_succ]
      rfl
    refine StillAt.take' (i := 10) (v := ?_) (a' := ?_) HLq rfl (by rfl) ?_ ?_ ?_
    rotate_left 2
    · go_simp
      all_goals (with_reducible rfl)
    · simp only [Act.put, List.setIfInBounds_toArray, List.set_cons_zero, List.set_cons_succ]
      rfl
    refine StillAt.take' (i := 11) (v := ?_) (a' := ?_) HLq rfl (by rfl) ?_ ?_ ?_
    rotate_left 2
    · go_simp
      all_goals (with_reducible rfl)
    · simp only [Act.put, List.setIfInBounds_toArray, List.set_cons_zero, List.set_cons_succ]
      rfl
    refine StillAt.take' (i := 12) (v := ?_) (a' := ?_) HLq rfl (by rfl) ?_ ?_ ?_
    rotate_left 2
    · go_simp
      all_goals (with_reducible rfl)
    · simp only [Act.put, List.setIfInBounds_toArray, List.set_cons_zero, List.set_cons_succ]
      rfl
    refine StillAt.take' (i := 13) (v := ?_) (a' := ?_) HLq rfl (by rfl) ?_ ?_ ?_
    rotate_left 2
    · go_simp
      all_goals (with_reducible rfl)
    · simp only [Act.put, List.setIfInBounds_toArray, List.set_cons_zero, List.set_cons_succ]
      rfl
    refine StillAt.take' (i := 14) (v := ?_) (a' := ?_) HLq rfl (by rfl) ?_ ?_ ?_
    rotate_left 2
    · go_simp
      all_goals (with_reducible rfl)
    · simp only [Act.put, List.setIfInBounds_toArray, List.set_cons_zero, List.set_cons_succ]
      rfl
    refine StillAt.take' (i := 15) (v := ?_) (a' := ?_) HLq rfl (by rfl) ?_ ?_ ?_
    rotate_left 2
    · go_simp
      all_goals (with_reducible rfl)
    · simp only [Act.put, List.setIfInBounds_toArray, List.set_cons_zero, List.set_cons_succ]
      rfl
    refine StillAt.take' (i := 16) (v := ?_) (a' := ?_) HLq rfl (by rfl) ?_ ?_ ?_
    rotate_left 2
    · go_simp
      all_goals (with_reducible rfl)
    · simp only [Act.put, List.setIfInBounds_toArray, List.set_cons_zero, List.set_cons_succ]
      rfl
    refine StillAt.take' (i := 17) (v := ?_) (a' := ?_) HLq rfl (by rfl) ?_ ?_ ?_
    rotate_left 2
    · go_simp
      all_goals (with_reducible rfl)
    · simp only [Act.put, List.setIfInBounds_toArray, List.set_cons_zero, List.set_cons_succ]
      rfl
    refine StillAt.take' (i := 18) (v := ?_) (a' := ?_) HLq rfl (by rfl) ?_ ?_ ?_
    rotate_left 2
    · go_simp
      all_goals (with_reducible rfl)
    · simp only [Act.put, List.setIfInBounds_toArray, List.set_cons_zero, List.set_cons_succ]
      rfl
    refine StillAt.take' (i := 19) (v := ?_) (a' := ?_) HLq rfl (by rfl) ?_ ?_ ?_
    rotate_left 2
    · go_simp
      all_goals (with_reducible rfl)
    · simp only [Act.put, List.setIfInBounds_toArray, List.set_cons_zero, List.set_cons_succ]
      rfl
    refine StillAt.take' (i := 20) (v := ?_) (a' := ?_) HLq rfl (by rfl) ?_ ?_ ?_
    rotate_left 2
    · go_simp
      all_goals (with_reducible rfl)
    · simp only [Act.put, List.setIfInBounds_toArray, List.set_cons_zero, List.set_cons_succ]
      rfl
    refine StillAt.take' (i := 21) (v := ?_) (a' := ?_) HLq rfl (by rfl) ?_ ?_ ?_
    rotate_left 2
    · go_simp
      all_goals (with_reducible rfl)
    · simp only [Act.put, List.setIfInBounds_toArray, List.set_cons_zero, List.set_cons_succ]
      rfl
    refine StillAt.take' (i := 22) (v := ?_) (a' := ?_) HLq rfl (by rfl) ?_ ?_ ?_
    rotate_left 2
    · go_simp
      all_goals (with_reducible rfl)
    · simp only [Act.put, List.setIfInBounds_toArray, List.set_cons_zero, List.set_cons_succ]
      rfl
    refine StillAt.take' (i := 23) (v := ?_) (a' := ?_) HLq rfl (by rfl) ?_ ?_ ?_
    rotate_left 2
    · go_simp
      all_goals (with_reducible rfl)
    · simp only [Act.put, List.setIfInBounds_toArray, List.set_cons_zero, List.set_cons_succ]
      rfl
    refine StillAt.done' HLq rfl ?_
    refine HQq.out _ ?_
    clear HQq HLq Qq lq
    go_wp2_with fail
    go_ret
    exact ⟨by simp [nxtIs, hlt], rfl⟩
  · have i1 : decide (at_ < s.size) = false := decide_eq_false (by omega)
    go_enter Tryd.func52, Tryd.ntmps52
    go_wp2_with fail
    refine still_whole (by kernel_rfl) (by kernel_rfl) (fun lq Qq HLq HQq => ?_)
    refine StillAt.take' (i := 0) (v := ?_) (a' := ?_) HLq rfl (by rfl) ?_ ?_ ?_
    rotate_left 2
    · go_simp
      all_goals (with_reducible rfl)
    · simp only [Act.put, List.setIfInBounds_toArray, List.set_cons_zero, List.set_cons_succ]
      rfl
    refine StillAt.take' (i := 1) (v := ?_) (a' := ?_) HLq rfl (by rfl) ?_ ?_ ?_
    rotate_left 2
    · go_simp
      all_goals (with_reducible rfl)
    · simp only [Act.put, List.setIfInBounds_toArray, List.set_cons_zero, List.set_cons_succ]
      rfl
    refine StillAt.take' (i := 2) (v := ?_) (a' := ?_) HLq rfl (by rfl) ?_ ?_ ?_
    rotate_left 2
    · go_simp
      all_goals (with_reducible rfl)
    · simp only [Act.put, List.setIfInBounds_toArray, List.set_cons_zero, List.set_cons_succ]
      rfl
    refine StillAt.take' (i := 3) (v := ?_) (a' := ?_) HLq rfl (by rfl) ?_ ?_ ?_
    rotate_left 2
    · go_simp
      all_goals (with_reducible rfl)
    · simp only [Act.put, List.setIfInBounds_toArray, List.set_cons_zero, List.set_cons_succ]
      rfl
    refine StillAt.take' (i := 4) (v := ?_) (a' := ?_) HLq rfl (by rfl) ?_ ?_ ?_
    rotate_left 2
    · go_simp
      all_goals (with_reducible rfl)
    · simp only [Act.put, List.setIfInBounds_toArray, List.set_cons_zero, List.set_cons_succ]
      rfl
    refine StillAt.take' (i := 5) (v := ?_) (a' := ?_) HLq rfl (by rfl) ?_ ?_ ?_
    rotate_left 2
    · go_simp
      all_goals (with_reducible rfl)
    · simp only [Act.put, List.setIfInBounds_toArray, List.set_cons_zero, List.set_cons_succ]
      rfl
    refine StillAt.take' (i := 6) (v := ?_) (a' := ?_) HLq rfl (by rfl) ?_ ?_ ?_
    rotate_left 2
    · go_simp
      all_goals (with_reducible rfl)
    · simp only [Act.put, List.setIfInBounds_toArray, List.set_cons_zero, List.set_cons_succ]
      rfl
    refine StillAt.take' (i := 7) (v := ?_) (a' := ?_) HLq rfl (by rfl) ?_ ?_ ?_
    rotate_left 2
    · go_simp
      all_goals (with_reducible rfl)
    · simp only [Act.put, List.setIfInBounds_toArray, List.set_cons_zero, List.set_cons_succ]
      rfl
    refine StillAt.take' (i := 8) (v := ?_) (a' := ?_) HLq rfl (by rfl) ?_ ?_ ?_
    rotate_left 2
    · go_simp
      all_goals (with_reducible rfl)
    · simp only [Act.put, List.setIfInBounds_toArray, List.set_cons_zero, List.set_cons_succ]
      rfl
    refine StillAt.take' (i := 9) (v := ?_) (a' := ?_) HLq rfl (by rfl) ?_ ?_ ?_
    rotate_left 2
    · go_simp
      all_goals (with_reducible rfl)
    · simp only [Act.put, List.setIfInBounds_toArray, List.set_cons_zero, List.set_cons_succ]
      rfl
    refine StillAt.take' (i := 10) (v := ?_) (a' := ?_) HLq rfl (by rfl) ?_ ?_ ?_
    rotate_left 2
    · go_simp
      all_goals (with_reducible rfl)
    · simp only [Act.put, List.setIfInBounds_toArray, List.set_cons_zero, List.set_cons_succ]
      rfl
    refine StillAt.skip' (i := 11) (a' := ?_) HLq rfl (by rfl) ?_ ?_
    rotate_left 1
    · simp only [Act.put, List.setIfInBounds_toArray, List.set_cons_zero, List.set_cons_succ]
      rfl
    refine StillAt.skip' (i := 12) (a' := ?_) HLq rfl (by rfl) ?_ ?_
    rotate_left 1
    · simp only [Act.put, List.setIfInBounds_toArray, List.set_cons_zero, List.set_cons_succ]
      rfl
    refine StillAt.skip' (i := 13) (a' := ?_) HLq rfl (by rfl) ?_ ?_
    rotate_left 1
    · simp only [Act.put, List.setIfInBounds_toArray, List.set_cons_zero, List.set_cons_succ]
      rfl
    refine StillAt.skip' (i := 14) (a' := ?_) HLq rfl (by rfl) ?_ ?_
    rotate_left 1
    · simp only [Act.put, List.setIfInBounds_toArray, List.set_cons_zero, List.set_cons_succ]
      rfl
    refine StillAt.skip' (i := 15) (a' := ?_) HLq rfl (by rfl) ?_ ?_
    rotate_left 1
    · simp only [Act.put, List.setIfInBounds_toArray, List.set_cons_zero, List.set_cons_succ]
      rfl
    refine StillAt.skip' (i := 16) (a' := ?_) HLq rfl (by rfl) ?_ ?_
    rotate_left 1
    · simp only [Act.put, List.setIfInBounds_toArray, List.set_cons_zero, List.set_cons_succ]
      rfl
    refine StillAt.skip' (i := 17) (a' := ?_) HLq rfl (by rfl) ?_ ?_
    rotate_left 1
    · simp only [Act.put, List.setIfInBounds_toArray, List.set_cons_zero, List.set_cons_succ]
      rfl
    refine StillAt.skip' (i := 18) (a' := ?_) HLq rfl (by rfl) ?_ ?_
    rotate_left 1
    · simp only [Act.put, List.setIfInBounds_toArray, List.set_cons_zero, List.set_cons_succ]
      rfl
    refine StillAt.skip' (i := 19) (a' := ?_) HLq rfl (by rfl) ?_ ?_
    rotate_left 1
    · simp only [Act.put, List.setIfInBounds_toArray, List.set_cons_zero, List.set_cons_succ]
      rfl
    refine StillAt.skip' (i := 20) (a' := ?_) HLq rfl (by rfl) ?_ ?_
    rotate_left 1
    · simp only [Act.put, List.setIfInBounds_toArray, List.set_cons_zero, List.set_cons_succ]
      rfl
    refine StillAt.skip' (i := 21) (a' := ?_) HLq rfl (by rfl) ?_ ?_
    rotate_left 1
    · simp only [Act.put, List.setIfInBounds_toArray, List.set_cons_zero, List.set_cons_succ]
      rfl
    refine StillAt.take' (i := 22) (v := ?_) (a' := ?_) HLq rfl (by rfl) ?_ ?_ ?_
    rotate_left 2
    · go_simp
      all_goals (with_reducible rfl)
    · simp only [Act.put, List.setIfInBounds_toArray, List.set_cons_zero, List.set_cons_succ]
      rfl
    refine StillAt.take' (i := 23) (v := ?_) (a' := ?_) HLq rfl (by rfl) ?_ ?_ ?_
    rotate_left 2
    · go_simp
      all_goals (with_reducible rfl)
    · simp only [Act.put, List.setIfInBounds_toArray, List.set_cons_zero, List.set_cons_succ]
      rfl
    refine StillAt.done' HLq rfl ?_
    refine HQq.out _ ?_
    clear HQq HLq Qq lq
    go_wp2_with fail
    go_ret
    exact ⟨by simp [nxtIs, hlt], rfl⟩
end Wh
