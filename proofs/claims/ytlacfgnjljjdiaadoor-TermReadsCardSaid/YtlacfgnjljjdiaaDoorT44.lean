import Derived.Test.YtlacfgnjljjdiaaDoorT43
set_option linter.unusedVariables false
set_option linter.unusedSimpArgs false
open Go Go.RowKit Go.Proofs
namespace Wh
/-! ### number -/
def numLoop (s : ByteArray) (most : Nat) : Nat → Nat → Nat → Nat × Nat
  | 0, n, a => (n, a)
  | F + 1, n, a => if h : a < s.size then (if 48 ≤ s[a].toNat ∧ s[a].toNat ≤ 57 ∧ n ≤ most then numLoop s most F (10 * n + (s[a].toNat - 48)) (a + 1) else (n, a)) else (n, a)
theorem numLoop_stop {s : ByteArray} {most F n a : Nat} (hF : s.size - a ≤ F) (h : ∀ h : a < s.size, ¬ (48 ≤ s[a].toNat ∧ s[a].toNat ≤ 57 ∧ n ≤ most)) : numLoop s most F n a = (n, a) := by
  cases F with
  | zero => rfl
  | succ F =>
    rw [numLoop]
    split
    · rename_i hl
      rw [if_neg (h hl)]
    · rfl
theorem numLoop_go {s : ByteArray} {most F n a : Nat} (hF : s.size - a ≤ F) (hl : a < s.size) (h : 48 ≤ s[a].toNat ∧ s[a].toNat ≤ 57 ∧ n ≤ most) : ∃ G, F = G + 1 ∧ numLoop s most F n a = numLoop s most G (10 * n + (s[a].toNat - 48)) (a + 1) := by
  obtain ⟨G, rfl⟩ : ∃ G, F = G + 1 := ⟨F - 1, by omega⟩
  refine ⟨G, rfl, ?_⟩
  rw [numLoop, dif_pos hl, if_pos h]
structure NLoop (w : World) (b : Nat) (s : ByteArray) (most at_ : Nat) (bad : Bool) (n a F : Nat) (W : World) : Prop where
  hg : w.grownBy W (some b)
  st : RSt W b s a bad
  fuel : s.size - a ≤ F
  eq : numLoop s most F n a = numLoop s most s.size 0 at_
  le : n ≤ 10 * most + 9
  ge : at_ ≤ a ∧ (a = at_ ∨ a ≤ s.size)
def NumR (w : World) (b : Nat) (s : ByteArray) (most at_ : Nat) (bad : Bool) (c : Int) (e : Ending) (w' : World) : Prop := ∃ n a, numLoop s most s.size 0 at_ = (n, a) ∧ n ≤ 10 * most + 9 ∧ at_ ≤ a ∧ (a = at_ ∨ a ≤ s.size) ∧ e = .returned (.int .i64 n) ∧ w.grownBy w' (some b) ∧ RSt w' b s (a + 1) ((bad || decide (a = at_) || decide (most < n)) || sgnBad s a c)
theorem RSt.bad {w : World} {b : Nat} {s : ByteArray} {a : Nat} {bad x : Bool} (h : RSt w b s a bad) : RSt (w.setCell ⟨b, 2, none⟩ (.bool x)).drew b s a x := by
  have h2 := (Blk.set h 2 (.bool x)).drew
  have e : (#[.string s, .int .i64 a, .bool bad] : Array Value).setIfInBounds 2 (.bool x) = #[.string s, .int .i64 a, .bool x] := by simp
  rw [e] at h2
  exact h2
theorem RSt.step {w : World} {b : Nat} {s : ByteArray} {a : Nat} {bad : Bool} (h : RSt w b s a bad) : RSt (w.setCell ⟨b, 1, none⟩ (.int .i64 ((a : Int) + 1))).drew.drew b s (a + 1) bad := by
  have h2 := (Blk.set h 1 (.int .i64 ((a : Int) + 1))).drew.drew
  have e : (#[.string s, .int .i64 a, .bool bad] : Array Value).setIfInBounds 1 (.int .i64 ((a : Int) + 1)) = #[.string s, .int .i64 ((a + 1 : Nat) : Int), .bool bad] := by simp
  rw [e] at h2
  exact h2
theorem numR_end {w W wq : World} {b : Nat} {s : ByteArray} {most at_ n a F : Nat} {bad x : Bool} {c : Int} (h : NLoop w b s most at_ bad n a F W) (hs : ∀ h : a < s.size, ¬ (48 ≤ s[a].toNat ∧ s[a].toNat ≤ 57 ∧ n ≤ most))
    (hg : ((W.setCell ⟨b, 2, none⟩ (.bool x)).drew).grownBy wq (some b)) (hst : RSt wq b s (a + 1) (x || sgnBad s a c)) (hx : x = (bad || decide (a = at_) || decide (most < n))) : NumR w b s most at_ bad c (.returned (.int .i64 n)) wq := by
  subst hx
  have g1 := grown_set h.hg (p := ⟨b, 2, none⟩) (.inl rfl) (.bool (bad || decide (a = at_) || decide (most < n)))
  exact ⟨n, a, by rw [← h.eq, numLoop_stop h.fuel hs], h.le, h.ge.1, h.ge.2, rfl, grown_by (grown_drew g1) hg (fun k hk => .inl hk.symm), hst⟩
set_option maxHeartbeats 4000000 in
set_option maxRecDepth 100000 in
theorem refnumber_calls (b : Nat) (s : ByteArray) (most at_ : Nat) (bad : Bool) (c : Int) (w : World) (h : RSt w b s at_ bad) (hs : s.size ≤ 1000000000) (ha : at_ ≤ 1500000000) (hm : most ≤ 4294967295) :
    Calls Tryd.prog 50 #[.pointer (some ⟨b, 0, none⟩), .int .i64 most, .int .u8 c] w (NumR w b s most at_ bad c) := by
  have hb := Blk.lt h
  have H0 := Lib.hid (show NLoop w b s most at_ bad 0 at_ s.size w from ⟨grown_refl _ _, h, by omega, rfl, by omega, Nat.le_refl _, .inl rfl⟩)
  obtain ⟨⟨c0, c1, c2⟩, f0, f1, f2⟩ := Blk.c3 h
  clear h
  go_enter Tryd.func50, Tryd.ntmps50
  go_wp2_with fail
  go_loopw [7] (fun d wr => ∃ n a F : Nat, d = .int .i64 n ∧ Hid (NLoop w b s most at_ bad n a F wr) ∧ n ≤ 10 * most + 9 ∧ a ≤ 1500000000 ∧ s.size - a ≤ F) (fun d wr => match wr.cell? ⟨b, 1, none⟩ with | some (.int _ a) => s.size - a.toNat | _ => 0)
  case atStart => exact ⟨0, at_, s.size, rfl, H0, by omega, by omega, by omega⟩
  case round =>
    obtain ⟨n, a, F, rfl, HN, hn, hal, hF⟩ := hrel
    clear c0 c1 c2 f0 f1 f2 H0
    obtain ⟨⟨c0, c1, c2⟩, f0, f1, f2⟩ := Blk.c3 HN.out.st
    have hg1 := HN.out.ge
    by_cases hlt : a < s.size
    · have i1 : decide (a < s.size) = true := decide_eq_true hlt
      have b1 : (0 : Int) ≤ a := by omega
      have b2 : (a : Int) < s.size := by omega
      have hby := s[a].toNat_lt
      by_cases hd1 : 48 ≤ s[a].toNat
      · have i2 : decide ((48 : Int) ≤ (s[a].toNat : Int)) = true := decide_eq_true (by omega)
        by_cases hd2 : s[a].toNat ≤ 57
        · have i3 : decide ((s[a].toNat : Int) ≤ 57) = true := decide_eq_true (by omega)
          by_cases hd3 : n ≤ most
          · have i4 : decide (n ≤ most) = true := decide_eq_true hd3
            obtain ⟨G, rfl, hG⟩ := numLoop_go HN.out.fuel hlt ⟨hd1, hd2, hd3⟩
            have HG := Lib.hid hG
            have w1 : IntKind.i64.wrap (10 * (n : Int)) = 10 * (n : Int) := wrap_id _ (by omega) (by omega)
            have w2 : IntKind.u8.wrap ((s[a].toNat : Int) - 48) = (s[a].toNat : Int) - 48 := by rw [IntKind.wrap_u8]; omega
            have w3 : IntKind.i64.wrap ((s[a].toNat : Int) - 48) = (s[a].toNat : Int) - 48 := wrap_id _ (by omega) (by omega)
            have w4 : IntKind.i64.wrap (10 * (n : Int) + ((s[a].toNat : Int) - 48)) = 10 * (n : Int) + ((s[a].toNat : Int) - 48) := wrap_id _ (by omega) (by omega)
            have w5 : IntKind.i64.wrap ((a : Int) + 1) = (a : Int) + 1 := wrap_id _ (by omega) (by omega)
            clear hG
            go_wp2_with fail
            refine still_whole (by kernel_rfl) (by kernel_rfl) (fun lq Qq HLq HQq => ?_)
            refine StillAt.take' (i := 0) (v := ?_) (a' := ?_) HLq rfl (by rfl) ?_ ?_ ?_
            rotate_left 2
            · go_simp
              all_goals (with_reducible rfl)
            · simp only [Act.put, List.setIfInBounds_toArray, List.set_cons_zero, List.set_cons_succ]
              rfl
            refine StillAt.take' (i := 1) (v := ?_) (a' := ?_) HLq rfl (by rfl) ?_ ?_ ?_
            rotate_left 2
            · go_simp
              all_goals (with_reducible rfl)
            · simp only [Act.put, List.setIfInBounds_toArray, List.set_cons_zero, List.set_cons_succ]
              rfl
            refine StillAt.take' (i := 2) (v := ?_) (a' := ?_) HLq rfl (by rfl) ?_ ?_ ?_
            rotate_left 2
            · go_simp
              all_goals (with_reducible rfl)
            · simp only [Act.put, List.setIfInBounds_toArray, List.set_cons_zero, List.set_cons_succ]
              rfl
            refine StillAt.take' (i := 3) (v := ?_) (a' := ?_) HLq rfl (by rfl) ?_ ?_ ?_
            rotate_left 2
            · go_simp
              all_goals (with_reducible rfl)
            · simp only [Act.put, List.setIfInBounds_toArray, List.set_cons_zero, List.set_cons_succ]
              rfl
            refine StillAt.take' (i := 4) (v := ?_) (a' := ?_) HLq rfl (by rfl) ?_ ?_ ?_
            rotate_left 2
            · go_simp
              all_goals (with_reducible rfl)
            · simp only [Act.put, List.setIfInBounds_toArray, List.set_cons_zero, List.set_cons_succ]
              rfl
            refine StillAt.take' (i := 5) (v := ?_) (a' := ?_) HLq rfl (by rfl) ?_ ?_ ?_
            rotate_left 2
            · go_simp
              all_goals (with_reducible rfl)
            · simp only [Act.put, List.setIfInBounds_toArray, List.set_cons_zero, List.set_cons_succ]
              rfl
            refine StillAt.take' (i := 6) (v := ?_) (a' := ?_) HLq rfl (by rfl) ?_ ?_ ?_
            rotate_left 2
            · go_simp
              all_goals (with_reducible rfl)
            · simp only [Act.put, List.setIfInBounds_toArray, List.set_cons_zero, List.set_cons_succ]
              rfl
            refine StillAt.take' (i := 7) (v := ?_) (a' := ?_) HLq rfl (by rfl) ?_ ?_ ?_
            rotate_left 2
            · go_simp
              all_goals (with_reducible rfl)
            · simp only [Act.put, List.setIfInBounds_toArray, List.set_cons_zero, List.set_cons_succ]
              rfl
            refine StillAt.take' (i := 8) (v := ?_) (a' := ?_) HLq rfl (by rfl) ?_ ?_ ?_
            rotate_left 2
            · go_simp
              all_goals (with_reducible rfl)
            · simp only [Act.put, List.setIfInBounds_toArray, List.set_cons_zero, List.set_cons_succ]
              rfl
            refine StillAt.take' (i := 9) (v := ?_) (a' := ?_) HLq rfl (by rfl) ?_ ?_ ?_
            rotate_left 2
            · go_simp
              all_goals (with_reducible rfl)
            · simp only [Act.put, List.setIfInBounds_toArray, List.set_cons_zero, List.set_cons_succ]
              rfl
            refine StillAt.take' (i := 10) (v := ?_) (a' := ?_) HLq rfl (by rfl) ?_ ?_ ?_
            rotate_left 2
            · go_simp
              all_goals (with_reducible rfl)
            · simp only [Act.put, List.setIfInBounds_toArray, List.set_cons_zero, List.set_cons_succ]
              rfl
            refine StillAt.take' (i := 11) (v := ?_) (a' := ?_) HLq rfl (by rfl) ?_ ?_ ?_
            rotate_left 2
            · go_simp
              all_goals (with_reducible rfl)
            · simp only [Act.put, List.setIfInBounds_toArray, List.set_cons_zero, List.set_cons_succ]
              rfl
            refine StillAt.take' (i := 12) (v := ?_) (a' := ?_) HLq rfl (by rfl) ?_ ?_ ?_
            rotate_left 2
            · go_simp
              all_goals (with_reducible rfl)
            · simp only [Act.put, List.setIfInBounds_toArray, List.set_cons_zero, List.set_cons_succ]
              rfl
            refine StillAt.take' (i := 13) (v := ?_) (a' := ?_) HLq rfl (by rfl) ?_ ?_ ?_
            rotate_left 2
            · go_simp
              all_goals (with_reducible rfl)
            · simp only [Act.put, List.setIfInBounds_toArray, List.set_cons_zero, List.set_cons_succ]
              rfl
            refine StillAt.take' (i := 14) (v := ?_) (a' := ?_) HLq rfl (by rfl) ?_ ?_ ?_
            rotate_left 2
            · go_simp
              all_goals (with_reducible rfl)
            · simp only [Act.put, List.setIfInBounds_toArray, List.set_cons_zero, List.set_cons_succ]
              rfl
            refine StillAt.take' (i := 15) (v := ?_) (a' := ?_) HLq rfl (by rfl) ?_ ?_ ?_
            rotate_left 2
            · go_simp
              all_goals (with_reducible rfl)
            · simp only [Act.put, List.setIfInBounds_toArray, List.set_cons_zero, List.set_cons_succ]
              rfl
            refine StillAt.take' (i := 16) (v := ?_) (a' := ?_) HLq rfl (by rfl) ?_ ?_ ?_
            rotate_left 2
            · go_simp
              all_goals (with_reducible rfl)
            · simp only [Act.put, List.setIfInBounds_toArray, List.set_cons_zero, List.set_cons_succ]
              rfl
            refine StillAt.take' (i := 17) (v := ?_) (a' := ?_) HLq rfl (by rfl) ?_ ?_ ?_
            rotate_left 2
            · go_simp
              all_goals (with_reducible rfl)
            · simp only [Act.put, List.setIfInBounds_toArray, List.set_cons_zero, List.set_cons_succ]
              rfl
            refine StillAt.take' (i := 18) (v := ?_) (a' := ?_) HLq rfl (by rfl) ?_ ?_ ?_
            rotate_left 2
            · go_simp
              all_goals (with_reducible rfl)
            · simp only [Act.put, List.setIfInBounds_toArray, List.set_cons_zero, List.set_cons_succ]
              rfl
            refine StillAt.take' (i := 19) (v := ?_) (a' := ?_) HLq rfl (by rfl) ?_ ?_ ?_
            rotate_left 2
            · go_simp
              all_goals (with_reducible rfl)
            · simp only [Act.put, List.setIfInBounds_toArray, List.set_cons_zero, List.set_cons_succ]
              rfl
            refine StillAt.take' (i := 20) (v := ?_) (a' := ?_) HLq rfl (by rfl) ?_ ?_ ?_
            rotate_left 2
            · go_simp
              all_goals (with_reducible rfl)
            · simp only [Act.put, List.setIfInBounds_toArray, List.set_cons_zero, List.set_cons_succ]
              rfl
            refine StillAt.take' (i := 21) (v := ?_) (a' := ?_) HLq rfl (by rfl) ?_ ?_ ?_
            rotate_left 2
            · go_simp
              all_goals (with_reducible rfl)
            · simp only [Act.put, List.setIfInBounds_toArray, List.set_cons_zero, List.set_cons_succ]
              rfl
            refine StillAt.take' (i := 22) (v := ?_) (a' := ?_) HLq rfl (by rfl) ?_ ?_ ?_
            rotate_left 2
            · go_simp
              all_goals (with_reducible rfl)
            · simp only [Act.put, List.setIfInBounds_toArray, List.set_cons_zero, List.set_cons_succ]
              rfl
            refine StillAt.take' (i := 23) (v := ?_) (a' := ?_) HLq rfl (by rfl) ?_ ?_ ?_
            rotate_left 2
            · go_simp
              all_goals (with_reducible rfl)
            · simp only [Act.put, List.setIfInBounds_toArray, List.set_cons_zero, List.set_cons_succ]
              rfl
            refine StillAt.take' (i := 24) (v := ?_) (a' := ?_) HLq rfl (by rfl) ?_ ?_ ?_
            rotate_left 2
            · go_simp
              all_goals (with_reducible rfl)
            · simp only [Act.put, List.setIfInBounds_toArray, List.set_cons_zero, List.set_cons_succ]
              rfl
            refine StillAt.take' (i := 25) (v := ?_) (a' := ?_) HLq rfl (by rfl) ?_ ?_ ?_
            rotate_left 2
            · go_simp
              all_goals (with_reducible rfl)
            · simp only [Act.put, List.setIfInBounds_toArray, List.set_cons_zero, List.set_cons_succ]
              rfl
            refine StillAt.take' (i := 26) (v := ?_) (a' := ?_) HLq rfl (by rfl) ?_ ?_ ?_
            rotate_left 2
            · go_simp
              all_goals (with_reducible rfl)
            · simp only [Act.put, List.setIfInBounds_toArray, List.set_cons_zero, List.set_cons_succ]
              rfl
            refine StillAt.take' (i := 27) (v := ?_) (a' := ?_) HLq rfl (by rfl) ?_ ?_ ?_
            rotate_left 2
            · go_simp
              all_goals (with_reducible rfl)
            · simp only [Act.put, List.setIfInBounds_toArray, List.set_cons_zero, List.set_cons_succ]
              rfl
            refine StillAt.take' (i := 28) (v := ?_) (a' := ?_) HLq rfl (by rfl) ?_ ?_ ?_
            rotate_left 2
            · go_simp
              all_goals (with_reducible rfl)
            · simp only [Act.put, List.setIfInBounds_toArray, List.set_cons_zero, List.set_cons_succ]
              rfl
            refine StillAt.take' (i := 29) (v := ?_) (a' := ?_) HLq rfl (by rfl) ?_ ?_ ?_
            rotate_left 2
            · go_simp
              all_goals (with_reducible rfl)
            · simp only [Act.put, List.setIfInBounds_toArray, List.set_cons_zero, List.set_cons_succ]
              rfl
            refine StillAt.take' (i := 30) (v := ?_) (a' := ?_) HLq rfl (by rfl) ?_ ?_ ?_
            rotate_left 2
            · go_simp
              all_goals (with_reducible rfl)
            · simp only [Act.put, List.setIfInBounds_toArray, List.set_cons_zero, List.set_cons_succ]
              rfl
            refine StillAt.take' (i := 31) (v := ?_) (a' := ?_) HLq rfl (by rfl) ?_ ?_ ?_
            rotate_left 2
            · go_simp
              all_goals (with_reducible rfl)
            · simp only [Act.put, List.setIfInBounds_toArray, List.set_cons_zero, List.set_cons_succ]
              rfl
            refine StillAt.take' (i := 32) (v := ?_) (a' := ?_) HLq rfl (by rfl) ?_ ?_ ?_
            rotate_left 2
            · go_simp
              all_goals (with_reducible rfl)
            · simp only [Act.put, List.setIfInBounds_toArray, List.set_cons_zero, List.set_cons_succ]
              rfl
            refine StillAt.take' (i := 33) (v := ?_) (a' := ?_) HLq rfl (by rfl) ?_ ?_ ?_
            rotate_left 2
            · go_simp
              all_goals (with_reducible rfl)
            · simp only [Act.put, List.setIfInBounds_toArray, List.set_cons_zero, List.set_cons_succ]
              rfl
            refine StillAt.take' (i := 34) (v := ?_) (a' := ?_) HLq rfl (by rfl) ?_ ?_ ?_
            rotate_left 2
            · go_simp
              all_goals (with_reducible rfl)
            · simp only [Act.put, List.setIfInBounds_toArray, List.set_cons_zero, List.set_cons_succ]
              rfl
            refine StillAt.take' (i := 35) (v := ?_) (a' := ?_) HLq rfl (by rfl) ?_ ?_ ?_
            rotate_left 2
            · go_simp
              all_goals (with_reducible rfl)
            · simp only [Act.put, List.setIfInBounds_toArray, List.set_cons_zero, List.set_cons_succ]
              rfl
            refine StillAt.take' (i := 36) (v := ?_) (a' := ?_) HLq rfl (by rfl) ?_ ?_ ?_
            rotate_left 2
            · go_simp
              all_goals (with_reducible rfl)
            · simp only [Act.put, List.setIfInBounds_toArray, List.set_cons_zero, List.set_cons_succ]
              rfl
            refine StillAt.take' (i := 37) (v := ?_) (a' := ?_) HLq rfl (by rfl) ?_ ?_ ?_
            rotate_left 2
            · go_simp
              all_goals (with_reducible rfl)
            · simp only [Act.put, List.setIfInBounds_toArray, List.set_cons_zero, List.set_cons_succ]
              rfl
            refine StillAt.take' (i := 38) (v := ?_) (a' := ?_) HLq rfl (by rfl) ?_ ?_ ?_
            rotate_left 2
            · go_simp
              all_goals (with_reducible rfl)
            · simp only [Act.put, List.setIfInBounds_toArray, List.set_cons_zero, List.set_cons_succ]
              rfl
            refine StillAt.done' HLq rfl ?_
            refine HQq.out _ ?_
            clear HQq HLq Qq lq
            go_wp2_with fail
            refine still_whole (by kernel_rfl) (by kernel_rfl) (fun lq Qq HLq HQq => ?_)
            refine StillAt.take' (i := 0) (v := ?_) (a' := ?_) HLq rfl (by rfl) ?_ ?_ ?_
            rotate_left 2
            · go_simp
              all_goals (with_reducible rfl)
            · simp only [Act.put, List.setIfInBounds_toArray, List.set_cons_zero, List.set_cons_succ]
              rfl
            refine StillAt.take' (i := 1) (v := ?_) (a' := ?_) HLq rfl (by rfl) ?_ ?_ ?_
            rotate_left 2
            · go_simp
              all_goals (with_reducible rfl)
            · simp only [Act.put, List.setIfInBounds_toArray, List.set_cons_zero, List.set_cons_succ]
              rfl
            refine StillAt.take' (i := 2) (v := ?_) (a' := ?_) HLq rfl (by rfl) ?_ ?_ ?_
            rotate_left 2
            · go_simp
              all_goals (with_reducible rfl)
            · simp only [Act.put, List.setIfInBounds_toArray, List.set_cons_zero, List.set_cons_succ]
              rfl
            refine StillAt.take' (i := 3) (v := ?_) (a' := ?_) HLq rfl (by rfl) ?_ ?_ ?_
            rotate_left 2
            · go_simp
              all_goals (with_reducible rfl)
            · simp only [Act.put, List.setIfInBounds_toArray, List.set_cons_zero, List.set_cons_succ]
              rfl
            refine StillAt.take' (i := 4) (v := ?_) (a' := ?_) HLq rfl (by rfl) ?_ ?_ ?_
            rotate_left 2
            · go_simp
              all_goals (with_reducible rfl)
            · simp only [Act.put, List.setIfInBounds_toArray, List.set_cons_zero, List.set_cons_succ]
              rfl
            refine StillAt.take' (i := 5) (v := ?_) (a' := ?_) HLq rfl (by rfl) ?_ ?_ ?_
            rotate_left 2
            · go_simp
              all_goals (with_reducible rfl)
            · simp only [Act.put, List.setIfInBounds_toArray, List.set_cons_zero, List.set_cons_succ]
              rfl
            refine StillAt.take' (i := 6) (v := ?_) (a' := ?_) HLq rfl (by rfl) ?_ ?_ ?_
            rotate_left 2
            · go_simp
              all_goals (with_reducible rfl)
            · simp only [Act.put, List.setIfInBounds_toArray, List.set_cons_zero, List.set_cons_succ]
              rfl
            refine StillAt.take' (i := 7) (v := ?_) (a' := ?_) HLq rfl (by rfl) ?_ ?_ ?_
            rotate_left 2
            · go_simp
              all_goals (with_reducible rfl)
            · simp only [Act.put, List.setIfInBounds_toArray, List.set_cons_zero, List.set_cons_succ]
              rfl
            refine StillAt.take' (i := 8) (v := ?_) (a' := ?_) HLq rfl (by rfl) ?_ ?_ ?_
            rotate_left 2
            · go_simp
              all_goals (with_reducible rfl)
            · simp only [Act.put, List.setIfInBounds_toArray, List.set_cons_zero, List.set_cons_succ]
              rfl
            refine StillAt.take' (i := 9) (v := ?_) (a' := ?_) HLq rfl (by rfl) ?_ ?_ ?_
            rotate_left 2
            · go_simp
              all_goals (with_reducible rfl)
            · simp only [Act.put, List.setIfInBounds_toArray, List.set_cons_zero, List.set_cons_succ]
              rfl
            refine StillAt.take' (i := 10) (v := ?_) (a' := ?_) HLq rfl (by rfl) ?_ ?_ ?_
            rotate_left 2
            · go_simp
              all_goals (with_reducible rfl)
            · simp only [Act.put, List.setIfInBounds_toArray, List.set_cons_zero, List.set_cons_succ]
              rfl
            refine StillAt.take' (i := 11) (v := ?_) (a' := ?_) HLq rfl (by rfl) ?_ ?_ ?_
            rotate_left 2
            · go_simp
              all_goals (with_reducible rfl)
            · simp only [Act.put, List.setIfInBounds_toArray, List.set_cons_zero, List.set_cons_succ]
              rfl
            refine StillAt.take' (i := 12) (v := ?_) (a' := ?_) HLq rfl (by rfl) ?_ ?_ ?_
            rotate_left 2
            · go_simp
              all_goals (with_reducible rfl)
            · simp only [Act.put, List.setIfInBounds_toArray, List.set_cons_zero, List.set_cons_succ]
              rfl
            refine StillAt.take' (i := 13) (v := ?_) (a' := ?_) HLq rfl (by rfl) ?_ ?_ ?_
            rotate_left 2
            · go_simp
              all_goals (with_reducible rfl)
            · simp only [Act.put, List.setIfInBounds_toArray, List.set_cons_zero, List.set_cons_succ]
              rfl
            refine StillAt.take' (i := 14) (v := ?_) (a' := ?_) HLq rfl (by rfl) ?_ ?_ ?_
            rotate_left 2
            · go_simp
              all_goals (with_reducible rfl)
            · simp only [Act.put, List.setIfInBounds_toArray, List.set_cons_zero, List.set_cons_succ]
              rfl
            refine StillAt.done' HLq rfl ?_
            refine HQq.out _ ?_
            clear HQq HLq Qq lq
            go_wp2_with fail
            constructor
            · refine ⟨10 * n + (s[a].toNat - 48), a + 1, G, by congr 1; omega, Lib.hid ⟨?_, RSt.step HN.out.st, by omega, HG.out.symm.trans HN.out.eq, by omega, by omega, by omega⟩, by omega, by omega, by omega⟩
              have g1 := grown_set HN.out.hg (p := ⟨b, 1, none⟩) (.inl rfl) (.int .i64 ((a : Int) + 1))
              exact grown_drew (grown_drew g1)
            · obtain ⟨⟨_, e1, _⟩, _⟩ := Blk.c3 (RSt.step HN.out.st)
              rw [e1, c1]
              show s.size - ((a + 1 : Nat) : Int).toNat < s.size - ((a : Nat) : Int).toNat
              omega
          · have i4 : decide (n ≤ most) = false := decide_eq_false hd3
            cases hbad : bad with
            | true =>
              subst hbad
              go_wp2_with fail
              refine still_whole (by kernel_rfl) (by kernel_rfl) (fun lq Qq HLq HQq => ?_)
              refine StillAt.take' (i := 0) (v := ?_) (a' := ?_) HLq rfl (by rfl) ?_ ?_ ?_
              rotate_left 2
              · go_simp
                all_goals (with_reducible rfl)
              · simp only [Act.put, List.setIfInBounds_toArray, List.set_cons_zero, List.set_cons_succ]
                rfl
              refine StillAt.take' (i := 1) (v := ?_) (a' := ?_) HLq rfl (by rfl) ?_ ?_ ?_
              rotate_left 2
              · go_simp
                all_goals (with_reducible rfl)
              · simp only [Act.put, List.setIfInBounds_toArray, List.set_cons_zero, List.set_cons_succ]
                rfl
              refine StillAt.take' (i := 2) (v := ?_) (a' := ?_) HLq rfl (by rfl) ?_ ?_ ?_
              rotate_left 2
              · go_simp
                all_goals (with_reducible rfl)
              · simp only [Act.put, List.setIfInBounds_toArray, List.set_cons_zero, List.set_cons_succ]
                rfl
              refine StillAt.take' (i := 3) (v := ?_) (a' := ?_) HLq rfl (by rfl) ?_ ?_ ?_
              rotate_left 2
              · go_simp
                all_goals (with_reducible rfl)
              · simp only [Act.put, List.setIfInBounds_toArray, List.set_cons_zero, List.set_cons_succ]
                rfl
              refine StillAt.take' (i := 4) (v := ?_) (a' := ?_) HLq rfl (by rfl) ?_ ?_ ?_
              rotate_left 2
              · go_simp
                all_goals (with_reducible rfl)
              · simp only [Act.put, List.setIfInBounds_toArray, List.set_cons_zero, List.set_cons_succ]
                rfl
              refine StillAt.take' (i := 5) (v := ?_) (a' := ?_) HLq rfl (by rfl) ?_ ?_ ?_
              rotate_left 2
              · go_simp
                all_goals (with_reducible rfl)
              · simp only [Act.put, List.setIfInBounds_toArray, List.set_cons_zero, List.set_cons_succ]
                rfl
              refine StillAt.take' (i := 6) (v := ?_) (a' := ?_) HLq rfl (by rfl) ?_ ?_ ?_
              rotate_left 2
              · go_simp
                all_goals (with_reducible rfl)
              · simp only [Act.put, List.setIfInBounds_toArray, List.set_cons_zero, List.set_cons_succ]
                rfl
              refine StillAt.take' (i := 7) (v := ?_) (a' := ?_) HLq rfl (by rfl) ?_ ?_ ?_
              rotate_left 2
              · go_simp
                all_goals (with_reducible rfl)
              · simp only [Act.put, List.setIfInBounds_toArray, List.set_cons_zero, List.set_cons_succ]
                rfl
              refine StillAt.take' (i := 8) (v := ?_) (a' := ?_) HLq rfl (by rfl) ?_ ?_ ?_
              rotate_left 2
              · go_simp
                all_goals (with_reducible rfl)
              · simp only [Act.put, List.setIfInBounds_toArray, List.set_cons_zero, List.set_cons_succ]
                rfl
              refine StillAt.take' (i := 9) (v := ?_) (a' := ?_) HLq rfl (by rfl) ?_ ?_ ?_
              rotate_left 2
              · go_simp
                all_goals (with_reducible rfl)
              · simp only [Act.put, List.setIfInBounds_toArray, List.set_cons_zero, List.set_cons_succ]
                rfl
              refine StillAt.take' (i := 10) (v := ?_) (a' := ?_) HLq rfl (by rfl) ?_ ?_ ?_
              rotate_left 2
              · go_simp
                all_goals (with_reducible rfl)
              · simp only [Act.put, List.setIfInBounds_toArray, List.set_cons_zero, List.set_cons_succ]
                rfl
              refine StillAt.take' (i := 11) (v := ?_) (a' := ?_) HLq rfl (by rfl) ?_ ?_ ?_
              rotate_left 2
              · go_simp
                all_goals (with_reducible rfl)
              · simp only [Act.put, List.setIfInBounds_toArray, List.set_cons_zero, List.set_cons_succ]
                rfl
              refine StillAt.take' (i := 12) (v := ?_) (a' := ?_) HLq rfl (by rfl) ?_ ?_ ?_
              rotate_left 2
              · go_simp
                all_goals (with_reducible rfl)
              · simp only [Act.put, List.setIfInBounds_toArray, List.set_cons_zero, List.set_cons_succ]
                rfl
              refine StillAt.take' (i := 13) (v := ?_) (a' := ?_) HLq rfl (by rfl) ?_ ?_ ?_
              rotate_left 2
              · go_simp
                all_goals (with_reducible rfl)
              · simp only [Act.put, List.setIfInBounds_toArray, List.set_cons_zero, List.set_cons_succ]
                rfl
              refine StillAt.take' (i := 14) (v := ?_) (a' := ?_) HLq rfl (by rfl) ?_ ?_ ?_
              rotate_left 2
              · go_simp
                all_goals (with_reducible rfl)
              · simp only [Act.put, List.setIfInBounds_toArray, List.set_cons_zero, List.set_cons_succ]
                rfl
              refine StillAt.take' (i := 15) (v := ?_) (a' := ?_) HLq rfl (by rfl) ?_ ?_ ?_
              rotate_left 2
              · go_simp
                all_goals (with_reducible rfl)
              · simp only [Act.put, List.setIfInBounds_toArray, List.set_cons_zero, List.set_cons_succ]
                rfl
              refine StillAt.take' (i := 16) (v := ?_) (a' := ?_) HLq rfl (by rfl) ?_ ?_ ?_
              rotate_left 2
              · go_simp
                all_goals (with_reducible rfl)
              · simp only [Act.put, List.setIfInBounds_toArray, List.set_cons_zero, List.set_cons_succ]
                rfl
              refine StillAt.take' (i := 17) (v := ?_) (a' := ?_) HLq rfl (by rfl) ?_ ?_ ?_
              rotate_left 2
              · go_simp
                all_goals (with_reducible rfl)
              · simp only [Act.put, List.setIfInBounds_toArray, List.set_cons_zero, List.set_cons_succ]
                rfl
              refine StillAt.take' (i := 18) (v := ?_) (a' := ?_) HLq rfl (by rfl) ?_ ?_ ?_
              rotate_left 2
              · go_simp
                all_goals (with_reducible rfl)
              · simp only [Act.put, List.setIfInBounds_toArray, List.set_cons_zero, List.set_cons_succ]
                rfl
              refine StillAt.take' (i := 19) (v := ?_) (a' := ?_) HLq rfl (by rfl) ?_ ?_ ?_
              rotate_left 2
              · go_simp
                all_goals (with_reducible rfl)
              · simp only [Act.put, List.setIfInBounds_toArray, List.set_cons_zero, List.set_cons_succ]
                rfl
              refine StillAt.take' (i := 20) (v := ?_) (a' := ?_) HLq rfl (by rfl) ?_ ?_ ?_
              rotate_left 2
              · go_simp
                all_goals (with_reducible rfl)
              · simp only [Act.put, List.setIfInBounds_toArray, List.set_cons_zero, List.set_cons_succ]
                rfl
              refine StillAt.take' (i := 21) (v := ?_) (a' := ?_) HLq rfl (by rfl) ?_ ?_ ?_
              rotate_left 2
              · go_simp
                all_goals (with_reducible rfl)
              · simp only [Act.put, List.setIfInBounds_toArray, List.set_cons_zero, List.set_cons_succ]
                rfl
              refine StillAt.take' (i := 22) (v := ?_) (a' := ?_) HLq rfl (by rfl) ?_ ?_ ?_
              rotate_left 2
              · go_simp
                all_goals (with_reducible rfl)
              · simp only [Act.put, List.setIfInBounds_toArray, List.set_cons_zero, List.set_cons_succ]
                rfl
              refine StillAt.take' (i := 23) (v := ?_) (a' := ?_) HLq rfl (by rfl) ?_ ?_ ?_
              rotate_left 2
              · go_simp
                all_goals (with_reducible rfl)
              · simp only [Act.put, List.setIfInBounds_toArray, List.set_cons_zero, List.set_cons_succ]
                rfl
              refine StillAt.take' (i := 24) (v := ?_) (a' := ?_) HLq rfl (by rfl) ?_ ?_ ?_
              rotate_left 2
              · go_simp
                all_goals (with_reducible rfl)
              · simp only [Act.put, List.setIfInBounds_toArray, List.set_cons_zero, List.set_cons_succ]
                rfl
              refine StillAt.take' (i := 25) (v := ?_) (a' := ?_) HLq rfl (by rfl) ?_ ?_ ?_
              rotate_left 2
              · go_simp
                all_goals (with_reducible rfl)
              · simp only [Act.put, List.setIfInBounds_toArray, List.set_cons_zero, List.set_cons_succ]
                rfl
              refine StillAt.take' (i := 26) (v := ?_) (a' := ?_) HLq rfl (by rfl) ?_ ?_ ?_
              rotate_left 2
              · go_simp
                all_goals (with_reducible rfl)
              · simp only [Act.put, List.setIfInBounds_toArray, List.set_cons_zero, List.set_cons_succ]
                rfl
              refine StillAt.take' (i := 27) (v := ?_) (a' := ?_) HLq rfl (by rfl) ?_ ?_ ?_
              rotate_left 2
              · go_simp
                all_goals (with_reducible rfl)
              · simp only [Act.put, List.setIfInBounds_toArray, List.set_cons_zero, List.set_cons_succ]
                rfl
              refine StillAt.take' (i := 28) (v := ?_) (a' := ?_) HLq rfl (by rfl) ?_ ?_ ?_
              rotate_left 2
              · go_simp
                all_goals (with_reducible rfl)
              · simp only [Act.put, List.setIfInBounds_toArray, List.set_cons_zero, List.set_cons_succ]
                rfl
              refine StillAt.take' (i := 29) (v := ?_) (a' := ?_) HLq rfl (by rfl) ?_ ?_ ?_
              rotate_left 2
              · go_simp
                all_goals (with_reducible rfl)
              · simp only [Act.put, List.setIfInBounds_toArray, List.set_cons_zero, List.set_cons_succ]
                rfl
              refine StillAt.take' (i := 30) (v := ?_) (a' := ?_) HLq rfl (by rfl) ?_ ?_ ?_
              rotate_left 2
              · go_simp
                all_goals (with_reducible rfl)
              · simp only [Act.put, List.setIfInBounds_toArray, List.set_cons_zero, List.set_cons_succ]
                rfl
              refine StillAt.take' (i := 31) (v := ?_) (a' := ?_) HLq rfl (by rfl) ?_ ?_ ?_
              rotate_left 2
              · go_simp
                all_goals (with_reducible rfl)
              · simp only [Act.put, List.setIfInBounds_toArray, List.set_cons_zero, List.set_cons_succ]
                rfl
              refine StillAt.take' (i := 32) (v := ?_) (a' := ?_) HLq rfl (by rfl) ?_ ?_ ?_
              rotate_left 2
              · go_simp
                all_goals (with_reducible rfl)
              · simp only [Act.put, List.setIfInBounds_toArray, List.set_cons_zero, List.set_cons_succ]
                rfl
              refine StillAt.take' (i := 33) (v := ?_) (a' := ?_) HLq rfl (by rfl) ?_ ?_ ?_
              rotate_left 2
              · go_simp
                all_goals (with_reducible rfl)
              · simp only [Act.put, List.setIfInBounds_toArray, List.set_cons_zero, List.set_cons_succ]
                rfl
              refine StillAt.take' (i := 34) (v := ?_) (a' := ?_) HLq rfl (by rfl) ?_ ?_ ?_
              rotate_left 2
              · go_simp
                all_goals (with_reducible rfl)
              · simp only [Act.put, List.setIfInBounds_toArray, List.set_cons_zero, List.set_cons_succ]
                rfl
              refine StillAt.take' (i := 35) (v := ?_) (a' := ?_) HLq rfl (by rfl) ?_ ?_ ?_
              rotate_left 2
              · go_simp
                all_goals (with_reducible rfl)
              · simp only [Act.put, List.setIfInBounds_toArray, List.set_cons_zero, List.set_cons_succ]
                rfl
              refine StillAt.take' (i := 36) (v := ?_) (a' := ?_) HLq rfl (by rfl) ?_ ?_ ?_
              rotate_left 2
              · go_simp
                all_goals (with_reducible rfl)
              · simp only [Act.put, List.setIfInBounds_toArray, List.set_cons_zero, List.set_cons_succ]
                rfl
              refine StillAt.take' (i := 37) (v := ?_) (a' := ?_) HLq rfl (by rfl) ?_ ?_ ?_
              rotate_left 2
              · go_simp
                all_goals (with_reducible rfl)
              · simp only [Act.put, List.setIfInBounds_toArray, List.set_cons_zero, List.set_cons_succ]
                rfl
              refine StillAt.take' (i := 38) (v := ?_) (a' := ?_) HLq rfl (by rfl) ?_ ?_ ?_
              rotate_left 2
              · go_simp
                all_goals (with_reducible rfl)
              · simp only [Act.put, List.setIfInBounds_toArray, List.set_cons_zero, List.set_cons_succ]
                rfl
              refine StillAt.done' HLq rfl ?_
              refine HQq.out _ ?_
              clear HQq HLq Qq lq
              go_wp2_with (go_at_call 51; refine (refsign_calls b s a _ c _ (RSt.bad HN.out.st) hs (by omega)).mono ?_; rintro e wq ⟨rfl, hg, hst⟩)
              go_ret
              exact numR_end HN.out (fun _ h => hd3 h.2.2) hg hst (by simp)
            | false =>
              subst hbad
              by_cases hae : a = at_
              · have ie : ((a : Int) == (at_ : Int)) = true := by simp [hae]
                subst hae
                go_wp2_with fail
                refine still_whole (by kernel_rfl) (by kernel_rfl) (fun lq Qq HLq HQq => ?_)
                refine StillAt.take' (i := 0) (v := ?_) (a' := ?_) HLq rfl (by rfl) ?_ ?_ ?_
                rotate_left 2
                · go_simp
                  all_goals (with_reducible rfl)
                · simp only [Act.put, List.setIfInBounds_toArray, List.set_cons_zero, List.set_cons_succ]
                  rfl
                refine StillAt.take' (i := 1) (v := ?_) (a' := ?_) HLq rfl (by rfl) ?_ ?_ ?_
                rotate_left 2
                · go_simp
                  all_goals (with_reducible rfl)
                · simp only [Act.put, List.setIfInBounds_toArray, List.set_cons_zero, List.set_cons_succ]
                  rfl
                refine StillAt.take' (i := 2) (v := ?_) (a' := ?_) HLq rfl (by rfl) ?_ ?_ ?_
                rotate_left 2
                · go_simp
                  all_goals (with_reducible rfl)
                · simp only [Act.put, List.setIfInBounds_toArray, List.set_cons_zero, List.set_cons_succ]
                  rfl
                refine StillAt.take' (i := 3) (v := ?_) (a' := ?_) HLq rfl (by rfl) ?_ ?_ ?_
                rotate_left 2
                · go_simp
                  all_goals (with_reducible rfl)
                · simp only [Act.put, List.setIfInBounds_toArray, List.set_cons_zero, List.set_cons_succ]
                  rfl
                refine StillAt.take' (i := 4) (v := ?_) (a' := ?_) HLq rfl (by rfl) ?_ ?_ ?_
                rotate_left 2
                · go_simp
                  all_goals (with_reducible rfl)
                · simp only [Act.put, List.setIfInBounds_toArray, List.set_cons_zero, List.set_cons_succ]
                  rfl
                refine StillAt.take' (i := 5) (v := ?_) (a' := ?_) HLq rfl (by rfl) ?_ ?_ ?_
                rotate_left 2
                · go_simp
                  all_goals (with_reducible rfl)
                · simp only [Act.put, List.setIfInBounds_toArray, List.set_cons_zero, List.set_cons_succ]
                  rfl
                refine StillAt.take' (i := 6) (v := ?_) (a' := ?_) HLq rfl (by rfl) ?_ ?_ ?_
                rotate_left 2
                · go_simp
                  all_goals (with_reducible rfl)
                · simp only [Act.put, List.setIfInBounds_toArray, List.set_cons_zero, List.set_cons_succ]
                  rfl
                refine StillAt.take' (i := 7) (v := ?_) (a' := ?_) HLq rfl (by rfl) ?_ ?_ ?_
                rotate_left 2
                · go_simp
                  all_goals (with_reducible rfl)
                · simp only [Act.put, List.setIfInBounds_toArray, List.set_cons_zero, List.set_cons_succ]
                  rfl
                refine StillAt.take' (i := 8) (v := ?_) (a' := ?_) HLq rfl (by rfl) ?_ ?_ ?_
                rotate_left 2
                · go_simp
                  all_goals (with_reducible rfl)
                · simp only [Act.put, List.setIfInBounds_toArray, List.set_cons_zero, List.set_cons_succ]
                  rfl
                refine StillAt.take' (i := 9) (v := ?_) (a' := ?_) HLq rfl (by rfl) ?_ ?_ ?_
                rotate_left 2
                · go_simp
                  all_goals (with_reducible rfl)
                · simp only [Act.put, List.setIfInBounds_toArray, List.set_cons_zero, List.set_cons_succ]
                  rfl
                refine StillAt.take' (i := 10) (v := ?_) (a' := ?_) HLq rfl (by rfl) ?_ ?_ ?_
                rotate_left 2
                · go_simp
                  all_goals (with_reducible rfl)
                · simp only [Act.put, List.setIfInBounds_toArray, List.set_cons_zero, List.set_cons_succ]
                  rfl
                refine StillAt.take' (i := 11) (v := ?_) (a' := ?_) HLq rfl (by rfl) ?_ ?_ ?_
                rotate_left 2
                · go_simp
                  all_goals (with_reducible rfl)
                · simp only [Act.put, List.setIfInBounds_toArray, List.set_cons_zero, List.set_cons_succ]
                  rfl
                refine StillAt.take' (i := 12) (v := ?_) (a' := ?_) HLq rfl (by rfl) ?_ ?_ ?_
                rotate_left 2
                · go_simp
                  all_goals (with_reducible rfl)
                · simp only [Act.put, List.setIfInBounds_toArray, List.set_cons_zero, List.set_cons_succ]
                  rfl
                refine StillAt.take' (i := 13) (v := ?_) (a' := ?_) HLq rfl (by rfl) ?_ ?_ ?_
                rotate_left 2
                · go_simp
                  all_goals (with_reducible rfl)
                · simp only [Act.put, List.setIfInBounds_toArray, List.set_cons_zero, List.set_cons_succ]
                  rfl
                refine StillAt.take' (i := 14) (v := ?_) (a' := ?_) HLq rfl (by rfl) ?_ ?_ ?_
                rotate_left 2
                · go_simp
                  all_goals (with_reducible rfl)
                · simp only [Act.put, List.setIfInBounds_toArray, List.set_cons_zero, List.set_cons_succ]
                  rfl
                refine StillAt.take' (i := 15) (v := ?_) (a' := ?_) HLq rfl (by rfl) ?_ ?_ ?_
                rotate_left 2
                · go_simp
                  all_goals (with_reducible rfl)
                · simp only [Act.put, List.setIfInBounds_toArray, List.set_cons_zero, List.set_cons_succ]
                  rfl
                refine StillAt.take' (i := 16) (v := ?_) (a' := ?_) HLq rfl (by rfl) ?_ ?_ ?_
                rotate_left 2
                · go_simp
                  all_goals (with_reducible rfl)
                · simp only [Act.put, List.setIfInBounds_toArray, List.set_cons_zero, List.set_cons_succ]
                  rfl
                refine StillAt.take' (i := 17) (v := ?_) (a' := ?_) HLq rfl (by rfl) ?_ ?_ ?_
                rotate_left 2
                · go_simp
                  all_goals (with_reducible rfl)
                · simp only [Act.put, List.setIfInBounds_toArray, List.set_cons_zero, List.set_cons_succ]
                  rfl
                refine StillAt.take' (i := 18) (v := ?_) (a' := ?_) HLq rfl (by rfl) ?_ ?_ ?_
                rotate_left 2
                · go_simp
                  all_goals (with_reducible rfl)
                · simp only [Act.put, List.setIfInBounds_toArray, List.set_cons_zero, List.set_cons_succ]
                  rfl
                refine StillAt.take' (i := 19) (v := ?_) (a' := ?_) HLq rfl (by rfl) ?_ ?_ ?_
                rotate_left 2
                · go_simp
                  all_goals (with_reducible rfl)
                · simp only [Act.put, List.setIfInBounds_toArray, List.set_cons_zero, List.set_cons_succ]
                  rfl
                refine StillAt.take' (i := 20) (v := ?_) (a' := ?_) HLq rfl (by rfl) ?_ ?_ ?_
                rotate_left 2
                · go_simp
                  all_goals (with_reducible rfl)
                · simp only [Act.put, List.setIfInBounds_toArray, List.set_cons_zero, List.set_cons_succ]
                  rfl
                refine StillAt.take' (i := 21) (v := ?_) (a' := ?_) HLq rfl (by rfl) ?_ ?_ ?_
                rotate_left 2
                · go_simp
                  all_goals (with_reducible rfl)
                · simp only [Act.put, List.setIfInBounds_toArray, List.set_cons_zero, List.set_cons_succ]
                  rfl
                refine StillAt.take' (i := 22) (v := ?_) (a' := ?_) HLq rfl (by rfl) ?_ ?_ ?_
                rotate_left 2
                · go_simp
                  all_goals (with_reducible rfl)
                · simp only [Act.put, List.setIfInBounds_toArray, List.set_cons_zero, List.set_cons_succ]
                  rfl
                refine StillAt.take' (i := 23) (v := ?_) (a' := ?_) HLq rfl (by rfl) ?_ ?_ ?_
                rotate_left 2
                · go_simp
                  all_goals (with_reducible rfl)
                · simp only [Act.put, List.setIfInBounds_toArray, List.set_cons_zero, List.set_cons_succ]
                  rfl
                refine StillAt.take' (i := 24) (v := ?_) (a' := ?_) HLq rfl (by rfl) ?_ ?_ ?_
                rotate_left 2
                · go_simp
                  all_goals (with_reducible rfl)
                · simp only [Act.put, List.setIfInBounds_toArray, List.set_cons_zero, List.set_cons_succ]
                  rfl
                refine StillAt.take' (i := 25) (v := ?_) (a' := ?_) HLq rfl (by rfl) ?_ ?_ ?_
                rotate_left 2
                · go_simp
                  all_goals (with_reducible rfl)
                · simp only [Act.put, List.setIfInBounds_toArray, List.set_cons_zero, List.set_cons_succ]
                  rfl
                refine StillAt.take' (i := 26) (v := ?_) (a' := ?_) HLq rfl (by rfl) ?_ ?_ ?_
                rotate_left 2
                · go_simp
                  all_goals (with_reducible rfl)
                · simp only [Act.put, List.setIfInBounds_toArray, List.set_cons_zero, List.set_cons_succ]
                  rfl
                refine StillAt.take' (i := 27) (v := ?_) (a' := ?_) HLq rfl (by rfl) ?_ ?_ ?_
                rotate_left 2
                · go_simp
                  all_goals (with_reducible rfl)
                · simp only [Act.put, List.setIfInBounds_toArray, List.set_cons_zero, List.set_cons_succ]
                  rfl
                refine StillAt.take' (i := 28) (v := ?_) (a' := ?_) HLq rfl (by rfl) ?_ ?_ ?_
                rotate_left 2
                · go_simp
                  all_goals (with_reducible rfl)
                · simp only [Act.put, List.setIfInBounds_toArray, List.set_cons_zero, List.set_cons_succ]
                  rfl
                refine StillAt.take' (i := 29) (v := ?_) (a' := ?_) HLq rfl (by rfl) ?_ ?_ ?_
                rotate_left 2
                · go_simp
                  all_goals (with_reducible rfl)
                · simp only [Act.put, List.setIfInBounds_toArray, List.set_cons_zero, List.set_cons_succ]
                  rfl
                refine StillAt.take' (i := 30) (v := ?_) (a' := ?_) HLq rfl (by rfl) ?_ ?_ ?_
                rotate_left 2
                · go_simp
                  all_goals (with_reducible rfl)
                · simp only [Act.put, List.setIfInBounds_toArray, List.set_cons_zero, List.set_cons_succ]
                  rfl
                refine StillAt.take' (i := 31) (v := ?_) (a' := ?_) HLq rfl (by rfl) ?_ ?_ ?_
                rotate_left 2
                · go_simp
                  all_goals (with_reducible rfl)
                · simp only [Act.put, List.setIfInBounds_toArray, List.set_cons_zero, List.set_cons_succ]
                  rfl
                refine StillAt.take' (i := 32) (v := ?_) (a' := ?_) HLq rfl (by rfl) ?_ ?_ ?_
                rotate_left 2
                · go_simp
                  all_goals (with_reducible rfl)
                · simp only [Act.put, List.setIfInBounds_toArray, List.set_cons_zero, List.set_cons_succ]
                  rfl
                refine StillAt.take' (i := 33) (v := ?_) (a' := ?_) HLq rfl (by rfl) ?_ ?_ ?_
                rotate_left 2
                · go_simp
                  all_goals (with_reducible rfl)
                · simp only [Act.put, List.setIfInBounds_toArray, List.set_cons_zero, List.set_cons_succ]
                  rfl
                refine StillAt.take' (i := 34) (v := ?_) (a' := ?_) HLq rfl (by rfl) ?_ ?_ ?_
                rotate_left 2
                · go_simp
                  all_goals (with_reducible rfl)
                · simp only [Act.put, List.setIfInBounds_toArray, List.set_cons_zero, List.set_cons_succ]
                  rfl
                refine StillAt.take' (i := 35) (v := ?_) (a' := ?_) HLq rfl (by rfl) ?_ ?_ ?_
                rotate_left 2
                · go_simp
                  all_goals (with_reducible rfl)
                · simp only [Act.put, List.setIfInBounds_toArray, List.set_cons_zero, List.set_cons_succ]
                  rfl
                refine StillAt.take' (i := 36) (v := ?_) (a' := ?_) HLq rfl (by rfl) ?_ ?_ ?_
                rotate_left 2
                · go_simp
                  all_goals (with_reducible rfl)
                · simp only [Act.put, List.setIfInBounds_toArray, List.set_cons_zero, List.set_cons_succ]
                  rfl
                refine StillAt.take' (i := 37) (v := ?_) (a' := ?_) HLq rfl (by rfl) ?_ ?_ ?_
                rotate_left 2
                · go_simp
                  all_goals (with_reducible rfl)
                · simp only [Act.put, List.setIfInBounds_toArray, List.set_cons_zero, List.set_cons_succ]
                  rfl
                refine StillAt.take' (i := 38) (v := ?_) (a' := ?_) HLq rfl (by rfl) ?_ ?_ ?_
                rotate_left 2
                · go_simp
                  all_goals (with_reducible rfl)
                · simp only [Act.put, List.setIfInBounds_toArray, List.set_cons_zero, List.set_cons_succ]
                  rfl
                refine StillAt.done' HLq rfl ?_
                refine HQq.out _ ?_
                clear HQq HLq Qq lq
                go_wp2_with (go_at_call 51; refine (refsign_calls b s a _ c _ (RSt.bad HN.out.st) hs (by omega)).mono ?_; rintro e wq ⟨rfl, hg, hst⟩)
                go_ret
                exact numR_end HN.out (fun _ h => hd3 h.2.2) hg hst (by simp)
              · have ie : ((a : Int) == (at_ : Int)) = false := by simp; omega
                go_wp2_with fail
                refine still_whole (by kernel_rfl) (by kernel_rfl) (fun lq Qq HLq HQq => ?_)
                refine StillAt.take' (i := 0) (v := ?_) (a' := ?_) HLq rfl (by rfl) ?_ ?_ ?_
                rotate_left 2
                · go_simp
                  all_goals (with_reducible rfl)
                · simp only [Act.put, List.setIfInBounds_toArray, List.set_cons_zero, List.set_cons_succ]
                  rfl
                refine StillAt.take' (i := 1) (v := ?_) (a' := ?_) HLq rfl (by rfl) ?_ ?_ ?_
                rotate_left 2
                · go_simp
                  all_goals (with_reducible rfl)
                · simp only [Act.put, List.setIfInBounds_toArray, List.set_cons_zero, List.set_cons_succ]
                  rfl
                refine StillAt.take' (i := 2) (v := ?_) (a' := ?_) HLq rfl (by rfl) ?_ ?_ ?_
                rotate_left 2
                · go_simp
                  all_goals (with_reducible rfl)
                · simp only [Act.put, List.setIfInBounds_toArray, List.set_cons_zero, List.set_cons_succ]
                  rfl
                refine StillAt.take' (i := 3) (v := ?_) (a' := ?_) HLq rfl (by rfl) ?_ ?_ ?_
                rotate_left 2
                · go_simp
                  all_goals (with_reducible rfl)
                · simp only [Act.put, List.setIfInBounds_toArray, List.set_cons_zero, List.set_cons_succ]
                  rfl
                refine StillAt.take' (i := 4) (v := ?_) (a' := ?_) HLq rfl (by rfl) ?_ ?_ ?_
                rotate_left 2
                · go_simp
                  all_goals (with_reducible rfl)
                · simp only [Act.put, List.setIfInBounds_toArray, List.set_cons_zero, List.set_cons_succ]
                  rfl
                refine StillAt.take' (i := 5) (v := ?_) (a' := ?_) HLq rfl (by rfl) ?_ ?_ ?_
                rotate_left 2
                · go_simp
                  all_goals (with_reducible rfl)
                · simp only [Act.put, List.setIfInBounds_toArray, List.set_cons_zero, List.set_cons_succ]
                  rfl
                refine StillAt.take' (i := 6) (v := ?_) (a' := ?_) HLq rfl (by rfl) ?_ ?_ ?_
                rotate_left 2
                · go_simp
                  all_goals (with_reducible rfl)
                · simp only [Act.put, List.setIfInBounds_toArray, List.set_cons_zero, List.set_cons_succ]
                  rfl
                refine StillAt.take' (i := 7) (v := ?_) (a' := ?_) HLq rfl (by rfl) ?_ ?_ ?_
                rotate_left 2
                · go_simp
                  all_goals (with_reducible rfl)
                · simp only [Act.put, List.setIfInBounds_toArray, List.set_cons_zero, List.set_cons_succ]
                  rfl
                refine StillAt.take' (i := 8) (v := ?_) (a' := ?_) HLq rfl (by rfl) ?_ ?_ ?_
                rotate_left 2
                · go_simp
                  all_goals (with_reducible rfl)
                · simp only [Act.put, List.setIfInBounds_toArray, List.set_cons_zero, List.set_cons_succ]
                  rfl
                refine StillAt.take' (i := 9) (v := ?_) (a' := ?_) HLq rfl (by rfl) ?_ ?_ ?_
                rotate_left 2
                · go_simp
                  all_goals (with_reducible rfl)
                · simp only [Act.put, List.setIfInBounds_toArray, List.set_cons_zero, List.set_cons_succ]
                  rfl
                refine StillAt.take' (i := 10) (v := ?_) (a' := ?_) HLq rfl (by rfl) ?_ ?_ ?_
                rotate_left 2
                · go_simp
                  all_goals (with_reducible rfl)
                · simp only [Act.put, List.setIfInBounds_toArray, List.set_cons_zero, List.set_cons_succ]
                  rfl
                refine StillAt.take' (i := 11) (v := ?_) (a' := ?_) HLq rfl (by rfl) ?_ ?_ ?_
                rotate_left 2
                · go_simp
                  all_goals (with_reducible rfl)
                · simp only [Act.put, List.setIfInBounds_toArray, List.set_cons_zero, List.set_cons_succ]
                  rfl
                refine StillAt.take' (i := 12) (v := ?_) (a' := ?_) HLq rfl (by rfl) ?_ ?_ ?_
                rotate_left 2
                · go_simp
                  all_goals (with_reducible rfl)
                · simp only [Act.put, List.setIfInBounds_toArray, List.set_cons_zero, List.set_cons_succ]
                  rfl
                refine StillAt.take' (i := 13) (v := ?_) (a' := ?_) HLq rfl (by rfl) ?_ ?_ ?_
                rotate_left 2
                · go_simp
                  all_goals (with_reducible rfl)
                · simp only [Act.put, List.setIfInBounds_toArray, List.set_cons_zero, List.set_cons_succ]
                  rfl
                refine StillAt.take' (i := 14) (v := ?_) (a' := ?_) HLq rfl (by rfl) ?_ ?_ ?_
                rotate_left 2
                · go_simp
                  all_goals (with_reducible rfl)
                · simp only [Act.put, List.setIfInBounds_toArray, List.set_cons_zero, List.set_cons_succ]
                  rfl
                refine StillAt.take' (i := 15) (v := ?_) (a' := ?_) HLq rfl (by rfl) ?_ ?_ ?_
                rotate_left 2
                · go_simp
                  all_goals (with_reducible rfl)
                · simp only [Act.put, List.setIfInBounds_toArray, List.set_cons_zero, List.set_cons_succ]
                  rfl
                refine StillAt.take' (i := 16) (v := ?_) (a' := ?_) HLq rfl (by rfl) ?_ ?_ ?_
                rotate_left 2
                · go_simp
                  all_goals (with_reducible rfl)
                · simp only [Act.put, List.setIfInBounds_toArray, List.set_cons_zero, List.set_cons_succ]
                  rfl
                refine StillAt.take' (i := 17) (v := ?_) (a' := ?_) HLq rfl (by rfl) ?_ ?_ ?_
                rotate_left 2
                · go_simp
                  all_goals (with_reducible rfl)
                · simp only [Act.put, List.setIfInBounds_toArray, List.set_cons_zero, List.set_cons_succ]
                  rfl
                refine StillAt.take' (i := 18) (v := ?_) (a' := ?_) HLq rfl (by rfl) ?_ ?_ ?_
                rotate_left 2
                · go_simp
                  all_goals (with_reducible rfl)
                · simp only [Act.put, List.setIfInBounds_toArray, List.set_cons_zero, List.set_cons_succ]
                  rfl
                refine StillAt.take' (i := 19) (v := ?_) (a' := ?_) HLq rfl (by rfl) ?_ ?_ ?_
                rotate_left 2
                · go_simp
                  all_goals (with_reducible rfl)
                · simp only [Act.put, List.setIfInBounds_toArray, List.set_cons_zero, List.set_cons_succ]
                  rfl
                refine StillAt.take' (i := 20) (v := ?_) (a' := ?_) HLq rfl (by rfl) ?_ ?_ ?_
                rotate_left 2
                · go_simp
                  all_goals (with_reducible rfl)
                · simp only [Act.put, List.setIfInBounds_toArray, List.set_cons_zero, List.set_cons_succ]
                  rfl
                refine StillAt.take' (i := 21) (v := ?_) (a' := ?_) HLq rfl (by rfl) ?_ ?_ ?_
                rotate_left 2
                · go_simp
                  all_goals (with_reducible rfl)
                · simp only [Act.put, List.setIfInBounds_toArray, List.set_cons_zero, List.set_cons_succ]
                  rfl
                refine StillAt.take' (i := 22) (v := ?_) (a' := ?_) HLq rfl (by rfl) ?_ ?_ ?_
                rotate_left 2
                · go_simp
                  all_goals (with_reducible rfl)
                · simp only [Act.put, List.setIfInBounds_toArray, List.set_cons_zero, List.set_cons_succ]
                  rfl
                refine StillAt.take' (i := 23) (v := ?_) (a' := ?_) HLq rfl (by rfl) ?_ ?_ ?_
                rotate_left 2
                · go_simp
                  all_goals (with_reducible rfl)
                · simp only [Act.put, List.setIfInBounds_toArray, List.set_cons_zero, List.set_cons_succ]
                  rfl
                refine StillAt.take' (i := 24) (v := ?_) (a' := ?_) HLq rfl (by rfl) ?_ ?_ ?_
                rotate_left 2
                · go_simp
                  all_goals (with_reducible rfl)
                · simp only [Act.put, List.setIfInBounds_toArray, List.set_cons_zero, List.set_cons_succ]
                  rfl
                refine StillAt.take' (i := 25) (v := ?_) (a' := ?_) HLq rfl (by rfl) ?_ ?_ ?_
                rotate_left 2
                · go_simp
                  all_goals (with_reducible rfl)
                · simp only [Act.put, List.setIfInBounds_toArray, List.set_cons_zero, List.set_cons_succ]
                  rfl
                refine StillAt.take' (i := 26) (v := ?_) (a' := ?_) HLq rfl (by rfl) ?_ ?_ ?_
                rotate_left 2
                · go_simp
                  all_goals (with_reducible rfl)
                · simp only [Act.put, List.setIfInBounds_toArray, List.set_cons_zero, List.set_cons_succ]
                  rfl
                refine StillAt.take' (i := 27) (v := ?_) (a' := ?_) HLq rfl (by rfl) ?_ ?_ ?_
                rotate_left 2
                · go_simp
                  all_goals (with_reducible rfl)
                · simp only [Act.put, List.setIfInBounds_toArray, List.set_cons_zero, List.set_cons_succ]
                  rfl
                refine StillAt.take' (i := 28) (v := ?_) (a' := ?_) HLq rfl (by rfl) ?_ ?_ ?_
                rotate_left 2
                · go_simp
                  all_goals (with_reducible rfl)
                · simp only [Act.put, List.setIfInBounds_toArray, List.set_cons_zero, List.set_cons_succ]
                  rfl
                refine StillAt.take' (i := 29) (v := ?_) (a' := ?_) HLq rfl (by rfl) ?_ ?_ ?_
                rotate_left 2
                · go_simp
                  all_goals (with_reducible rfl)
                · simp only [Act.put, List.setIfInBounds_toArray, List.set_cons_zero, List.set_cons_succ]
                  rfl
                refine StillAt.take' (i := 30) (v := ?_) (a' := ?_) HLq rfl (by rfl) ?_ ?_ ?_
                rotate_left 2
                · go_simp
                  all_goals (with_reducible rfl)
                · simp only [Act.put, List.setIfInBounds_toArray, List.set_cons_zero, List.set_cons_succ]
                  rfl
                refine StillAt.take' (i := 31) (v := ?_) (a' := ?_) HLq rfl (by rfl) ?_ ?_ ?_
                rotate_left 2
                · go_simp
                  all_goals (with_reducible rfl)
                · simp only [Act.put, List.setIfInBounds_toArray, List.set_cons_zero, List.set_cons_succ]
                  rfl
                refine StillAt.take' (i := 32) (v := ?_) (a' := ?_) HLq rfl (by rfl) ?_ ?_ ?_
                rotate_left 2
                · go_simp
                  all_goals (with_reducible rfl)
                · simp only [Act.put, List.setIfInBounds_toArray, List.set_cons_zero, List.set_cons_succ]
                  rfl
                refine StillAt.take' (i := 33) (v := ?_) (a' := ?_) HLq rfl (by rfl) ?_ ?_ ?_
                rotate_left 2
                · go_simp
                  all_goals (with_reducible rfl)
                · simp only [Act.put, List.setIfInBounds_toArray, List.set_cons_zero, List.set_cons_succ]
                  rfl
                refine StillAt.take' (i := 34) (v := ?_) (a' := ?_) HLq rfl (by rfl) ?_ ?_ ?_
                rotate_left 2
                · go_simp
                  all_goals (with_reducible rfl)
                · simp only [Act.put, List.setIfInBounds_toArray, List.set_cons_zero, List.set_cons_succ]
                  rfl
                refine StillAt.take' (i := 35) (v := ?_) (a' := ?_) HLq rfl (by rfl) ?_ ?_ ?_
                rotate_left 2
                · go_simp
                  all_goals (with_reducible rfl)
                · simp only [Act.put, List.setIfInBounds_toArray, List.set_cons_zero, List.set_cons_succ]
                  rfl
                refine StillAt.take' (i := 36) (v := ?_) (a' := ?_) HLq rfl (by rfl) ?_ ?_ ?_
                rotate_left 2
                · go_simp
                  all_goals (with_reducible rfl)
                · simp only [Act.put, List.setIfInBounds_toArray, List.set_cons_zero, List.set_cons_succ]
                  rfl
                refine StillAt.take' (i := 37) (v := ?_) (a' := ?_) HLq rfl (by rfl) ?_ ?_ ?_
                rotate_left 2
                · go_simp
                  all_goals (with_reducible rfl)
                · simp only [Act.put, List.setIfInBounds_toArray, List.set_cons_zero, List.set_cons_succ]
                  rfl
                refine StillAt.take' (i := 38) (v := ?_) (a' := ?_) HLq rfl (by rfl) ?_ ?_ ?_
                rotate_left 2
                · go_simp
                  all_goals (with_reducible rfl)
                · simp only [Act.put, List.setIfInBounds_toArray, List.set_cons_zero, List.set_cons_succ]
                  rfl
                refine StillAt.done' HLq rfl ?_
                refine HQq.out _ ?_
                clear HQq HLq Qq lq
                go_wp2_with (go_at_call 51; refine (refsign_calls b s a _ c _ (RSt.bad HN.out.st) hs (by omega)).mono ?_; rintro e wq ⟨rfl, hg, hst⟩)
                go_ret
                exact numR_end HN.out (fun _ h => hd3 h.2.2) hg hst (by simp [hae])
        · have i3 : decide ((s[a].toNat : Int) ≤ 57) = false := decide_eq_false (by omega)
          cases hbad : bad with
          | true =>
            subst hbad
            go_wp2_with fail
            refine still_whole (by kernel_rfl) (by kernel_rfl) (fun lq Qq HLq HQq => ?_)
            refine StillAt.take' (i := 0) (v := ?_) (a' := ?_) HLq rfl (by rfl) ?_ ?_ ?_
            rotate_left 2
            · go_simp
              all_goals (with_reducible rfl)
            · simp only [Act.put, List.setIfInBounds_toArray, List.set_cons_zero, List.set_cons_succ]
              rfl
            refine StillAt.take' (i := 1) (v := ?_) (a' := ?_) HLq rfl (by rfl) ?_ ?_ ?_
            rotate_left 2
            · go_simp
              all_goals (with_reducible rfl)
            · simp only [Act.put, List.setIfInBounds_toArray, List.set_cons_zero, List.set_cons_succ]
              rfl
            refine StillAt.take' (i := 2) (v := ?_) (a' := ?_) HLq rfl (by rfl) ?_ ?_ ?_
            rotate_left 2
            · go_simp
              all_goals (with_reducible rfl)
            · simp only [Act.put, List.setIfInBounds_toArray, List.set_cons_zero, List.set_cons_succ]
              rfl
            refine StillAt.take' (i := 3) (v := ?_) (a' := ?_) HLq rfl (by rfl) ?_ ?_ ?_
            rotate_left 2
            · go_simp
              all_goals (with_reducible rfl)
            · simp only [Act.put, List.setIfInBounds_toArray, List.set_cons_zero, List.set_cons_succ]
              rfl
            refine StillAt.take' (i := 4) (v := ?_) (a' := ?_) HLq rfl (by rfl) ?_ ?_ ?_
            rotate_left 2
            · go_simp
              all_goals (with_reducible rfl)
            · simp only [Act.put, List.setIfInBounds_toArray, List.set_cons_zero, List.set_cons_succ]
              rfl
            refine StillAt.take' (i := 5) (v := ?_) (a' := ?_) HLq rfl (by rfl) ?_ ?_ ?_
            rotate_left 2
            · go_simp
              all_goals (with_reducible rfl)
            · simp only [Act.put, List.setIfInBounds_toArray, List.set_cons_zero, List.set_cons_succ]
              rfl
            refine StillAt.take' (i := 6) (v := ?_) (a' := ?_) HLq rfl (by rfl) ?_ ?_ ?_
            rotate_left 2
            · go_simp
              all_goals (with_reducible rfl)
            · simp only [Act.put, List.setIfInBounds_toArray, List.set_cons_zero, List.set_cons_succ]
              rfl
            refine StillAt.take' (i := 7) (v := ?_) (a' := ?_) HLq rfl (by rfl) ?_ ?_ ?_
            rotate_left 2
            · go_simp
              all_goals (with_reducible rfl)
            · simp only [Act.put, List.setIfInBounds_toArray, List.set_cons_zero, List.set_cons_succ]
              rfl
            refine StillAt.take' (i := 8) (v := ?_) (a' := ?_) HLq rfl (by rfl) ?_ ?_ ?_
            rotate_left 2
            · go_simp
              all_goals (with_reducible rfl)
            · simp only [Act.put, List.setIfInBounds_toArray, List.set_cons_zero, List.set_cons_succ]
              rfl
            refine StillAt.take' (i := 9) (v := ?_) (a' := ?_) HLq rfl (by rfl) ?_ ?_ ?_
            rotate_left 2
            · go_simp
              all_goals (with_reducible rfl)
            · simp only [Act.put, List.setIfInBounds_toArray, List.set_cons_zero, List.set_cons_succ]
              rfl
            refine StillAt.take' (i := 10) (v := ?_) (a' := ?_) HLq rfl (by rfl) ?_ ?_ ?_
            rotate_left 2
            · go_simp
              all_goals (with_reducible rfl)
            · simp only [Act.put, List.setIfInBounds_toArray, List.set_cons_zero, List.set_cons_succ]
              rfl
            refine StillAt.take' (i := 11) (v := ?_) (a' := ?_) HLq rfl (by rfl) ?_ ?_ ?_
            rotate_left 2
            · go_simp
              all_goals (with_reducible rfl)
            · simp only [Act.put, List.setIfInBounds_toArray, List.set_cons_zero, List.set_cons_succ]
              rfl
            refine StillAt.take' (i := 12) (v := ?_) (a' := ?_) HLq rfl (by rfl) ?_ ?_ ?_
            rotate_left 2
            · go_simp
              all_goals (with_reducible rfl)
            · simp only [Act.put, List.setIfInBounds_toArray, List.set_cons_zero, List.set_cons_succ]
              rfl
            refine StillAt.take' (i := 13) (v := ?_) (a' := ?_) HLq rfl (by rfl) ?_ ?_ ?_
            rotate_left 2
            · go_simp
              all_goals (with_reducible rfl)
            · simp only [Act.put, List.setIfInBounds_toArray, List.set_cons_zero, List.set_cons_succ]
              rfl
            refine StillAt.take' (i := 14) (v := ?_) (a' := ?_) HLq rfl (by rfl) ?_ ?_ ?_
            rotate_left 2
            · go_simp
              all_goals (with_reducible rfl)
            · simp only [Act.put, List.setIfInBounds_toArray, List.set_cons_zero, List.set_cons_succ]
              rfl
            refine StillAt.take' (i := 15) (v := ?_) (a' := ?_) HLq rfl (by rfl) ?_ ?_ ?_
            rotate_left 2
            · go_simp
              all_goals (with_reducible rfl)
            · simp only [Act.put, List.setIfInBounds_toArray, List.set_cons_zero, List.set_cons_succ]
              rfl
            refine StillAt.take' (i := 16) (v := ?_) (a' := ?_) HLq rfl (by rfl) ?_ ?_ ?_
            rotate_left 2
            · go_simp
              all_goals (with_reducible rfl)
            · simp only [Act.put, List.setIfInBounds_toArray, List.set_cons_zero, List.set_cons_succ]
              rfl
            refine StillAt.take' (i := 17) (v := ?_) (a' := ?_) HLq rfl (by rfl) ?_ ?_ ?_
            rotate_left 2
            · go_simp
              all_goals (with_reducible rfl)
            · simp only [Act.put, List.setIfInBounds_toArray, List.set_cons_zero, List.set_cons_succ]
              rfl
            refine StillAt.take' (i := 18) (v := ?_) (a' := ?_) HLq rfl (by rfl) ?_ ?_ ?_
            rotate_left 2
            · go_simp
              all_goals (with_reducible rfl)
            · simp only [Act.put, List.setIfInBounds_toArray, List.set_cons_zero, List.set_cons_succ]
              rfl
            refine StillAt.take' (i := 19) (v := ?_) (a' := ?_) HLq rfl (by rfl) ?_ ?_ ?_
            rotate_left 2
            · go_simp
              all_goals (with_reducible rfl)
            · simp only [Act.put, List.setIfInBounds_toArray, List.set_cons_zero, List.set_cons_succ]
              rfl
            refine StillAt.take' (i := 20) (v := ?_) (a' := ?_) HLq rfl (by rfl) ?_ ?_ ?_
            rotate_left 2
            · go_simp
              all_goals (with_reducible rfl)
            · simp only [Act.put, List.setIfInBounds_toArray, List.set_cons_zero, List.set_cons_succ]
              rfl
            refine StillAt.take' (i := 21) (v := ?_) (a' := ?_) HLq rfl (by rfl) ?_ ?_ ?_
            rotate_left 2
            · go_simp
              all_goals (with_reducible rfl)
            · simp only [Act.put, List.setIfInBounds_toArray, List.set_cons_zero, List.set_cons_succ]
              rfl
            refine StillAt.take' (i := 22) (v := ?_) (a' := ?_) HLq rfl (by rfl) ?_ ?_ ?_
            rotate_left 2
            · go_simp
              all_goals (with_reducible rfl)
            · simp only [Act.put, List.setIfInBounds_toArray, List.set_cons_zero, List.set_cons_succ]
              rfl
            refine StillAt.take' (i := 23) (v := ?_) (a' := ?_) HLq rfl (by rfl) ?_ ?_ ?_
            rotate_left 2
            · go_simp
              all_goals (with_reducible rfl)
            · simp only [Act.put, List.setIfInBounds_toArray, List.set_cons_zero, List.set_cons_succ]
              rfl
            refine StillAt.take' (i := 24) (v := ?_) (a' := ?_) HLq rfl (by rfl) ?_ ?_ ?_
            rotate_left 2
            · go_simp
              all_goals (with_reducible rfl)
            · simp only [Act.put, List.setIfInBounds_toArray, List.set_cons_zero, List.set_cons_succ]
              rfl
            refine StillAt.take' (i := 25) (v := ?_) (a' := ?_) HLq rfl (by rfl) ?_ ?_ ?_
            rotate_left 2
            · go_simp
              all_goals (with_reducible rfl)
            · simp only [Act.put, List.setIfInBounds_toArray, List.set_cons_zero, List.set_cons_succ]
              rfl
            refine StillAt.take' (i := 26) (v := ?_) (a' := ?_) HLq rfl (by rfl) ?_ ?_ ?_
            rotate_left 2
            · go_simp
              all_goals (with_reducible rfl)
            · simp only [Act.put, List.setIfInBounds_toArray, List.set_cons_zero, List.set_cons_succ]
              rfl
            refine StillAt.take' (i := 27) (v := ?_) (a' := ?_) HLq rfl (by rfl) ?_ ?_ ?_
            rotate_left 2
            · go_simp
              all_goals (with_reducible rfl)
            · simp only [Act.put, List.setIfInBounds_toArray, List.set_cons_zero, List.set_cons_succ]
              rfl
            refine StillAt.take' (i := 28) (v := ?_) (a' := ?_) HLq rfl (by rfl) ?_ ?_ ?_
            rotate_left 2
            · go_simp
              all_goals (with_reducible rfl)
            · simp only [Act.put, List.setIfInBounds_toArray, List.set_cons_zero, List.set_cons_succ]
              rfl
            refine StillAt.take' (i := 29) (v := ?_) (a' := ?_) HLq rfl (by rfl) ?_ ?_ ?_
            rotate_left 2
            · go_simp
              all_goals (with_reducible rfl)
            · simp only [Act.put, List.setIfInBounds_toArray, List.set_cons_zero, List.set_cons_succ]
              rfl
            refine StillAt.take' (i := 30) (v := ?_) (a' := ?_) HLq rfl (by rfl) ?_ ?_ ?_
            rotate_left 2
            · go_simp
              all_goals (with_reducible rfl)
            · simp only [Act.put, List.setIfInBounds_toArray, List.set_cons_zero, List.set_cons_succ]
              rfl
            refine StillAt.take' (i := 31) (v := ?_) (a' := ?_) HLq rfl (by rfl) ?_ ?_ ?_
            rotate_left 2
            · go_simp
              all_goals (with_reducible rfl)
            · simp only [Act.put, List.setIfInBounds_toArray, List.set_cons_zero, List.set_cons_succ]
              rfl
            refine StillAt.take' (i := 32) (v := ?_) (a' := ?_) HLq rfl (by rfl) ?_ ?_ ?_
            rotate_left 2
            · go_simp
              all_goals (with_reducible rfl)
            · simp only [Act.put, List.setIfInBounds_toArray, List.set_cons_zero, List.set_cons_succ]
              rfl
            refine StillAt.take' (i := 33) (v := ?_) (a' := ?_) HLq rfl (by rfl) ?_ ?_ ?_
            rotate_left 2
            · go_simp
              all_goals (with_reducible rfl)
            · simp only [Act.put, List.setIfInBounds_toArray, List.set_cons_zero, List.set_cons_succ]
              rfl
            refine StillAt.take' (i := 34) (v := ?_) (a' := ?_) HLq rfl (by rfl) ?_ ?_ ?_
            rotate_left 2
            · go_simp
              all_goals (with_reducible rfl)
            · simp only [Act.put, List.setIfInBounds_toArray, List.set_cons_zero, List.set_cons_succ]
              rfl
            refine StillAt.skip' (i := 35) (a' := ?_) HLq rfl (by rfl) ?_ ?_
            rotate_left 1
            · simp only [Act.put, List.setIfInBounds_toArray, List.set_cons_zero, List.set_cons_succ]
              rfl
            refine StillAt.skip' (i := 36) (a' := ?_) HLq rfl (by rfl) ?_ ?_
            rotate_left 1
            · simp only [Act.put, List.setIfInBounds_toArray, List.set_cons_zero, List.set_cons_succ]
              rfl
            refine StillAt.skip' (i := 37) (a' := ?_) HLq rfl (by rfl) ?_ ?_
            rotate_left 1
            · simp only [Act.put, List.setIfInBounds_toArray, List.set_cons_zero, List.set_cons_succ]
              rfl
            refine StillAt.take' (i := 38) (v := ?_) (a' := ?_) HLq rfl (by rfl) ?_ ?_ ?_
            rotate_left 2
            · go_simp
              all_goals (with_reducible rfl)
            · simp only [Act.put, List.setIfInBounds_toArray, List.set_cons_zero, List.set_cons_succ]
              rfl
            refine StillAt.done' HLq rfl ?_
            refine HQq.out _ ?_
            clear HQq HLq Qq lq
            go_wp2_with (go_at_call 51; refine (refsign_calls b s a _ c _ (RSt.bad HN.out.st) hs (by omega)).mono ?_; rintro e wq ⟨rfl, hg, hst⟩)
            go_ret
            exact numR_end HN.out (fun _ h => hd2 h.2.1) hg hst (by simp)
          | false =>
            subst hbad
            by_cases hae : a = at_
            · have ie : ((a : Int) == (at_ : Int)) = true := by simp [hae]
              subst hae
              go_wp2_with fail
              refine still_whole (by kernel_rfl) (by kernel_rfl) (fun lq Qq HLq HQq => ?_)
              refine StillAt.take' (i := 0) (v := ?_) (a' := ?_) HLq rfl (by rfl) ?_ ?_ ?_
              rotate_left 2
              · go_simp
                all_goals (with_reducible rfl)
              · simp only [Act.put, List.setIfInBounds_toArray, List.set_cons_zero, List.set_cons_succ]
                rfl
              refine StillAt.take' (i := 1) (v := ?_) (a' := ?_) HLq rfl (by rfl) ?_ ?_ ?_
              rotate_left 2
              · go_simp
                all_goals (with_reducible rfl)
              · simp only [Act.put, List.setIfInBounds_toArray, List.set_cons_zero, List.set_cons_succ]
                rfl
              refine StillAt.take' (i := 2) (v := ?_) (a' := ?_) HLq rfl (by rfl) ?_ ?_ ?_
              rotate_left 2
              · go_simp
                all_goals (with_reducible rfl)
              · simp only [Act.put, List.setIfInBounds_toArray, List.set_cons_zero, List.set_cons_succ]
                rfl
              refine StillAt.take' (i := 3) (v := ?_) (a' := ?_) HLq rfl (by rfl) ?_ ?_ ?_
              rotate_left 2
              · go_simp
                all_goals (with_reducible rfl)
              · simp only [Act.put, List.setIfInBounds_toArray, List.set_cons_zero, List.set_cons_succ]
                rfl
              refine StillAt.take' (i := 4) (v := ?_) (a' := ?_) HLq rfl (by rfl) ?_ ?_ ?_
              rotate_left 2
              · go_simp
                all_goals (with_reducible rfl)
              · simp only [Act.put, List.setIfInBounds_toArray, List.set_cons_zero, List.set_cons_succ]
                rfl
              refine StillAt.take' (i := 5) (v := ?_) (a' := ?_) HLq rfl (by rfl) ?_ ?_ ?_
              rotate_left 2
              · go_simp
                all_goals (with_reducible rfl)
              · simp only [Act.put, List.setIfInBounds_toArray, List.set_cons_zero, List.set_cons_succ]
                rfl
              refine StillAt.take' (i := 6) (v := ?_) (a' := ?_) HLq rfl (by rfl) ?_ ?_ ?_
              rotate_left 2
              · go_simp
                all_goals (with_reducible rfl)
              · simp only [Act.put, List.setIfInBounds_toArray, List.set_cons_zero, List.set_cons_succ]
                rfl
              refine StillAt.take' (i := 7) (v := ?_) (a' := ?_) HLq rfl (by rfl) ?_ ?_ ?_
              rotate_left 2
              · go_simp
                all_goals (with_reducible rfl)
              · simp only [Act.put, List.setIfInBounds_toArray, List.set_cons_zero, List.set_cons_succ]
                rfl
              refine StillAt.take' (i := 8) (v := ?_) (a' := ?_) HLq rfl (by rfl) ?_ ?_ ?_
              rotate_left 2
              · go_simp
                all_goals (with_reducible rfl)
              · simp only [Act.put, List.setIfInBounds_toArray, List.set_cons_zero, List.set_cons_succ]
                rfl
              refine StillAt.take' (i := 9) (v := ?_) (a' := ?_) HLq rfl (by rfl) ?_ ?_ ?_
              rotate_left 2
              · go_simp
                all_goals (with_reducible rfl)
              · simp only [Act.put, List.setIfInBounds_toArray, List.set_cons_zero, List.set_cons_succ]
                rfl
              refine StillAt.take' (i := 10) (v := ?_) (a' := ?_) HLq rfl (by rfl) ?_ ?_ ?_
              rotate_left 2
              · go_simp
                all_goals (with_reducible rfl)
              · simp only [Act.put, List.setIfInBounds_toArray, List.set_cons_zero, List.set_cons_succ]
                rfl
              refine StillAt.take' (i := 11) (v := ?_) (a' := ?_) HLq rfl (by rfl) ?_ ?_ ?_
              rotate_left 2
              · go_simp
                all_goals (with_reducible rfl)
              · simp only [Act.put, List.setIfInBounds_toArray, List.set_cons_zero, List.set_cons_succ]
                rfl
              refine StillAt.take' (i := 12) (v := ?_) (a' := ?_) HLq rfl (by rfl) ?_ ?_ ?_
              rotate_left 2
              · go_simp
                all_goals (with_reducible rfl)
              · simp only [Act.put, List.setIfInBounds_toArray, List.set_cons_zero, List.set_cons_succ]
                rfl
              refine StillAt.take' (i := 13) (v := ?_) (a' := ?_) HLq rfl (by rfl) ?_ ?_ ?_
              rotate_left 2
              · go_simp
                all_goals (with_reducible rfl)
              · simp only [Act.put, List.setIfInBounds_toArray, List.set_cons_zero, List.set_cons_succ]
                rfl
              refine StillAt.take' (i := 14) (v := ?_) (a' := ?_) HLq rfl (by rfl) ?_ ?_ ?_
              rotate_left 2
              · go_simp
                all_goals (with_reducible rfl)
              · simp only [Act.put, List.setIfInBounds_toArray, List.set_cons_zero, List.set_cons_succ]
                rfl
              refine StillAt.take' (i := 15) (v := ?_) (a' := ?_) HLq rfl (by rfl) ?_ ?_ ?_
              rotate_left 2
              · go_simp
                all_goals (with_reducible rfl)
              · simp only [Act.put, List.setIfInBounds_toArray, List.set_cons_zero, List.set_cons_succ]
                rfl
              refine StillAt.take' (i := 16) (v := ?_) (a' := ?_) HLq rfl (by rfl) ?_ ?_ ?_
              rotate_left 2
              · go_simp
                all_goals (with_reducible rfl)
              · simp only [Act.put, List.setIfInBounds_toArray, List.set_cons_zero, List.set_cons_succ]
                rfl
              refine StillAt.take' (i := 17) (v := ?_) (a' := ?_) HLq rfl (by rfl) ?_ ?_ ?_
              rotate_left 2
              · go_simp
                all_goals (with_reducible rfl)
              · simp only [Act.put, List.setIfInBounds_toArray, List.set_cons_zero, List.set_cons_succ]
                rfl
              refine StillAt.take' (i := 18) (v := ?_) (a' := ?_) HLq rfl (by rfl) ?_ ?_ ?_
              rotate_left 2
              · go_simp
                all_goals (with_reducible rfl)
              · simp only [Act.put, List.setIfInBounds_toArray, List.set_cons_zero, List.set_cons_succ]
                rfl
              refine StillAt.take' (i := 19) (v := ?_) (a' := ?_) HLq rfl (by rfl) ?_ ?_ ?_
              rotate_left 2
              · go_simp
                all_goals (with_reducible rfl)
              · simp only [Act.put, List.setIfInBounds_toArray, List.set_cons_zero, List.set_cons_succ]
                rfl
              refine StillAt.take' (i := 20) (v := ?_) (a' := ?_) HLq rfl (by rfl) ?_ ?_ ?_
              rotate_left 2
              · go_simp
                all_goals (with_reducible rfl)
              · simp only [Act.put, List.setIfInBounds_toArray, List.set_cons_zero, List.set_cons_succ]
                rfl
              refine StillAt.take' (i := 21) (v := ?_) (a' := ?_) HLq rfl (by rfl) ?_ ?_ ?_
              rotate_left 2
              · go_simp
                all_goals (with_reducible rfl)
              · simp only [Act.put, List.setIfInBounds_toArray, List.set_cons_zero, List.set_cons_succ]
                rfl
              refine StillAt.take' (i := 22) (v := ?_) (a' := ?_) HLq rfl (by rfl) ?_ ?_ ?_
              rotate_left 2
              · go_simp
                all_goals (with_reducible rfl)
              · simp only [Act.put, List.setIfInBounds_toArray, List.set_cons_zero, List.set_cons_succ]
                rfl
              refine StillAt.take' (i := 23) (v := ?_) (a' := ?_) HLq rfl (by rfl) ?_ ?_ ?_
              rotate_left 2
              · go_simp
                all_goals (with_reducible rfl)
              · simp only [Act.put, List.setIfInBounds_toArray, List.set_cons_zero, List.set_cons_succ]
                rfl
              refine StillAt.take' (i := 24) (v := ?_) (a' := ?_) HLq rfl (by rfl) ?_ ?_ ?_
              rotate_left 2
              · go_simp
                all_goals (with_reducible rfl)
              · simp only [Act.put, List.setIfInBounds_toArray, List.set_cons_zero, List.set_cons_succ]
                rfl
              refine StillAt.take' (i := 25) (v := ?_) (a' := ?_) HLq rfl (by rfl) ?_ ?_ ?_
              rotate_left 2
              · go_simp
                all_goals (with_reducible rfl)
              · simp only [Act.put, List.setIfInBounds_toArray, List.set_cons_zero, List.set_cons_succ]
                rfl
              refine StillAt.take' (i := 26) (v := ?_) (a' := ?_) HLq rfl (by rfl) ?_ ?_ ?_
              rotate_left 2
              · go_simp
                all_goals (with_reducible rfl)
              · simp only [Act.put, List.setIfInBounds_toArray, List.set_cons_zero, List.set_cons_succ]
                rfl
              refine StillAt.take' (i := 27) (v := ?_) (a' := ?_) HLq rfl (by rfl) ?_ ?_ ?_
              rotate_left 2
              · go_simp
                all_goals (with_reducible rfl)
              · simp only [Act.put, List.setIfInBounds_toArray, List.set_cons_zero, List.set_cons_succ]
                rfl
              refine StillAt.take' (i := 28) (v := ?_) (a' := ?_) HLq rfl (by rfl) ?_ ?_ ?_
              rotate_left 2
              · go_simp
                all_goals (with_reducible rfl)
              · simp only [Act.put, List.setIfInBounds_toArray, List.set_cons_zero, List.set_cons_succ]
                rfl
              refine StillAt.take' (i := 29) (v := ?_) (a' := ?_) HLq rfl (by rfl) ?_ ?_ ?_
              rotate_left 2
              · go_simp
                all_goals (with_reducible rfl)
              · simp only [Act.put, List.setIfInBounds_toArray, List.set_cons_zero, List.set_cons_succ]
                rfl
              refine StillAt.take' (i := 30) (v := ?_) (a' := ?_) HLq rfl (by rfl) ?_ ?_ ?_
              rotate_left 2
              · go_simp
                all_goals (with_reducible rfl)
              · simp only [Act.put, List.setIfInBounds_toArray, List.set_cons_zero, List.set_cons_succ]
                rfl
              refine StillAt.take' (i := 31) (v := ?_) (a' := ?_) HLq rfl (by rfl) ?_ ?_ ?_
              rotate_left 2
              · go_simp
                all_goals (with_reducible rfl)
              · simp only [Act.put, List.setIfInBounds_toArray, List.set_cons_zero, List.set_cons_succ]
                rfl
              refine StillAt.take' (i := 32) (v := ?_) (a' := ?_) HLq rfl (by rfl) ?_ ?_ ?_
              rotate_left 2
              · go_simp
                all_goals (with_reducible rfl)
              · simp only [Act.put, List.setIfInBounds_toArray, List.set_cons_zero, List.set_cons_succ]
                rfl
              refine StillAt.take' (i := 33) (v := ?_) (a' := ?_) HLq rfl (by rfl) ?_ ?_ ?_
              rotate_left 2
              · go_simp
                all_goals (with_reducible rfl)
              · simp only [Act.put, List.setIfInBounds_toArray, List.set_cons_zero, List.set_cons_succ]
                rfl
              refine StillAt.take' (i := 34) (v := ?_) (a' := ?_) HLq rfl (by rfl) ?_ ?_ ?_
              rotate_left 2
              · go_simp
                all_goals (with_reducible rfl)
              · simp only [Act.put, List.setIfInBounds_toArray, List.set_cons_zero, List.set_cons_succ]
                rfl
              refine StillAt.skip' (i := 35) (a' := ?_) HLq rfl (by rfl) ?_ ?_
              rotate_left 1
              · simp only [Act.put, List.setIfInBounds_toArray, List.set_cons_zero, List.set_cons_succ]
                rfl
              refine StillAt.skip' (i := 36) (a' := ?_) HLq rfl (by rfl) ?_ ?_
              rotate_left 1
              · simp only [Act.put, List.setIfInBounds_toArray, List.set_cons_zero, List.set_cons_succ]
                rfl
              refine StillAt.skip' (i := 37) (a' := ?_) HLq rfl (by rfl) ?_ ?_
              rotate_left 1
              · simp only [Act.put, List.setIfInBounds_toArray, List.set_cons_zero, List.set_cons_succ]
                rfl
              refine StillAt.take' (i := 38) (v := ?_) (a' := ?_) HLq rfl (by rfl) ?_ ?_ ?_
              rotate_left 2
              · go_simp
                all_goals (with_reducible rfl)
              · simp only [Act.put, List.setIfInBounds_toArray, List.set_cons_zero, List.set_cons_succ]
                rfl
              refine StillAt.done' HLq rfl ?_
              refine HQq.out _ ?_
              clear HQq HLq Qq lq
              go_wp2_with (go_at_call 51; refine (refsign_calls b s a _ c _ (RSt.bad HN.out.st) hs (by omega)).mono ?_; rintro e wq ⟨rfl, hg, hst⟩)
              go_ret
              exact numR_end HN.out (fun _ h => hd2 h.2.1) hg hst (by simp)
            · have ie : ((a : Int) == (at_ : Int)) = false := by simp; omega
              go_wp2_with fail
              refine still_whole (by kernel_rfl) (by kernel_rfl) (fun lq Qq HLq HQq => ?_)
              refine StillAt.take' (i := 0) (v := ?_) (a' := ?_) HLq rfl (by rfl) ?_ ?_ ?_
              rotate_left 2
              · go_simp
                all_goals (with_reducible rfl)
              · simp only [Act.put, List.setIfInBounds_toArray, List.set_cons_zero, List.set_cons_succ]
                rfl
              refine StillAt.take' (i := 1) (v := ?_) (a' := ?_) HLq rfl (by rfl) ?_ ?_ ?_
              rotate_left 2
              · go_simp
                all_goals (with_reducible rfl)
              · simp only [Act.put, List.setIfInBounds_toArray, List.set_cons_zero, List.set_cons_succ]
                rfl
              refine StillAt.take' (i := 2) (v := ?_) (a' := ?_) HLq rfl (by rfl) ?_ ?_ ?_
              rotate_left 2
              · go_simp
                all_goals (with_reducible rfl)
              · simp only [Act.put, List.setIfInBounds_toArray, List.set_cons_zero, List.set_cons_succ]
                rfl
              refine StillAt.take' (i := 3) (v := ?_) (a' := ?_) HLq rfl (by rfl) ?_ ?_ ?_
              rotate_left 2
              · go_simp
                all_goals (with_reducible rfl)
              · simp only [Act.put, List.setIfInBounds_toArray, List.set_cons_zero, List.set_cons_succ]
                rfl
              refine StillAt.take' (i := 4) (v := ?_) (a' := ?_) HLq rfl (by rfl) ?_ ?_ ?_
              rotate_left 2
              · go_simp
                all_goals (with_reducible rfl)
              · simp only [Act.put, List.setIfInBounds_toArray, List.set_cons_zero, List.set_cons_succ]
                rfl
              refine StillAt.take' (i := 5) (v := ?_) (a' := ?_) HLq rfl (by rfl) ?_ ?_ ?_
              rotate_left 2
              · go_simp
                all_goals (with_reducible rfl)
              · simp only [Act.put, List.setIfInBounds_toArray, List.set_cons_zero, List.set_cons_succ]
                rfl
              refine StillAt.take' (i := 6) (v := ?_) (a' := ?_) HLq rfl (by rfl) ?_ ?_ ?_
              rotate_left 2
              · go_simp
                all_goals (with_reducible rfl)
              · simp only [Act.put, List.setIfInBounds_toArray, List.set_cons_zero, List.set_cons_succ]
                rfl
              refine StillAt.take' (i := 7) (v := ?_) (a' := ?_) HLq rfl (by rfl) ?_ ?_ ?_
              rotate_left 2
              · go_simp
                all_goals (with_reducible rfl)
              · simp only [Act.put, List.setIfInBounds_toArray, List.set_cons_zero, List.set_cons_succ]
                rfl
              refine StillAt.take' (i := 8) (v := ?_) (a' := ?_) HLq rfl (by rfl) ?_ ?_ ?_
              rotate_left 2
              · go_simp
                all_goals (with_reducible rfl)
              · simp only [Act.put, List.setIfInBounds_toArray, List.set_cons_zero, List.set_cons_succ]
                rfl
              refine StillAt.take' (i := 9) (v := ?_) (a' := ?_) HLq rfl (by rfl) ?_ ?_ ?_
              rotate_left 2
              · go_simp
                all_goals (with_reducible rfl)
              · simp only [Act.put, List.setIfInBounds_toArray, List.set_cons_zero, List.set_cons_succ]
                rfl
              refine StillAt.take' (i := 10) (v := ?_) (a' := ?_) HLq rfl (by rfl) ?_ ?_ ?_
              rotate_left 2
              · go_simp
                all_goals (with_reducible rfl)
              · simp only [Act.put, List.setIfInBounds_toArray, List.set_cons_zero, List.set_cons_succ]
                rfl
              refine StillAt.take' (i := 11) (v := ?_) (a' := ?_) HLq rfl (by rfl) ?_ ?_ ?_
              rotate_left 2
              · go_simp
                all_goals (with_reducible rfl)
              · simp only [Act.put, List.setIfInBounds_toArray, List.set_cons_zero, List.set_cons_succ]
                rfl
              refine StillAt.take' (i := 12) (v := ?_) (a' := ?_) HLq rfl (by rfl) ?_ ?_ ?_
              rotate_left 2
              · go_simp
                all_goals (with_reducible rfl)
              · simp only [Act.put, List.setIfInBounds_toArray, List.set_cons_zero, List.set_cons_succ]
                rfl
              refine StillAt.take' (i := 13) (v := ?_) (a' := ?_) HLq rfl (by rfl) ?_ ?_ ?_
              rotate_left 2
              · go_simp
                all_goals (with_reducible rfl)
              · simp only [Act.put, List.setIfInBounds_toArray, List.set_cons_zero, List.set_cons_succ]
                rfl
              refine StillAt.take' (i := 14) (v := ?_) (a' := ?_) HLq rfl (by rfl) ?_ ?_ ?_
              rotate_left 2
              · go_simp
                all_goals (with_reducible rfl)
              · simp only [Act.put, List.setIfInBounds_toArray, List.set_cons_zero, List.set_cons_succ]
                rfl
              refine StillAt.take' (i := 15) (v := ?_) (a' := ?_) HLq rfl (by rfl) ?_ ?_ ?_
              rotate_left 2
              · go_simp
                all_goals (with_reducible rfl)
              · simp only [Act.put, List.setIfInBounds_toArray, List.set_cons_zero, List.set_cons_succ]
                rfl
              refine StillAt.take' (i := 16) (v := ?_) (a' := ?_) HLq rfl (by rfl) ?_ ?_ ?_
              rotate_left 2
              · go_simp
                all_goals (with_reducible rfl)
              · simp only [Act.put, List.setIfInBounds_toArray, List.set_cons_zero, List.set_cons_succ]
                rfl
              refine StillAt.take' (i := 17) (v := ?_) (a' := ?_) HLq rfl (by rfl) ?_ ?_ ?_
              rotate_left 2
              · go_simp
                all_goals (with_reducible rfl)
              · simp only [Act.put, List.setIfInBounds_toArray, List.set_cons_zero, List.set_cons_succ]
                rfl
              refine StillAt.take' (i := 18) (v := ?_) (a' := ?_) HLq rfl (by rfl) ?_ ?_ ?_
              rotate_left 2
              · go_simp
                all_goals (with_reducible rfl)
              · simp only [Act.put, List.setIfInBounds_toArray, List.set_cons_zero, List.set_cons_succ]
                rfl
              refine StillAt.take' (i := 19) (v := ?_) (a' := ?_) HLq rfl (by rfl) ?_ ?_ ?_
              rotate_left 2
              · go_simp
                all_goals (with_reducible rfl)
              · simp only [Act.put, List.setIfInBounds_toArray, List.set_cons_zero, List.set_cons_succ]
                rfl
              refine StillAt.take' (i := 20) (v := ?_) (a' := ?_) HLq rfl (by rfl) ?_ ?_ ?_
              rotate_left 2
              · go_simp
                all_goals (with_reducible rfl)
              · simp only [Act.put, List.setIfInBounds_toArray, List.set_cons_zero, List.set_cons_succ]
                rfl
              refine StillAt.take' (i := 21) (v := ?_) (a' := ?_) HLq rfl (by rfl) ?_ ?_ ?_
              rotate_left 2
              · go_simp
                all_goals (with_reducible rfl)
              · simp only [Act.put, List.setIfInBounds_toArray, List.set_cons_zero, List.set_cons_succ]
                rfl
              refine StillAt.take' (i := 22) (v := ?_) (a' := ?_) HLq rfl (by rfl) ?_ ?_ ?_
              rotate_left 2
              · go_simp
                all_goals (with_reducible rfl)
              · simp only [Act.put, List.setIfInBounds_toArray, List.set_cons_zero, List.set_cons_succ]
                rfl
              refine StillAt.take' (i := 23) (v := ?_) (a' := ?_) HLq rfl (by rfl) ?_ ?_ ?_
              rotate_left 2
              · go_simp
                all_goals (with_reducible rfl)
              · simp only [Act.put, List.setIfInBounds_toArray, List.set_cons_zero, List.set_cons_succ]
                rfl
              refine StillAt.take' (i := 24) (v := ?_) (a' := ?_) HLq rfl (by rfl) ?_ ?_ ?_
              rotate_left 2
              · go_simp
                all_goals (with_reducible rfl)
              · simp only [Act.put, List.setIfInBounds_toArray, List.set_cons_zero, List.set_cons_succ]
                rfl
              refine StillAt.take' (i := 25) (v := ?_) (a' := ?_) HLq rfl (by rfl) ?_ ?_ ?_
              rotate_left 2
              · go_simp
                all_goals (with_reducible rfl)
              · simp only [Act.put, List.setIfInBounds_toArray, List.set_cons_zero, List.set_cons_succ]
                rfl
              refine StillAt.take' (i := 26) (v := ?_) (a' := ?_) HLq rfl (by rfl) ?_ ?_ ?_
              rotate_left 2
              · go_simp
                all_goals (with_reducible rfl)
              · simp only [Act.put, List.setIfInBounds_toArray, List.set_cons_zero, List.set_cons_succ]
                rfl
              refine StillAt.take' (i := 27) (v := ?_) (a' := ?_) HLq rfl (by rfl) ?_ ?_ ?_
              rotate_left 2
              · go_simp
                all_goals (with_reducible rfl)
              · simp only [Act.put, List.setIfInBounds_toArray, List.set_cons_zero, List.set_cons_succ]
                rfl
              refine StillAt.take' (i := 28) (v := ?_) (a' := ?_) HLq rfl (by rfl) ?_ ?_ ?_
              rotate_left 2
              · go_simp
                all_goals (with_reducible rfl)
              · simp only [Act.put, List.setIfInBounds_toArray, List.set_cons_zero, List.set_cons_succ]
                rfl
              refine StillAt.take' (i := 29) (v := ?_) (a' := ?_) HLq rfl (by rfl) ?_ ?_ ?_
              rotate_left 2
              · go_simp
                all_goals (with_reducible rfl)
              · simp only [Act.put, List.setIfInBounds_toArray, List.set_cons_zero, List.set_cons_succ]
                rfl
              refine StillAt.take' (i := 30) (v := ?_) (a' := ?_) HLq rfl (by rfl) ?_ ?_ ?_
              rotate_left 2
              · go_simp
                all_goals (with_reducible rfl)
              · simp only [Act.put, List.setIfInBounds_toArray, List.set_cons_zero, List.set_cons_succ]
                rfl
              refine StillAt.take' (i := 31) (v := ?_) (a' := ?_) HLq rfl (by rfl) ?_ ?_ ?_
              rotate_left 2
              · go_simp
                all_goals (with_reducible rfl)
              · simp only [Act.put, List.setIfInBounds_toArray, List.set_cons_zero, List.set_cons_succ]
                rfl
              refine StillAt.take' (i := 32) (v := ?_) (a' := ?_) HLq rfl (by rfl) ?_ ?_ ?_
              rotate_left 2
              · go_simp
                all_goals (with_reducible rfl)
              · simp only [Act.put, List.setIfInBounds_toArray, List.set_cons_zero, List.set_cons_succ]
                rfl
              refine StillAt.take' (i := 33) (v := ?_) (a' := ?_) HLq rfl (by rfl) ?_ ?_ ?_
              rotate_left 2
              · go_simp
                all_goals (with_reducible rfl)
              · simp only [Act.put, List.setIfInBounds_toArray, List.set_cons_zero, List.set_cons_succ]
                rfl
              refine StillAt.take' (i := 34) (v := ?_) (a' := ?_) HLq rfl (by rfl) ?_ ?_ ?_
              rotate_left 2
              · go_simp
                all_goals (with_reducible rfl)
              · simp only [Act.put, List.setIfInBounds_toArray, List.set_cons_zero, List.set_cons_succ]
                rfl
              refine StillAt.skip' (i := 35) (a' := ?_) HLq rfl (by rfl) ?_ ?_
              rotate_left 1
              · simp only [Act.put, List.setIfInBounds_toArray, List.set_cons_zero, List.set_cons_succ]
                rfl
              refine StillAt.skip' (i := 36) (a' := ?_) HLq rfl (by rfl) ?_ ?_
              rotate_left 1
              · simp only [Act.put, List.setIfInBounds_toArray, List.set_cons_zero, List.set_cons_succ]
                rfl
              refine StillAt.skip' (i := 37) (a' := ?_) HLq rfl (by rfl) ?_ ?_
              rotate_left 1
              · simp only [Act.put, List.setIfInBounds_toArray, List.set_cons_zero, List.set_cons_succ]
                rfl
              refine StillAt.take' (i := 38) (v := ?_) (a' := ?_) HLq rfl (by rfl) ?_ ?_ ?_
              rotate_left 2
              · go_simp
                all_goals (with_reducible rfl)
              · simp only [Act.put, List.setIfInBounds_toArray, List.set_cons_zero, List.set_cons_succ]
                rfl
              refine StillAt.done' HLq rfl ?_
              refine HQq.out _ ?_
              clear HQq HLq Qq lq
              go_wp2_with (go_at_call 51; refine (refsign_calls b s a _ c _ (RSt.bad HN.out.st) hs (by omega)).mono ?_; rintro e wq ⟨rfl, hg, hst⟩)
              go_ret
              exact numR_end HN.out (fun _ h => hd2 h.2.1) hg hst (by simp [hae])
      · have i2 : decide ((48 : Int) ≤ (s[a].toNat : Int)) = false := decide_eq_false (by omega)
        cases hbad : bad with
        | true =>
          subst hbad
          go_wp2_with fail
          refine still_whole (by kernel_rfl) (by kernel_rfl) (fun lq Qq HLq HQq => ?_)
          refine StillAt.take' (i := 0) (v := ?_) (a' := ?_) HLq rfl (by rfl) ?_ ?_ ?_
          rotate_left 2
          · go_simp
            all_goals (with_reducible rfl)
          · simp only [Act.put, List.setIfInBounds_toArray, List.set_cons_zero, List.set_cons_succ]
            rfl
          refine StillAt.take' (i := 1) (v := ?_) (a' := ?_) HLq rfl (by rfl) ?_ ?_ ?_
          rotate_left 2
          · go_simp
            all_goals (with_reducible rfl)
          · simp only [Act.put, List.setIfInBounds_toArray, List.set_cons_zero, List.set_cons_succ]
            rfl
          refine StillAt.take' (i := 2) (v := ?_) (a' := ?_) HLq rfl (by rfl) ?_ ?_ ?_
          rotate_left 2
          · go_simp
            all_goals (with_reducible rfl)
          · simp only [Act.put, List.setIfInBounds_toArray, List.set_cons_zero, List.set_cons_succ]
            rfl
          refine StillAt.take' (i := 3) (v := ?_) (a' := ?_) HLq rfl (by rfl) ?_ ?_ ?_
          rotate_left 2
          · go_simp
            all_goals (with_reducible rfl)
          · simp only [Act.put, List.setIfInBounds_toArray, List.set_cons_zero, List.set_cons_succ]
            rfl
          refine StillAt.take' (i := 4) (v := ?_) (a' := ?_) HLq rfl (by rfl) ?_ ?_ ?_
          rotate_left 2
          · go_simp
            all_goals (with_reducible rfl)
          · simp only [Act.put, List.setIfInBounds_toArray, List.set_cons_zero, List.set_cons_succ]
            rfl
          refine StillAt.take' (i := 5) (v := ?_) (a' := ?_) HLq rfl (by rfl) ?_ ?_ ?_
          rotate_left 2
          · go_simp
            all_goals (with_reducible rfl)
          · simp only [Act.put, List.setIfInBounds_toArray, List.set_cons_zero, List.set_cons_succ]
            rfl
          refine StillAt.take' (i := 6) (v := ?_) (a' := ?_) HLq rfl (by rfl) ?_ ?_ ?_
          rotate_left 2
          · go_simp
            all_goals (with_reducible rfl)
          · simp only [Act.put, List.setIfInBounds_toArray, List.set_cons_zero, List.set_cons_succ]
            rfl
          refine StillAt.take' (i := 7) (v := ?_) (a' := ?_) HLq rfl (by rfl) ?_ ?_ ?_
          rotate_left 2
          · go_simp
            all_goals (with_reducible rfl)
          · simp only [Act.put, List.setIfInBounds_toArray, List.set_cons_zero, List.set_cons_succ]
            rfl
          refine StillAt.take' (i := 8) (v := ?_) (a' := ?_) HLq rfl (by rfl) ?_ ?_ ?_
          rotate_left 2
          · go_simp
            all_goals (with_reducible rfl)
          · simp only [Act.put, List.setIfInBounds_toArray, List.set_cons_zero, List.set_cons_succ]
            rfl
          refine StillAt.take' (i := 9) (v := ?_) (a' := ?_) HLq rfl (by rfl) ?_ ?_ ?_
          rotate_left 2
          · go_simp
            all_goals (with_reducible rfl)
          · simp only [Act.put, List.setIfInBounds_toArray, List.set_cons_zero, List.set_cons_succ]
            rfl
          refine StillAt.take' (i := 10) (v := ?_) (a' := ?_) HLq rfl (by rfl) ?_ ?_ ?_
          rotate_left 2
          · go_simp
            all_goals (with_reducible rfl)
          · simp only [Act.put, List.setIfInBounds_toArray, List.set_cons_zero, List.set_cons_succ]
            rfl
          refine StillAt.take' (i := 11) (v := ?_) (a' := ?_) HLq rfl (by rfl) ?_ ?_ ?_
          rotate_left 2
          · go_simp
            all_goals (with_reducible rfl)
          · simp only [Act.put, List.setIfInBounds_toArray, List.set_cons_zero, List.set_cons_succ]
            rfl
          refine StillAt.take' (i := 12) (v := ?_) (a' := ?_) HLq rfl (by rfl) ?_ ?_ ?_
          rotate_left 2
          · go_simp
            all_goals (with_reducible rfl)
          · simp only [Act.put, List.setIfInBounds_toArray, List.set_cons_zero, List.set_cons_succ]
            rfl
          refine StillAt.take' (i := 13) (v := ?_) (a' := ?_) HLq rfl (by rfl) ?_ ?_ ?_
          rotate_left 2
          · go_simp
            all_goals (with_reducible rfl)
          · simp only [Act.put, List.setIfInBounds_toArray, List.set_cons_zero, List.set_cons_succ]
            rfl
          refine StillAt.take' (i := 14) (v := ?_) (a' := ?_) HLq rfl (by rfl) ?_ ?_ ?_
          rotate_left 2
          · go_simp
            all_goals (with_reducible rfl)
          · simp only [Act.put, List.setIfInBounds_toArray, List.set_cons_zero, List.set_cons_succ]
            rfl
          refine StillAt.take' (i := 15) (v := ?_) (a' := ?_) HLq rfl (by rfl) ?_ ?_ ?_
          rotate_left 2
          · go_simp
            all_goals (with_reducible rfl)
          · simp only [Act.put, List.setIfInBounds_toArray, List.set_cons_zero, List.set_cons_succ]
            rfl
          refine StillAt.take' (i := 16) (v := ?_) (a' := ?_) HLq rfl (by rfl) ?_ ?_ ?_
          rotate_left 2
          · go_simp
            all_goals (with_reducible rfl)
          · simp only [Act.put, List.setIfInBounds_toArray, List.set_cons_zero, List.set_cons_succ]
            rfl
          refine StillAt.take' (i := 17) (v := ?_) (a' := ?_) HLq rfl (by rfl) ?_ ?_ ?_
          rotate_left 2
          · go_simp
            all_goals (with_reducible rfl)
          · simp only [Act.put, List.setIfInBounds_toArray, List.set_cons_zero, List.set_cons_succ]
            rfl
          refine StillAt.take' (i := 18) (v := ?_) (a' := ?_) HLq rfl (by rfl) ?_ ?_ ?_
          rotate_left 2
          · go_simp
            all_goals (with_reducible rfl)
          · simp only [Act.put, List.setIfInBounds_toArray, List.set_cons_zero, List.set_cons_succ]
            rfl
          refine StillAt.take' (i := 19) (v := ?_) (a' := ?_) HLq rfl (by rfl) ?_ ?_ ?_
          rotate_left 2
          · go_simp
            all_goals (with_reducible rfl)
          · simp only [Act.put, List.setIfInBounds_toArray, List.set_cons_zero, List.set_cons_succ]
            rfl
          refine StillAt.take' (i := 20) (v := ?_) (a' := ?_) HLq rfl (by rfl) ?_ ?_ ?_
          rotate_left 2
          · go_simp
            all_goals (with_reducible rfl)
          · simp only [Act.put, List.setIfInBounds_toArray, List.set_cons_zero, List.set_cons_succ]
            rfl
          refine StillAt.take' (i := 21) (v := ?_) (a' := ?_) HLq rfl (by rfl) ?_ ?_ ?_
          rotate_left 2
          · go_simp
            all_goals (with_reducible rfl)
          · simp only [Act.put, List.setIfInBounds_toArray, List.set_cons_zero, List.set_cons_succ]
            rfl
          refine StillAt.take' (i := 22) (v := ?_) (a' := ?_) HLq rfl (by rfl) ?_ ?_ ?_
          rotate_left 2
          · go_simp
            all_goals (with_reducible rfl)
          · simp only [Act.put, List.setIfInBounds_toArray, List.set_cons_zero, List.set_cons_succ]
            rfl
          refine StillAt.skip' (i := 23) (a' := ?_) HLq rfl (by rfl) ?_ ?_
          rotate_left 1
          · simp only [Act.put, List.setIfInBounds_toArray, List.set_cons_zero, List.set_cons_succ]
            rfl
          refine StillAt.skip' (i := 24) (a' := ?_) HLq rfl (by rfl) ?_ ?_
          rotate_left 1
          · simp only [Act.put, List.setIfInBounds_toArray, List.set_cons_zero, List.set_cons_succ]
            rfl
          refine StillAt.skip' (i := 25) (a' := ?_) HLq rfl (by rfl) ?_ ?_
          rotate_left 1
          · simp only [Act.put, List.setIfInBounds_toArray, List.set_cons_zero, List.set_cons_succ]
            rfl
          refine StillAt.skip' (i := 26) (a' := ?_) HLq rfl (by rfl) ?_ ?_
          rotate_left 1
          · simp only [Act.put, List.setIfInBounds_toArray, List.set_cons_zero, List.set_cons_succ]
            rfl
          refine StillAt.skip' (i := 27) (a' := ?_) HLq rfl (by rfl) ?_ ?_
          rotate_left 1
          · simp only [Act.put, List.setIfInBounds_toArray, List.set_cons_zero, List.set_cons_succ]
            rfl
          refine StillAt.skip' (i := 28) (a' := ?_) HLq rfl (by rfl) ?_ ?_
          rotate_left 1
          · simp only [Act.put, List.setIfInBounds_toArray, List.set_cons_zero, List.set_cons_succ]
            rfl
          refine StillAt.skip' (i := 29) (a' := ?_) HLq rfl (by rfl) ?_ ?_
          rotate_left 1
          · simp only [Act.put, List.setIfInBounds_toArray, List.set_cons_zero, List.set_cons_succ]
            rfl
          refine StillAt.skip' (i := 30) (a' := ?_) HLq rfl (by rfl) ?_ ?_
          rotate_left 1
          · simp only [Act.put, List.setIfInBounds_toArray, List.set_cons_zero, List.set_cons_succ]
            rfl
          refine StillAt.skip' (i := 31) (a' := ?_) HLq rfl (by rfl) ?_ ?_
          rotate_left 1
          · simp only [Act.put, List.setIfInBounds_toArray, List.set_cons_zero, List.set_cons_succ]
            rfl
          refine StillAt.skip' (i := 32) (a' := ?_) HLq rfl (by rfl) ?_ ?_
          rotate_left 1
          · simp only [Act.put, List.setIfInBounds_toArray, List.set_cons_zero, List.set_cons_succ]
            rfl
          refine StillAt.take' (i := 33) (v := ?_) (a' := ?_) HLq rfl (by rfl) ?_ ?_ ?_
          rotate_left 2
          · go_simp
            all_goals (with_reducible rfl)
          · simp only [Act.put, List.setIfInBounds_toArray, List.set_cons_zero, List.set_cons_succ]
            rfl
          refine StillAt.take' (i := 34) (v := ?_) (a' := ?_) HLq rfl (by rfl) ?_ ?_ ?_
          rotate_left 2
          · go_simp
            all_goals (with_reducible rfl)
          · simp only [Act.put, List.setIfInBounds_toArray, List.set_cons_zero, List.set_cons_succ]
            rfl
          refine StillAt.skip' (i := 35) (a' := ?_) HLq rfl (by rfl) ?_ ?_
          rotate_left 1
          · simp only [Act.put, List.setIfInBounds_toArray, List.set_cons_zero, List.set_cons_succ]
            rfl
          refine StillAt.skip' (i := 36) (a' := ?_) HLq rfl (by rfl) ?_ ?_
          rotate_left 1
          · simp only [Act.put, List.setIfInBounds_toArray, List.set_cons_zero, List.set_cons_succ]
            rfl
          refine StillAt.skip' (i := 37) (a' := ?_) HLq rfl (by rfl) ?_ ?_
          rotate_left 1
          · simp only [Act.put, List.setIfInBounds_toArray, List.set_cons_zero, List.set_cons_succ]
            rfl
          refine StillAt.take' (i := 38) (v := ?_) (a' := ?_) HLq rfl (by rfl) ?_ ?_ ?_
          rotate_left 2
          · go_simp
            all_goals (with_reducible rfl)
          · simp only [Act.put, List.setIfInBounds_toArray, List.set_cons_zero, List.set_cons_succ]
            rfl
          refine StillAt.done' HLq rfl ?_
          refine HQq.out _ ?_
          clear HQq HLq Qq lq
          go_wp2_with (go_at_call 51; refine (refsign_calls b s a _ c _ (RSt.bad HN.out.st) hs (by omega)).mono ?_; rintro e wq ⟨rfl, hg, hst⟩)
          go_ret
          exact numR_end HN.out (fun _ h => hd1 h.1) hg hst (by simp)
        | false =>
          subst hbad
          by_cases hae : a = at_
          · have ie : ((a : Int) == (at_ : Int)) = true := by simp [hae]
            subst hae
            go_wp2_with fail
            refine still_whole (by kernel_rfl) (by kernel_rfl) (fun lq Qq HLq HQq => ?_)
            refine StillAt.take' (i := 0) (v := ?_) (a' := ?_) HLq rfl (by rfl) ?_ ?_ ?_
            rotate_left 2
            · go_simp
              all_goals (with_reducible rfl)
            · simp only [Act.put, List.setIfInBounds_toArray, List.set_cons_zero, List.set_cons_succ]
              rfl
            refine StillAt.take' (i := 1) (v := ?_) (a' := ?_) HLq rfl (by rfl) ?_ ?_ ?_
            rotate_left 2
            · go_simp
              all_goals (with_reducible rfl)
            · simp only [Act.put, List.setIfInBounds_toArray, List.set_cons_zero, List.set_cons_succ]
              rfl
            refine StillAt.take' (i := 2) (v := ?_) (a' := ?_) HLq rfl (by rfl) ?_ ?_ ?_
            rotate_left 2
            · go_simp
              all_goals (with_reducible rfl)
            · simp only [Act.put, List.setIfInBounds_toArray, List.set_cons_zero, List.set_cons_succ]
              rfl
            refine StillAt.take' (i := 3) (v := ?_) (a' := ?_) HLq rfl (by rfl) ?_ ?_ ?_
            rotate_left 2
            · go_simp
              all_goals (with_reducible rfl)
            · simp only [Act.put, List.setIfInBounds_toArray, List.set_cons_zero, List.set_cons_succ]
              rfl
            refine StillAt.take' (i := 4) (v := ?_) (a' := ?_) HLq rfl (by rfl) ?_ ?_ ?_
            rotate_left 2
            · go_simp
              all_goals (with_reducible rfl)
            · simp only [Act.put, List.setIfInBounds_toArray, List.set_cons_zero, List.set_cons_succ]
              rfl
            refine StillAt.take' (i := 5) (v := ?_) (a' := ?_) HLq rfl (by rfl) ?_ ?_ ?_
            rotate_left 2
            · go_simp
              all_goals (with_reducible rfl)
            · simp only [Act.put, List.setIfInBounds_toArray, List.set_cons_zero, List.set_cons_succ]
              rfl
            refine StillAt.take' (i := 6) (v := ?_) (a' := ?_) HLq rfl (by rfl) ?_ ?_ ?_
            rotate_left 2
            · go_simp
              all_goals (with_reducible rfl)
            · simp only [Act.put, List.setIfInBounds_toArray, List.set_cons_zero, List.set_cons_succ]
              rfl
            refine StillAt.take' (i := 7) (v := ?_) (a' := ?_) HLq rfl (by rfl) ?_ ?_ ?_
            rotate_left 2
            · go_simp
              all_goals (with_reducible rfl)
            · simp only [Act.put, List.setIfInBounds_toArray, List.set_cons_zero, List.set_cons_succ]
              rfl
            refine StillAt.take' (i := 8) (v := ?_) (a' := ?_) HLq rfl (by rfl) ?_ ?_ ?_
            rotate_left 2
            · go_simp
              all_goals (with_reducible rfl)
            · simp only [Act.put, List.setIfInBounds_toArray, List.set_cons_zero, List.set_cons_succ]
              rfl
            refine StillAt.take' (i := 9) (v := ?_) (a' := ?_) HLq rfl (by rfl) ?_ ?_ ?_
            rotate_left 2
            · go_simp
              all_goals (with_reducible rfl)
            · simp only [Act.put, List.setIfInBounds_toArray, List.set_cons_zero, List.set_cons_succ]
              rfl
            refine StillAt.take' (i := 10) (v := ?_) (a' := ?_) HLq rfl (by rfl) ?_ ?_ ?_
            rotate_left 2
            · go_simp
              all_goals (with_reducible rfl)
            · simp only [Act.put, List.setIfInBounds_toArray, List.set_cons_zero, List.set_cons_succ]
              rfl
            refine StillAt.take' (i := 11) (v := ?_) (a' := ?_) HLq rfl (by rfl) ?_ ?_ ?_
            rotate_left 2
            · go_simp
              all_goals (with_reducible rfl)
            · simp only [Act.put, List.setIfInBounds_toArray, List.set_cons_zero, List.set_cons_succ]
              rfl
            refine StillAt.take' (i := 12) (v := ?_) (a' := ?_) HLq rfl (by rfl) ?_ ?_ ?_
            rotate_left 2
            · go_simp
              all_goals (with_reducible rfl)
            · simp only [Act.put, List.setIfInBounds_toArray, List.set_cons_zero, List.set_cons_succ]
              rfl
            refine StillAt.take' (i := 13) (v := ?_) (a' := ?_) HLq rfl (by rfl) ?_ ?_ ?_
            rotate_left 2
            · go_simp
              all_goals (with_reducible rfl)
            · simp only [Act.put, List.setIfInBounds_toArray, List.set_cons_zero, List.set_cons_succ]
              rfl
            refine StillAt.take' (i := 14) (v := ?_) (a' := ?_) HLq rfl (by rfl) ?_ ?_ ?_
            rotate_left 2
            · go_simp
              all_goals (with_reducible rfl)
            · simp only [Act.put, List.setIfInBounds_toArray, List.set_cons_zero, List.set_cons_succ]
              rfl
            refine StillAt.take' (i := 15) (v := ?_) (a' := ?_) HLq rfl (by rfl) ?_ ?_ ?_
            rotate_left 2
            · go_simp
              all_goals (with_reducible rfl)
            · simp only [Act.put, List.setIfInBounds_toArray, List.set_cons_zero, List.set_cons_succ]
              rfl
            refine StillAt.take' (i := 16) (v := ?_) (a' := ?_) HLq rfl (by rfl) ?_ ?_ ?_
            rotate_left 2
            · go_simp
              all_goals (with_reducible rfl)
            · simp only [Act.put, List.setIfInBounds_toArray, List.set_cons_zero, List.set_cons_succ]
              rfl
            refine StillAt.take' (i := 17) (v := ?_) (a' := ?_) HLq rfl (by rfl) ?_ ?_ ?_
            rotate_left 2
            · go_simp
              all_goals (with_reducible rfl)
            · simp only [Act.put, List.setIfInBounds_toArray, List.set_cons_zero, List.set_cons_succ]
              rfl
            refine StillAt.take' (i := 18) (v := ?_) (a' := ?_) HLq rfl (by rfl) ?_ ?_ ?_
            rotate_left 2
            · go_simp
              all_goals (with_reducible rfl)
            · simp only [Act.put, List.setIfInBounds_toArray, List.set_cons_zero, List.set_cons_succ]
              rfl
            refine StillAt.take' (i := 19) (v := ?_) (a' := ?_) HLq rfl (by rfl) ?_ ?_ ?_
            rotate_left 2
            · go_simp
              all_goals (with_reducible rfl)
            · simp only [Act.put, List.setIfInBounds_toArray, List.set_cons_zero, List.set_cons_succ]
              rfl
            refine StillAt.take' (i := 20) (v := ?_) (a' := ?_) HLq rfl (by rfl) ?_ ?_ ?_
            rotate_left 2
            · go_simp
              all_goals (with_reducible rfl)
            · simp only [Act.put, List.setIfInBounds_toArray, List.set_cons_zero, List.set_cons_succ]
              rfl
            refine StillAt.take' (i := 21) (v := ?_) (a' := ?_) HLq rfl (by rfl) ?_ ?_ ?_
            rotate_left 2
            · go_simp
              all_goals (with_reducible rfl)
            · simp only [Act.put, List.setIfInBounds_toArray, List.set_cons_zero, List.set_cons_succ]
              rfl
            refine StillAt.take' (i := 22) (v := ?_) (a' := ?_) HLq rfl (by rfl) ?_ ?_ ?_
            rotate_left 2
            · go_simp
              all_goals (with_reducible rfl)
            · simp only [Act.put, List.setIfInBounds_toArray, List.set_cons_zero, List.set_cons_succ]
              rfl
            refine StillAt.skip' (i := 23) (a' := ?_) HLq rfl (by rfl) ?_ ?_
            rotate_left 1
            · simp only [Act.put, List.setIfInBounds_toArray, List.set_cons_zero, List.set_cons_succ]
              rfl
            refine StillAt.skip' (i := 24) (a' := ?_) HLq rfl (by rfl) ?_ ?_
            rotate_left 1
            · simp only [Act.put, List.setIfInBounds_toArray, List.set_cons_zero, List.set_cons_succ]
              rfl
            refine StillAt.skip' (i := 25) (a' := ?_) HLq rfl (by rfl) ?_ ?_
            rotate_left 1
            · simp only [Act.put, List.setIfInBounds_toArray, List.set_cons_zero, List.set_cons_succ]
              rfl
            refine StillAt.skip' (i := 26) (a' := ?_) HLq rfl (by rfl) ?_ ?_
            rotate_left 1
            · simp only [Act.put, List.setIfInBounds_toArray, List.set_cons_zero, List.set_cons_succ]
              rfl
            refine StillAt.skip' (i := 27) (a' := ?_) HLq rfl (by rfl) ?_ ?_
            rotate_left 1
            · simp only [Act.put, List.setIfInBounds_toArray, List.set_cons_zero, List.set_cons_succ]
              rfl
            refine StillAt.skip' (i := 28) (a' := ?_) HLq rfl (by rfl) ?_ ?_
            rotate_left 1
            · simp only [Act.put, List.setIfInBounds_toArray, List.set_cons_zero, List.set_cons_succ]
              rfl
            refine StillAt.skip' (i := 29) (a' := ?_) HLq rfl (by rfl) ?_ ?_
            rotate_left 1
            · simp only [Act.put, List.setIfInBounds_toArray, List.set_cons_zero, List.set_cons_succ]
              rfl
            refine StillAt.skip' (i := 30) (a' := ?_) HLq rfl (by rfl) ?_ ?_
            rotate_left 1
            · simp only [Act.put, List.setIfInBounds_toArray, List.set_cons_zero, List.set_cons_succ]
              rfl
            refine StillAt.skip' (i := 31) (a' := ?_) HLq rfl (by rfl) ?_ ?_
            rotate_left 1
            · simp only [Act.put, List.setIfInBounds_toArray, List.set_cons_zero, List.set_cons_succ]
              rfl
            refine StillAt.skip' (i := 32) (a' := ?_) HLq rfl (by rfl) ?_ ?_
            rotate_left 1
            · simp only [Act.put, List.setIfInBounds_toArray, List.set_cons_zero, List.set_cons_succ]
              rfl
            refine StillAt.take' (i := 33) (v := ?_) (a' := ?_) HLq rfl (by rfl) ?_ ?_ ?_
            rotate_left 2
            · go_simp
              all_goals (with_reducible rfl)
            · simp only [Act.put, List.setIfInBounds_toArray, List.set_cons_zero, List.set_cons_succ]
              rfl
            refine StillAt.take' (i := 34) (v := ?_) (a' := ?_) HLq rfl (by rfl) ?_ ?_ ?_
            rotate_left 2
            · go_simp
              all_goals (with_reducible rfl)
            · simp only [Act.put, List.setIfInBounds_toArray, List.set_cons_zero, List.set_cons_succ]
              rfl
            refine StillAt.skip' (i := 35) (a' := ?_) HLq rfl (by rfl) ?_ ?_
            rotate_left 1
            · simp only [Act.put, List.setIfInBounds_toArray, List.set_cons_zero, List.set_cons_succ]
              rfl
            refine StillAt.skip' (i := 36) (a' := ?_) HLq rfl (by rfl) ?_ ?_
            rotate_left 1
            · simp only [Act.put, List.setIfInBounds_toArray, List.set_cons_zero, List.set_cons_succ]
              rfl
            refine StillAt.skip' (i := 37) (a' := ?_) HLq rfl (by rfl) ?_ ?_
            rotate_left 1
            · simp only [Act.put, List.setIfInBounds_toArray, List.set_cons_zero, List.set_cons_succ]
              rfl
            refine StillAt.take' (i := 38) (v := ?_) (a' := ?_) HLq rfl (by rfl) ?_ ?_ ?_
            rotate_left 2
            · go_simp
              all_goals (with_reducible rfl)
            · simp only [Act.put, List.setIfInBounds_toArray, List.set_cons_zero, List.set_cons_succ]
              rfl
            refine StillAt.done' HLq rfl ?_
            refine HQq.out _ ?_
            clear HQq HLq Qq lq
            go_wp2_with (go_at_call 51; refine (refsign_calls b s a _ c _ (RSt.bad HN.out.st) hs (by omega)).mono ?_; rintro e wq ⟨rfl, hg, hst⟩)
            go_ret
            exact numR_end HN.out (fun _ h => hd1 h.1) hg hst (by simp)
          · have ie : ((a : Int) == (at_ : Int)) = false := by simp; omega
            go_wp2_with fail
            refine still_whole (by kernel_rfl) (by kernel_rfl) (fun lq Qq HLq HQq => ?_)
            refine StillAt.take' (i := 0) (v := ?_) (a' := ?_) HLq rfl (by rfl) ?_ ?_ ?_
            rotate_left 2
            · go_simp
              all_goals (with_reducible rfl)
            · simp only [Act.put, List.setIfInBounds_toArray, List.set_cons_zero, List.set_cons_succ]
              rfl
            refine StillAt.take' (i := 1) (v := ?_) (a' := ?_) HLq rfl (by rfl) ?_ ?_ ?_
            rotate_left 2
            · go_simp
              all_goals (with_reducible rfl)
            · simp only [Act.put, List.setIfInBounds_toArray, List.set_cons_zero, List.set_cons_succ]
              rfl
            refine StillAt.take' (i := 2) (v := ?_) (a' := ?_) HLq rfl (by rfl) ?_ ?_ ?_
            rotate_left 2
            · go_simp
              all_goals (with_reducible rfl)
            · simp only [Act.put, List.setIfInBounds_toArray, List.set_cons_zero, List.set_cons_succ]
              rfl
            refine StillAt.take' (i := 3) (v := ?_) (a' := ?_) HLq rfl (by rfl) ?_ ?_ ?_
            rotate_left 2
            · go_simp
              all_goals (with_reducible rfl)
            · simp only [Act.put, List.setIfInBounds_toArray, List.set_cons_zero, List.set_cons_succ]
              rfl
            refine StillAt.take' (i := 4) (v := ?_) (a' := ?_) HLq rfl (by rfl) ?_ ?_ ?_
            rotate_left 2
            · go_simp
              all_goals (with_reducible rfl)
            · simp only [Act.put, List.setIfInBounds_toArray, List.set_cons_zero, List.set_cons_succ]
              rfl
            refine StillAt.take' (i := 5) (v := ?_) (a' := ?_) HLq rfl (by rfl) ?_ ?_ ?_
            rotate_left 2
            · go_simp
              all_goals (with_reducible rfl)
            · simp only [Act.put, List.setIfInBounds_toArray, List.set_cons_zero, List.set_cons_succ]
              rfl
            refine StillAt.take' (i := 6) (v := ?_) (a' := ?_) HLq rfl (by rfl) ?_ ?_ ?_
            rotate_left 2
            · go_simp
              all_goals (with_reducible rfl)
            · simp only [Act.put, List.setIfInBounds_toArray, List.set_cons_zero, List.set_cons_succ]
              rfl
            refine StillAt.take' (i := 7) (v := ?_) (a' := ?_) HLq rfl (by rfl) ?_ ?_ ?_
            rotate_left 2
            · go_simp
              all_goals (with_reducible rfl)
            · simp only [Act.put, List.setIfInBounds_toArray, List.set_cons_zero, List.set_cons_succ]
              rfl
            refine StillAt.take' (i := 8) (v := ?_) (a' := ?_) HLq rfl (by rfl) ?_ ?_ ?_
            rotate_left 2
            · go_simp
              all_goals (with_reducible rfl)
            · simp only [Act.put, List.setIfInBounds_toArray, List.set_cons_zero, List.set_cons_succ]
              rfl
            refine StillAt.take' (i := 9) (v := ?_) (a' := ?_) HLq rfl (by rfl) ?_ ?_ ?_
            rotate_left 2
            · go_simp
              all_goals (with_reducible rfl)
            · simp only [Act.put, List.setIfInBounds_toArray, List.set_cons_zero, List.set_cons_succ]
              rfl
            refine StillAt.take' (i := 10) (v := ?_) (a' := ?_) HLq rfl (by rfl) ?_ ?_ ?_
            rotate_left 2
            · go_simp
              all_goals (with_reducible rfl)
            · simp only [Act.put, List.setIfInBounds_toArray, List.set_cons_zero, List.set_cons_succ]
              rfl
            refine StillAt.take' (i := 11) (v := ?_) (a' := ?_) HLq rfl (by rfl) ?_ ?_ ?_
            rotate_left 2
            · go_simp
              all_goals (with_reducible rfl)
            · simp only [Act.put, List.setIfInBounds_toArray, List.set_cons_zero, List.set_cons_succ]
              rfl
            refine StillAt.take' (i := 12) (v := ?_) (a' := ?_) HLq rfl (by rfl) ?_ ?_ ?_
            rotate_left 2
            · go_simp
              all_goals (with_reducible rfl)
            · simp only [Act.put, List.setIfInBounds_toArray, List.set_cons_zero, List.set_cons_succ]
              rfl
            refine StillAt.take' (i := 13) (v := ?_) (a' := ?_) HLq rfl (by rfl) ?_ ?_ ?_
            rotate_left 2
            · go_simp
              all_goals (with_reducible rfl)
            · simp only [Act.put, List.setIfInBounds_toArray, List.set_cons_zero, List.set_cons_succ]
              rfl
            refine StillAt.take' (i := 14) (v := ?_) (a' := ?_) HLq rfl (by rfl) ?_ ?_ ?_
            rotate_left 2
            · go_simp
              all_goals (with_reducible rfl)
            · simp only [Act.put, List.setIfInBounds_toArray, List.set_cons_zero, List.set_cons_succ]
              rfl
            refine StillAt.take' (i := 15) (v := ?_) (a' := ?_) HLq rfl (by rfl) ?_ ?_ ?_
            rotate_left 2
            · go_simp
              all_goals (with_reducible rfl)
            · simp only [Act.put, List.setIfInBounds_toArray, List.set_cons_zero, List.set_cons_succ]
              rfl
            refine StillAt.take' (i := 16) (v := ?_) (a' := ?_) HLq rfl (by rfl) ?_ ?_ ?_
            rotate_left 2
            · go_simp
              all_goals (with_reducible rfl)
            · simp only [Act.put, List.setIfInBounds_toArray, List.set_cons_zero, List.set_cons_succ]
              rfl
            refine StillAt.take' (i := 17) (v := ?_) (a' := ?_) HLq rfl (by rfl) ?_ ?_ ?_
            rotate_left 2
            · go_simp
              all_goals (with_reducible rfl)
            · simp only [Act.put, List.setIfInBounds_toArray, List.set_cons_zero, List.set_cons_succ]
              rfl
            refine StillAt.take' (i := 18) (v := ?_) (a' := ?_) HLq rfl (by rfl) ?_ ?_ ?_
            rotate_left 2
            · go_simp
              all_goals (with_reducible rfl)
            · simp only [Act.put, List.setIfInBounds_toArray, List.set_cons_zero, List.set_cons_succ]
              rfl
            refine StillAt.take' (i := 19) (v := ?_) (a' := ?_) HLq rfl (by rfl) ?_ ?_ ?_
            rotate_left 2
            · go_simp
              all_goals (with_reducible rfl)
            · simp only [Act.put, List.setIfInBounds_toArray, List.set_cons_zero, List.set_cons_succ]
              rfl
            refine StillAt.take' (i := 20) (v := ?_) (a' := ?_) HLq rfl (by rfl) ?_ ?_ ?_
            rotate_left 2
            · go_simp
              all_goals (with_reducible rfl)
            · simp only [Act.put, List.setIfInBounds_toArray, List.set_cons_zero, List.set_cons_succ]
              rfl
            refine StillAt.take' (i := 21) (v := ?_) (a' := ?_) HLq rfl (by rfl) ?_ ?_ ?_
            rotate_left 2
            · go_simp
              all_goals (with_reducible rfl)
            · simp only [Act.put, List.setIfInBounds_toArray, List.set_cons_zero, List.set_cons_succ]
              rfl
            refine StillAt.take' (i := 22) (v := ?_) (a' := ?_) HLq rfl (by rfl) ?_ ?_ ?_
            rotate_left 2
            · go_simp
              all_goals (with_reducible rfl)
            · simp only [Act.put, List.setIfInBounds_toArray, List.set_cons_zero, List.set_cons_succ]
              rfl
            refine StillAt.skip' (i := 23) (a' := ?_) HLq rfl (by rfl) ?_ ?_
            rotate_left 1
            · simp only [Act.put, List.setIfInBounds_toArray, List.set_cons_zero, List.set_cons_succ]
              rfl
            refine StillAt.skip' (i := 24) (a' := ?_) HLq rfl (by rfl) ?_ ?_
            rotate_left 1
            · simp only [Act.put, List.setIfInBounds_toArray, List.set_cons_zero, List.set_cons_succ]
              rfl
            refine StillAt.skip' (i := 25) (a' := ?_) HLq rfl (by rfl) ?_ ?_
            rotate_left 1
            · simp only [Act.put, List.setIfInBounds_toArray, List.set_cons_zero, List.set_cons_succ]
              rfl
            refine StillAt.skip' (i := 26) (a' := ?_) HLq rfl (by rfl) ?_ ?_
            rotate_left 1
            · simp only [Act.put, List.setIfInBounds_toArray, List.set_cons_zero, List.set_cons_succ]
              rfl
            refine StillAt.skip' (i := 27) (a' := ?_) HLq rfl (by rfl) ?_ ?_
            rotate_left 1
            · simp only [Act.put, List.setIfInBounds_toArray, List.set_cons_zero, List.set_cons_succ]
              rfl
            refine StillAt.skip' (i := 28) (a' := ?_) HLq rfl (by rfl) ?_ ?_
            rotate_left 1
            · simp only [Act.put, List.setIfInBounds_toArray, List.set_cons_zero, List.set_cons_succ]
              rfl
            refine StillAt.skip' (i := 29) (a' := ?_) HLq rfl (by rfl) ?_ ?_
            rotate_left 1
            · simp only [Act.put, List.setIfInBounds_toArray, List.set_cons_zero, List.set_cons_succ]
              rfl
            refine StillAt.skip' (i := 30) (a' := ?_) HLq rfl (by rfl) ?_ ?_
            rotate_left 1
            · simp only [Act.put, List.setIfInBounds_toArray, List.set_cons_zero, List.set_cons_succ]
              rfl
            refine StillAt.skip' (i := 31) (a' := ?_) HLq rfl (by rfl) ?_ ?_
            rotate_left 1
            · simp only [Act.put, List.setIfInBounds_toArray, List.set_cons_zero, List.set_cons_succ]
              rfl
            refine StillAt.skip' (i := 32) (a' := ?_) HLq rfl (by rfl) ?_ ?_
            rotate_left 1
            · simp only [Act.put, List.setIfInBounds_toArray, List.set_cons_zero, List.set_cons_succ]
              rfl
            refine StillAt.take' (i := 33) (v := ?_) (a' := ?_) HLq rfl (by rfl) ?_ ?_ ?_
            rotate_left 2
            · go_simp
              all_goals (with_reducible rfl)
            · simp only [Act.put, List.setIfInBounds_toArray, List.set_cons_zero, List.set_cons_succ]
              rfl
            refine StillAt.take' (i := 34) (v := ?_) (a' := ?_) HLq rfl (by rfl) ?_ ?_ ?_
            rotate_left 2
            · go_simp
              all_goals (with_reducible rfl)
            · simp only [Act.put, List.setIfInBounds_toArray, List.set_cons_zero, List.set_cons_succ]
              rfl
            refine StillAt.skip' (i := 35) (a' := ?_) HLq rfl (by rfl) ?_ ?_
            rotate_left 1
            · simp only [Act.put, List.setIfInBounds_toArray, List.set_cons_zero, List.set_cons_succ]
              rfl
            refine StillAt.skip' (i := 36) (a' := ?_) HLq rfl (by rfl) ?_ ?_
            rotate_left 1
            · simp only [Act.put, List.setIfInBounds_toArray, List.set_cons_zero, List.set_cons_succ]
              rfl
            refine StillAt.skip' (i := 37) (a' := ?_) HLq rfl (by rfl) ?_ ?_
            rotate_left 1
            · simp only [Act.put, List.setIfInBounds_toArray, List.set_cons_zero, List.set_cons_succ]
              rfl
            refine StillAt.take' (i := 38) (v := ?_) (a' := ?_) HLq rfl (by rfl) ?_ ?_ ?_
            rotate_left 2
            · go_simp
              all_goals (with_reducible rfl)
            · simp only [Act.put, List.setIfInBounds_toArray, List.set_cons_zero, List.set_cons_succ]
              rfl
            refine StillAt.done' HLq rfl ?_
            refine HQq.out _ ?_
            clear HQq HLq Qq lq
            go_wp2_with (go_at_call 51; refine (refsign_calls b s a _ c _ (RSt.bad HN.out.st) hs (by omega)).mono ?_; rintro e wq ⟨rfl, hg, hst⟩)
            go_ret
            exact numR_end HN.out (fun _ h => hd1 h.1) hg hst (by simp [hae])
    · have i1 : decide (a < s.size) = false := decide_eq_false (by omega)
      cases hbad : bad with
      | true =>
        subst hbad
        go_wp2_with fail
        refine still_whole (by kernel_rfl) (by kernel_rfl) (fun lq Qq HLq HQq => ?_)
        refine StillAt.take' (i := 0) (v := ?_) (a' := ?_) HLq rfl (by rfl) ?_ ?_ ?_
        rotate_left 2
        · go_simp
          all_goals (with_reducible rfl)
        · simp only [Act.put, List.setIfInBounds_toArray, List.set_cons_zero, List.set_cons_succ]
          rfl
        refine StillAt.take' (i := 1) (v := ?_) (a' := ?_) HLq rfl (by rfl) ?_ ?_ ?_
        rotate_left 2
        · go_simp
          all_goals (with_reducible rfl)
        · simp only [Act.put, List.setIfInBounds_toArray, List.set_cons_zero, List.set_cons_succ]
          rfl
        refine StillAt.take' (i := 2) (v := ?_) (a' := ?_) HLq rfl (by rfl) ?_ ?_ ?_
        rotate_left 2
        · go_simp
          all_goals (with_reducible rfl)
        · simp only [Act.put, List.setIfInBounds_toArray, List.set_cons_zero, List.set_cons_succ]
          rfl
        refine StillAt.take' (i := 3) (v := ?_) (a' := ?_) HLq rfl (by rfl) ?_ ?_ ?_
        rotate_left 2
        · go_simp
          all_goals (with_reducible rfl)
        · simp only [Act.put, List.setIfInBounds_toArray, List.set_cons_zero, List.set_cons_succ]
          rfl
        refine StillAt.take' (i := 4) (v := ?_) (a' := ?_) HLq rfl (by rfl) ?_ ?_ ?_
        rotate_left 2
        · go_simp
          all_goals (with_reducible rfl)
        · simp only [Act.put, List.setIfInBounds_toArray, List.set_cons_zero, List.set_cons_succ]
          rfl
        refine StillAt.take' (i := 5) (v := ?_) (a' := ?_) HLq rfl (by rfl) ?_ ?_ ?_
        rotate_left 2
        · go_simp
          all_goals (with_reducible rfl)
        · simp only [Act.put, List.setIfInBounds_toArray, List.set_cons_zero, List.set_cons_succ]
          rfl
        refine StillAt.take' (i := 6) (v := ?_) (a' := ?_) HLq rfl (by rfl) ?_ ?_ ?_
        rotate_left 2
        · go_simp
          all_goals (with_reducible rfl)
        · simp only [Act.put, List.setIfInBounds_toArray, List.set_cons_zero, List.set_cons_succ]
          rfl
        refine StillAt.take' (i := 7) (v := ?_) (a' := ?_) HLq rfl (by rfl) ?_ ?_ ?_
        rotate_left 2
        · go_simp
          all_goals (with_reducible rfl)
        · simp only [Act.put, List.setIfInBounds_toArray, List.set_cons_zero, List.set_cons_succ]
          rfl
        refine StillAt.take' (i := 8) (v := ?_) (a' := ?_) HLq rfl (by rfl) ?_ ?_ ?_
        rotate_left 2
        · go_simp
          all_goals (with_reducible rfl)
        · simp only [Act.put, List.setIfInBounds_toArray, List.set_cons_zero, List.set_cons_succ]
          rfl
        refine StillAt.take' (i := 9) (v := ?_) (a' := ?_) HLq rfl (by rfl) ?_ ?_ ?_
        rotate_left 2
        · go_simp
          all_goals (with_reducible rfl)
        · simp only [Act.put, List.setIfInBounds_toArray, List.set_cons_zero, List.set_cons_succ]
          rfl
        refine StillAt.take' (i := 10) (v := ?_) (a' := ?_) HLq rfl (by rfl) ?_ ?_ ?_
        rotate_left 2
        · go_simp
          all_goals (with_reducible rfl)
        · simp only [Act.put, List.setIfInBounds_toArray, List.set_cons_zero, List.set_cons_succ]
          rfl
        refine StillAt.skip' (i := 11) (a' := ?_) HLq rfl (by rfl) ?_ ?_
        rotate_left 1
        · simp only [Act.put, List.setIfInBounds_toArray, List.set_cons_zero, List.set_cons_succ]
          rfl
        refine StillAt.skip' (i := 12) (a' := ?_) HLq rfl (by rfl) ?_ ?_
        rotate_left 1
        · simp only [Act.put, List.setIfInBounds_toArray, List.set_cons_zero, List.set_cons_succ]
          rfl
        refine StillAt.skip' (i := 13) (a' := ?_) HLq rfl (by rfl) ?_ ?_
        rotate_left 1
        · simp only [Act.put, List.setIfInBounds_toArray, List.set_cons_zero, List.set_cons_succ]
          rfl
        refine StillAt.skip' (i := 14) (a' := ?_) HLq rfl (by rfl) ?_ ?_
        rotate_left 1
        · simp only [Act.put, List.setIfInBounds_toArray, List.set_cons_zero, List.set_cons_succ]
          rfl
        refine StillAt.skip' (i := 15) (a' := ?_) HLq rfl (by rfl) ?_ ?_
        rotate_left 1
        · simp only [Act.put, List.setIfInBounds_toArray, List.set_cons_zero, List.set_cons_succ]
          rfl
        refine StillAt.skip' (i := 16) (a' := ?_) HLq rfl (by rfl) ?_ ?_
        rotate_left 1
        · simp only [Act.put, List.setIfInBounds_toArray, List.set_cons_zero, List.set_cons_succ]
          rfl
        refine StillAt.skip' (i := 17) (a' := ?_) HLq rfl (by rfl) ?_ ?_
        rotate_left 1
        · simp only [Act.put, List.setIfInBounds_toArray, List.set_cons_zero, List.set_cons_succ]
          rfl
        refine StillAt.skip' (i := 18) (a' := ?_) HLq rfl (by rfl) ?_ ?_
        rotate_left 1
        · simp only [Act.put, List.setIfInBounds_toArray, List.set_cons_zero, List.set_cons_succ]
          rfl
        refine StillAt.skip' (i := 19) (a' := ?_) HLq rfl (by rfl) ?_ ?_
        rotate_left 1
        · simp only [Act.put, List.setIfInBounds_toArray, List.set_cons_zero, List.set_cons_succ]
          rfl
        refine StillAt.skip' (i := 20) (a' := ?_) HLq rfl (by rfl) ?_ ?_
        rotate_left 1
        · simp only [Act.put, List.setIfInBounds_toArray, List.set_cons_zero, List.set_cons_succ]
          rfl
        refine StillAt.take' (i := 21) (v := ?_) (a' := ?_) HLq rfl (by rfl) ?_ ?_ ?_
        rotate_left 2
        · go_simp
          all_goals (with_reducible rfl)
        · simp only [Act.put, List.setIfInBounds_toArray, List.set_cons_zero, List.set_cons_succ]
          rfl
        refine StillAt.take' (i := 22) (v := ?_) (a' := ?_) HLq rfl (by rfl) ?_ ?_ ?_
        rotate_left 2
        · go_simp
          all_goals (with_reducible rfl)
        · simp only [Act.put, List.setIfInBounds_toArray, List.set_cons_zero, List.set_cons_succ]
          rfl
        refine StillAt.skip' (i := 23) (a' := ?_) HLq rfl (by rfl) ?_ ?_
        rotate_left 1
        · simp only [Act.put, List.setIfInBounds_toArray, List.set_cons_zero, List.set_cons_succ]
          rfl
        refine StillAt.skip' (i := 24) (a' := ?_) HLq rfl (by rfl) ?_ ?_
        rotate_left 1
        · simp only [Act.put, List.setIfInBounds_toArray, List.set_cons_zero, List.set_cons_succ]
          rfl
        refine StillAt.skip' (i := 25) (a' := ?_) HLq rfl (by rfl) ?_ ?_
        rotate_left 1
        · simp only [Act.put, List.setIfInBounds_toArray, List.set_cons_zero, List.set_cons_succ]
          rfl
        refine StillAt.skip' (i := 26) (a' := ?_) HLq rfl (by rfl) ?_ ?_
        rotate_left 1
        · simp only [Act.put, List.setIfInBounds_toArray, List.set_cons_zero, List.set_cons_succ]
          rfl
        refine StillAt.skip' (i := 27) (a' := ?_) HLq rfl (by rfl) ?_ ?_
        rotate_left 1
        · simp only [Act.put, List.setIfInBounds_toArray, List.set_cons_zero, List.set_cons_succ]
          rfl
        refine StillAt.skip' (i := 28) (a' := ?_) HLq rfl (by rfl) ?_ ?_
        rotate_left 1
        · simp only [Act.put, List.setIfInBounds_toArray, List.set_cons_zero, List.set_cons_succ]
          rfl
        refine StillAt.skip' (i := 29) (a' := ?_) HLq rfl (by rfl) ?_ ?_
        rotate_left 1
        · simp only [Act.put, List.setIfInBounds_toArray, List.set_cons_zero, List.set_cons_succ]
          rfl
        refine StillAt.skip' (i := 30) (a' := ?_) HLq rfl (by rfl) ?_ ?_
        rotate_left 1
        · simp only [Act.put, List.setIfInBounds_toArray, List.set_cons_zero, List.set_cons_succ]
          rfl
        refine StillAt.skip' (i := 31) (a' := ?_) HLq rfl (by rfl) ?_ ?_
        rotate_left 1
        · simp only [Act.put, List.setIfInBounds_toArray, List.set_cons_zero, List.set_cons_succ]
          rfl
        refine StillAt.skip' (i := 32) (a' := ?_) HLq rfl (by rfl) ?_ ?_
        rotate_left 1
        · simp only [Act.put, List.setIfInBounds_toArray, List.set_cons_zero, List.set_cons_succ]
          rfl
        refine StillAt.take' (i := 33) (v := ?_) (a' := ?_) HLq rfl (by rfl) ?_ ?_ ?_
        rotate_left 2
        · go_simp
          all_goals (with_reducible rfl)
        · simp only [Act.put, List.setIfInBounds_toArray, List.set_cons_zero, List.set_cons_succ]
          rfl
        refine StillAt.take' (i := 34) (v := ?_) (a' := ?_) HLq rfl (by rfl) ?_ ?_ ?_
        rotate_left 2
        · go_simp
          all_goals (with_reducible rfl)
        · simp only [Act.put, List.setIfInBounds_toArray, List.set_cons_zero, List.set_cons_succ]
          rfl
        refine StillAt.skip' (i := 35) (a' := ?_) HLq rfl (by rfl) ?_ ?_
        rotate_left 1
        · simp only [Act.put, List.setIfInBounds_toArray, List.set_cons_zero, List.set_cons_succ]
          rfl
        refine StillAt.skip' (i := 36) (a' := ?_) HLq rfl (by rfl) ?_ ?_
        rotate_left 1
        · simp only [Act.put, List.setIfInBounds_toArray, List.set_cons_zero, List.set_cons_succ]
          rfl
        refine StillAt.skip' (i := 37) (a' := ?_) HLq rfl (by rfl) ?_ ?_
        rotate_left 1
        · simp only [Act.put, List.setIfInBounds_toArray, List.set_cons_zero, List.set_cons_succ]
          rfl
        refine StillAt.take' (i := 38) (v := ?_) (a' := ?_) HLq rfl (by rfl) ?_ ?_ ?_
        rotate_left 2
        · go_simp
          all_goals (with_reducible rfl)
        · simp only [Act.put, List.setIfInBounds_toArray, List.set_cons_zero, List.set_cons_succ]
          rfl
        refine StillAt.done' HLq rfl ?_
        refine HQq.out _ ?_
        clear HQq HLq Qq lq
        go_wp2_with (go_at_call 51; refine (refsign_calls b s a _ c _ (RSt.bad HN.out.st) hs (by omega)).mono ?_; rintro e wq ⟨rfl, hg, hst⟩)
        go_ret
        exact numR_end HN.out (fun h => absurd h hlt) hg hst (by simp)
      | false =>
        subst hbad
        by_cases hae : a = at_
        · have ie : ((a : Int) == (at_ : Int)) = true := by simp [hae]
          subst hae
          go_wp2_with fail
          refine still_whole (by kernel_rfl) (by kernel_rfl) (fun lq Qq HLq HQq => ?_)
          refine StillAt.take' (i := 0) (v := ?_) (a' := ?_) HLq rfl (by rfl) ?_ ?_ ?_
          rotate_left 2
          · go_simp
            all_goals (with_reducible rfl)
          · simp only [Act.put, List.setIfInBounds_toArray, List.set_cons_zero, List.set_cons_succ]
            rfl
          refine StillAt.take' (i := 1) (v := ?_) (a' := ?_) HLq rfl (by rfl) ?_ ?_ ?_
          rotate_left 2
          · go_simp
            all_goals (with_reducible rfl)
          · simp only [Act.put, List.setIfInBounds_toArray, List.set_cons_zero, List.set_cons_succ]
            rfl
          refine StillAt.take' (i := 2) (v := ?_) (a' := ?_) HLq rfl (by rfl) ?_ ?_ ?_
          rotate_left 2
          · go_simp
            all_goals (with_reducible rfl)
          · simp only [Act.put, List.setIfInBounds_toArray, List.set_cons_zero, List.set_cons_succ]
            rfl
          refine StillAt.take' (i := 3) (v := ?_) (a' := ?_) HLq rfl (by rfl) ?_ ?_ ?_
          rotate_left 2
          · go_simp
            all_goals (with_reducible rfl)
          · simp only [Act.put, List.setIfInBounds_toArray, List.set_cons_zero, List.set_cons_succ]
            rfl
          refine StillAt.take' (i := 4) (v := ?_) (a' := ?_) HLq rfl (by rfl) ?_ ?_ ?_
          rotate_left 2
          · go_simp
            all_goals (with_reducible rfl)
          · simp only [Act.put, List.setIfInBounds_toArray, List.set_cons_zero, List.set_cons_succ]
            rfl
          refine StillAt.take' (i := 5) (v := ?_) (a' := ?_) HLq rfl (by rfl) ?_ ?_ ?_
          rotate_left 2
          · go_simp
            all_goals (with_reducible rfl)
          · simp only [Act.put, List.setIfInBounds_toArray, List.set_cons_zero, List.set_cons_succ]
            rfl
          refine StillAt.take' (i := 6) (v := ?_) (a' := ?_) HLq rfl (by rfl) ?_ ?_ ?_
          rotate_left 2
          · go_simp
            all_goals (with_reducible rfl)
          · simp only [Act.put, List.setIfInBounds_toArray, List.set_cons_zero, List.set_cons_succ]
            rfl
          refine StillAt.take' (i := 7) (v := ?_) (a' := ?_) HLq rfl (by rfl) ?_ ?_ ?_
          rotate_left 2
          · go_simp
            all_goals (with_reducible rfl)
          · simp only [Act.put, List.setIfInBounds_toArray, List.set_cons_zero, List.set_cons_succ]
            rfl
          refine StillAt.take' (i := 8) (v := ?_) (a' := ?_) HLq rfl (by rfl) ?_ ?_ ?_
          rotate_left 2
          · go_simp
            all_goals (with_reducible rfl)
          · simp only [Act.put, List.setIfInBounds_toArray, List.set_cons_zero, List.set_cons_succ]
            rfl
          refine StillAt.take' (i := 9) (v := ?_) (a' := ?_) HLq rfl (by rfl) ?_ ?_ ?_
          rotate_left 2
          · go_simp
            all_goals (with_reducible rfl)
          · simp only [Act.put, List.setIfInBounds_toArray, List.set_cons_zero, List.set_cons_succ]
            rfl
          refine StillAt.take' (i := 10) (v := ?_) (a' := ?_) HLq rfl (by rfl) ?_ ?_ ?_
          rotate_left 2
          · go_simp
            all_goals (with_reducible rfl)
          · simp only [Act.put, List.setIfInBounds_toArray, List.set_cons_zero, List.set_cons_succ]
            rfl
          refine StillAt.skip' (i := 11) (a' := ?_) HLq rfl (by rfl) ?_ ?_
          rotate_left 1
          · simp only [Act.put, List.setIfInBounds_toArray, List.set_cons_zero, List.set_cons_succ]
            rfl
          refine StillAt.skip' (i := 12) (a' := ?_) HLq rfl (by rfl) ?_ ?_
          rotate_left 1
          · simp only [Act.put, List.setIfInBounds_toArray, List.set_cons_zero, List.set_cons_succ]
            rfl
          refine StillAt.skip' (i := 13) (a' := ?_) HLq rfl (by rfl) ?_ ?_
          rotate_left 1
          · simp only [Act.put, List.setIfInBounds_toArray, List.set_cons_zero, List.set_cons_succ]
            rfl
          refine StillAt.skip' (i := 14) (a' := ?_) HLq rfl (by rfl) ?_ ?_
          rotate_left 1
          · simp only [Act.put, List.setIfInBounds_toArray, List.set_cons_zero, List.set_cons_succ]
            rfl
          refine StillAt.skip' (i := 15) (a' := ?_) HLq rfl (by rfl) ?_ ?_
          rotate_left 1
          · simp only [Act.put, List.setIfInBounds_toArray, List.set_cons_zero, List.set_cons_succ]
            rfl
          refine StillAt.skip' (i := 16) (a' := ?_) HLq rfl (by rfl) ?_ ?_
          rotate_left 1
          · simp only [Act.put, List.setIfInBounds_toArray, List.set_cons_zero, List.set_cons_succ]
            rfl
          refine StillAt.skip' (i := 17) (a' := ?_) HLq rfl (by rfl) ?_ ?_
          rotate_left 1
          · simp only [Act.put, List.setIfInBounds_toArray, List.set_cons_zero, List.set_cons_succ]
            rfl
          refine StillAt.skip' (i := 18) (a' := ?_) HLq rfl (by rfl) ?_ ?_
          rotate_left 1
          · simp only [Act.put, List.setIfInBounds_toArray, List.set_cons_zero, List.set_cons_succ]
            rfl
          refine StillAt.skip' (i := 19) (a' := ?_) HLq rfl (by rfl) ?_ ?_
          rotate_left 1
          · simp only [Act.put, List.setIfInBounds_toArray, List.set_cons_zero, List.set_cons_succ]
            rfl
          refine StillAt.skip' (i := 20) (a' := ?_) HLq rfl (by rfl) ?_ ?_
          rotate_left 1
          · simp only [Act.put, List.setIfInBounds_toArray, List.set_cons_zero, List.set_cons_succ]
            rfl
          refine StillAt.take' (i := 21) (v := ?_) (a' := ?_) HLq rfl (by rfl) ?_ ?_ ?_
          rotate_left 2
          · go_simp
            all_goals (with_reducible rfl)
          · simp only [Act.put, List.setIfInBounds_toArray, List.set_cons_zero, List.set_cons_succ]
            rfl
          refine StillAt.take' (i := 22) (v := ?_) (a' := ?_) HLq rfl (by rfl) ?_ ?_ ?_
          rotate_left 2
          · go_simp
            all_goals (with_reducible rfl)
          · simp only [Act.put, List.setIfInBounds_toArray, List.set_cons_zero, List.set_cons_succ]
            rfl
          refine StillAt.skip' (i := 23) (a' := ?_) HLq rfl (by rfl) ?_ ?_
          rotate_left 1
          · simp only [Act.put, List.setIfInBounds_toArray, List.set_cons_zero, List.set_cons_succ]
            rfl
          refine StillAt.skip' (i := 24) (a' := ?_) HLq rfl (by rfl) ?_ ?_
          rotate_left 1
          · simp only [Act.put, List.setIfInBounds_toArray, List.set_cons_zero, List.set_cons_succ]
            rfl
          refine StillAt.skip' (i := 25) (a' := ?_) HLq rfl (by rfl) ?_ ?_
          rotate_left 1
          · simp only [Act.put, List.setIfInBounds_toArray, List.set_cons_zero, List.set_cons_succ]
            rfl
          refine StillAt.skip' (i := 26) (a' := ?_) HLq rfl (by rfl) ?_ ?_
          rotate_left 1
          · simp only [Act.put, List.setIfInBounds_toArray, List.set_cons_zero, List.set_cons_succ]
            rfl
          refine StillAt.skip' (i := 27) (a' := ?_) HLq rfl (by rfl) ?_ ?_
          rotate_left 1
          · simp only [Act.put, List.setIfInBounds_toArray, List.set_cons_zero, List.set_cons_succ]
            rfl
          refine StillAt.skip' (i := 28) (a' := ?_) HLq rfl (by rfl) ?_ ?_
          rotate_left 1
          · simp only [Act.put, List.setIfInBounds_toArray, List.set_cons_zero, List.set_cons_succ]
            rfl
          refine StillAt.skip' (i := 29) (a' := ?_) HLq rfl (by rfl) ?_ ?_
          rotate_left 1
          · simp only [Act.put, List.setIfInBounds_toArray, List.set_cons_zero, List.set_cons_succ]
            rfl
          refine StillAt.skip' (i := 30) (a' := ?_) HLq rfl (by rfl) ?_ ?_
          rotate_left 1
          · simp only [Act.put, List.setIfInBounds_toArray, List.set_cons_zero, List.set_cons_succ]
            rfl
          refine StillAt.skip' (i := 31) (a' := ?_) HLq rfl (by rfl) ?_ ?_
          rotate_left 1
          · simp only [Act.put, List.setIfInBounds_toArray, List.set_cons_zero, List.set_cons_succ]
            rfl
          refine StillAt.skip' (i := 32) (a' := ?_) HLq rfl (by rfl) ?_ ?_
          rotate_left 1
          · simp only [Act.put, List.setIfInBounds_toArray, List.set_cons_zero, List.set_cons_succ]
            rfl
          refine StillAt.take' (i := 33) (v := ?_) (a' := ?_) HLq rfl (by rfl) ?_ ?_ ?_
          rotate_left 2
          · go_simp
            all_goals (with_reducible rfl)
          · simp only [Act.put, List.setIfInBounds_toArray, List.set_cons_zero, List.set_cons_succ]
            rfl
          refine StillAt.take' (i := 34) (v := ?_) (a' := ?_) HLq rfl (by rfl) ?_ ?_ ?_
          rotate_left 2
          · go_simp
            all_goals (with_reducible rfl)
          · simp only [Act.put, List.setIfInBounds_toArray, List.set_cons_zero, List.set_cons_succ]
            rfl
          refine StillAt.skip' (i := 35) (a' := ?_) HLq rfl (by rfl) ?_ ?_
          rotate_left 1
          · simp only [Act.put, List.setIfInBounds_toArray, List.set_cons_zero, List.set_cons_succ]
            rfl
          refine StillAt.skip' (i := 36) (a' := ?_) HLq rfl (by rfl) ?_ ?_
          rotate_left 1
          · simp only [Act.put, List.setIfInBounds_toArray, List.set_cons_zero, List.set_cons_succ]
            rfl
          refine StillAt.skip' (i := 37) (a' := ?_) HLq rfl (by rfl) ?_ ?_
          rotate_left 1
          · simp only [Act.put, List.setIfInBounds_toArray, List.set_cons_zero, List.set_cons_succ]
            rfl
          refine StillAt.take' (i := 38) (v := ?_) (a' := ?_) HLq rfl (by rfl) ?_ ?_ ?_
          rotate_left 2
          · go_simp
            all_goals (with_reducible rfl)
          · simp only [Act.put, List.setIfInBounds_toArray, List.set_cons_zero, List.set_cons_succ]
            rfl
          refine StillAt.done' HLq rfl ?_
          refine HQq.out _ ?_
          clear HQq HLq Qq lq
          go_wp2_with (go_at_call 51; refine (refsign_calls b s a _ c _ (RSt.bad HN.out.st) hs (by omega)).mono ?_; rintro e wq ⟨rfl, hg, hst⟩)
          go_ret
          exact numR_end HN.out (fun h => absurd h hlt) hg hst (by simp)
        · have ie : ((a : Int) == (at_ : Int)) = false := by simp; omega
          go_wp2_with fail
          refine still_whole (by kernel_rfl) (by kernel_rfl) (fun lq Qq HLq HQq => ?_)
          refine StillAt.take' (i := 0) (v := ?_) (a' := ?_) HLq rfl (by rfl) ?_ ?_ ?_
          rotate_left 2
          · go_simp
            all_goals (with_reducible rfl)
          · simp only [Act.put, List.setIfInBounds_toArray, List.set_cons_zero, List.set_cons_succ]
            rfl
          refine StillAt.take' (i := 1) (v := ?_) (a' := ?_) HLq rfl (by rfl) ?_ ?_ ?_
          rotate_left 2
          · go_simp
            all_goals (with_reducible rfl)
          · simp only [Act.put, List.setIfInBounds_toArray, List.set_cons_zero, List.set_cons_succ]
            rfl
          refine StillAt.take' (i := 2) (v := ?_) (a' := ?_) HLq rfl (by rfl) ?_ ?_ ?_
          rotate_left 2
          · go_simp
            all_goals (with_reducible rfl)
          · simp only [Act.put, List.setIfInBounds_toArray, List.set_cons_zero, List.set_cons_succ]
            rfl
          refine StillAt.take' (i := 3) (v := ?_) (a' := ?_) HLq rfl (by rfl) ?_ ?_ ?_
          rotate_left 2
          · go_simp
            all_goals (with_reducible rfl)
          · simp only [Act.put, List.setIfInBounds_toArray, List.set_cons_zero, List.set_cons_succ]
            rfl
          refine StillAt.take' (i := 4) (v := ?_) (a' := ?_) HLq rfl (by rfl) ?_ ?_ ?_
          rotate_left 2
          · go_simp
            all_goals (with_reducible rfl)
          · simp only [Act.put, List.setIfInBounds_toArray, List.set_cons_zero, List.set_cons_succ]
            rfl
          refine StillAt.take' (i := 5) (v := ?_) (a' := ?_) HLq rfl (by rfl) ?_ ?_ ?_
          rotate_left 2
          · go_simp
            all_goals (with_reducible rfl)
          · simp only [Act.put, List.setIfInBounds_toArray, List.set_cons_zero, List.set_cons_succ]
            rfl
          refine StillAt.take' (i := 6) (v := ?_) (a' := ?_) HLq rfl (by rfl) ?_ ?_ ?_
          rotate_left 2
          · go_simp
            all_goals (with_reducible rfl)
          · simp only [Act.put, List.setIfInBounds_toArray, List.set_cons_zero, List.set_cons_succ]
            rfl
          refine StillAt.take' (i := 7) (v := ?_) (a' := ?_) HLq rfl (by rfl) ?_ ?_ ?_
          rotate_left 2
          · go_simp
            all_goals (with_reducible rfl)
          · simp only [Act.put, List.setIfInBounds_toArray, List.set_cons_zero, List.set_cons_succ]
            rfl
          refine StillAt.take' (i := 8) (v := ?_) (a' := ?_) HLq rfl (by rfl) ?_ ?_ ?_
          rotate_left 2
          · go_simp
            all_goals (with_reducible rfl)
          · simp only [Act.put, List.setIfInBounds_toArray, List.set_cons_zero, List.set_cons_succ]
            rfl
          refine StillAt.take' (i := 9) (v := ?_) (a' := ?_) HLq rfl (by rfl) ?_ ?_ ?_
          rotate_left 2
          · go_simp
            all_goals (with_reducible rfl)
          · simp only [Act.put, List.setIfInBounds_toArray, List.set_cons_zero, List.set_cons_succ]
            rfl
          refine StillAt.take' (i := 10) (v := ?_) (a' := ?_) HLq rfl (by rfl) ?_ ?_ ?_
          rotate_left 2
          · go_simp
            all_goals (with_reducible rfl)
          · simp only [Act.put, List.setIfInBounds_toArray, List.set_cons_zero, List.set_cons_succ]
            rfl
          refine StillAt.skip' (i := 11) (a' := ?_) HLq rfl (by rfl) ?_ ?_
          rotate_left 1
          · simp only [Act.put, List.setIfInBounds_toArray, List.set_cons_zero, List.set_cons_succ]
            rfl
          refine StillAt.skip' (i := 12) (a' := ?_) HLq rfl (by rfl) ?_ ?_
          rotate_left 1
          · simp only [Act.put, List.setIfInBounds_toArray, List.set_cons_zero, List.set_cons_succ]
            rfl
          refine StillAt.skip' (i := 13) (a' := ?_) HLq rfl (by rfl) ?_ ?_
          rotate_left 1
          · simp only [Act.put, List.setIfInBounds_toArray, List.set_cons_zero, List.set_cons_succ]
            rfl
          refine StillAt.skip' (i := 14) (a' := ?_) HLq rfl (by rfl) ?_ ?_
          rotate_left 1
          · simp only [Act.put, List.setIfInBounds_toArray, List.set_cons_zero, List.set_cons_succ]
            rfl
          refine StillAt.skip' (i := 15) (a' := ?_) HLq rfl (by rfl) ?_ ?_
          rotate_left 1
          · simp only [Act.put, List.setIfInBounds_toArray, List.set_cons_zero, List.set_cons_succ]
            rfl
          refine StillAt.skip' (i := 16) (a' := ?_) HLq rfl (by rfl) ?_ ?_
          rotate_left 1
          · simp only [Act.put, List.setIfInBounds_toArray, List.set_cons_zero, List.set_cons_succ]
            rfl
          refine StillAt.skip' (i := 17) (a' := ?_) HLq rfl (by rfl) ?_ ?_
          rotate_left 1
          · simp only [Act.put, List.setIfInBounds_toArray, List.set_cons_zero, List.set_cons_succ]
            rfl
          refine StillAt.skip' (i := 18) (a' := ?_) HLq rfl (by rfl) ?_ ?_
          rotate_left 1
          · simp only [Act.put, List.setIfInBounds_toArray, List.set_cons_zero, List.set_cons_succ]
            rfl
          refine StillAt.skip' (i := 19) (a' := ?_) HLq rfl (by rfl) ?_ ?_
          rotate_left 1
          · simp only [Act.put, List.setIfInBounds_toArray, List.set_cons_zero, List.set_cons_succ]
            rfl
          refine StillAt.skip' (i := 20) (a' := ?_) HLq rfl (by rfl) ?_ ?_
          rotate_left 1
          · simp only [Act.put, List.setIfInBounds_toArray, List.set_cons_zero, List.set_cons_succ]
            rfl
          refine StillAt.take' (i := 21) (v := ?_) (a' := ?_) HLq rfl (by rfl) ?_ ?_ ?_
          rotate_left 2
          · go_simp
            all_goals (with_reducible rfl)
          · simp only [Act.put, List.setIfInBounds_toArray, List.set_cons_zero, List.set_cons_succ]
            rfl
          refine StillAt.take' (i := 22) (v := ?_) (a' := ?_) HLq rfl (by rfl) ?_ ?_ ?_
          rotate_left 2
          · go_simp
            all_goals (with_reducible rfl)
          · simp only [Act.put, List.setIfInBounds_toArray, List.set_cons_zero, List.set_cons_succ]
            rfl
          refine StillAt.skip' (i := 23) (a' := ?_) HLq rfl (by rfl) ?_ ?_
          rotate_left 1
          · simp only [Act.put, List.setIfInBounds_toArray, List.set_cons_zero, List.set_cons_succ]
            rfl
          refine StillAt.skip' (i := 24) (a' := ?_) HLq rfl (by rfl) ?_ ?_
          rotate_left 1
          · simp only [Act.put, List.setIfInBounds_toArray, List.set_cons_zero, List.set_cons_succ]
            rfl
          refine StillAt.skip' (i := 25) (a' := ?_) HLq rfl (by rfl) ?_ ?_
          rotate_left 1
          · simp only [Act.put, List.setIfInBounds_toArray, List.set_cons_zero, List.set_cons_succ]
            rfl
          refine StillAt.skip' (i := 26) (a' := ?_) HLq rfl (by rfl) ?_ ?_
          rotate_left 1
          · simp only [Act.put, List.setIfInBounds_toArray, List.set_cons_zero, List.set_cons_succ]
            rfl
          refine StillAt.skip' (i := 27) (a' := ?_) HLq rfl (by rfl) ?_ ?_
          rotate_left 1
          · simp only [Act.put, List.setIfInBounds_toArray, List.set_cons_zero, List.set_cons_succ]
            rfl
          refine StillAt.skip' (i := 28) (a' := ?_) HLq rfl (by rfl) ?_ ?_
          rotate_left 1
          · simp only [Act.put, List.setIfInBounds_toArray, List.set_cons_zero, List.set_cons_succ]
            rfl
          refine StillAt.skip' (i := 29) (a' := ?_) HLq rfl (by rfl) ?_ ?_
          rotate_left 1
          · simp only [Act.put, List.setIfInBounds_toArray, List.set_cons_zero, List.set_cons_succ]
            rfl
          refine StillAt.skip' (i := 30) (a' := ?_) HLq rfl (by rfl) ?_ ?_
          rotate_left 1
          · simp only [Act.put, List.setIfInBounds_toArray, List.set_cons_zero, List.set_cons_succ]
            rfl
          refine StillAt.skip' (i := 31) (a' := ?_) HLq rfl (by rfl) ?_ ?_
          rotate_left 1
          · simp only [Act.put, List.setIfInBounds_toArray, List.set_cons_zero, List.set_cons_succ]
            rfl
          refine StillAt.skip' (i := 32) (a' := ?_) HLq rfl (by rfl) ?_ ?_
          rotate_left 1
          · simp only [Act.put, List.setIfInBounds_toArray, List.set_cons_zero, List.set_cons_succ]
            rfl
          refine StillAt.take' (i := 33) (v := ?_) (a' := ?_) HLq rfl (by rfl) ?_ ?_ ?_
          rotate_left 2
          · go_simp
            all_goals (with_reducible rfl)
          · simp only [Act.put, List.setIfInBounds_toArray, List.set_cons_zero, List.set_cons_succ]
            rfl
          refine StillAt.take' (i := 34) (v := ?_) (a' := ?_) HLq rfl (by rfl) ?_ ?_ ?_
          rotate_left 2
          · go_simp
            all_goals (with_reducible rfl)
          · simp only [Act.put, List.setIfInBounds_toArray, List.set_cons_zero, List.set_cons_succ]
            rfl
          refine StillAt.skip' (i := 35) (a' := ?_) HLq rfl (by rfl) ?_ ?_
          rotate_left 1
          · simp only [Act.put, List.setIfInBounds_toArray, List.set_cons_zero, List.set_cons_succ]
            rfl
          refine StillAt.skip' (i := 36) (a' := ?_) HLq rfl (by rfl) ?_ ?_
          rotate_left 1
          · simp only [Act.put, List.setIfInBounds_toArray, List.set_cons_zero, List.set_cons_succ]
            rfl
          refine StillAt.skip' (i := 37) (a' := ?_) HLq rfl (by rfl) ?_ ?_
          rotate_left 1
          · simp only [Act.put, List.setIfInBounds_toArray, List.set_cons_zero, List.set_cons_succ]
            rfl
          refine StillAt.take' (i := 38) (v := ?_) (a' := ?_) HLq rfl (by rfl) ?_ ?_ ?_
          rotate_left 2
          · go_simp
            all_goals (with_reducible rfl)
          · simp only [Act.put, List.setIfInBounds_toArray, List.set_cons_zero, List.set_cons_succ]
            rfl
          refine StillAt.done' HLq rfl ?_
          refine HQq.out _ ?_
          clear HQq HLq Qq lq
          go_wp2_with (go_at_call 51; refine (refsign_calls b s a _ c _ (RSt.bad HN.out.st) hs (by omega)).mono ?_; rintro e wq ⟨rfl, hg, hst⟩)
          go_ret
          exact numR_end HN.out (fun h => absurd h hlt) hg hst (by simp [hae])
end Wh
