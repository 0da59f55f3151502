import Derived.Test.YtlacfgnjljjdiaaDoorT48P
set_option linter.unusedVariables false
set_option linter.unusedSimpArgs false
open Go Go.RowKit Go.Proofs
namespace Wh
/-! ### the reference's reader as a function: what it reads is no greater than the text -/
theorem dgF_len {s : ByteArray} : ∀ (F : Nat) (ds : List Int) (a : Nat) (bad : Bool), (dgF s F ds a bad).1.length + a ≤ ds.length + (dgF s F ds a bad).2.1
  | 0, ds, a, bad => Nat.le_refl _
  | F + 1, ds, a, bad => by
    rw [dgF]
    split
    · exact Nat.le_refl _
    · have h1 := dgF_len (s := s) F (ds ++ [(((rsF s 4294967295 46 a bad).1 % 4294967296 : Nat) : Int)]) (rsF s 4294967295 46 a bad).2.1 (rsF s 4294967295 46 a bad).2.2
      have h2 := rsF_ge (s := s) (most := 4294967295) (c := 46) (a := a) (bad := bad)
      rw [List.length_append, List.length_singleton] at h1
      omega
theorem kdF_count {f : Nat → Bool → Tm × Nat × Bool} : ∀ (m : Nat) (l : List Tm) (a : Nat) (bad : Bool), (kdF f m l a bad).1.length ≤ l.length + m
  | 0, l, a, bad => Nat.le_refl _
  | m + 1, l, a, bad => by
    rw [kdF]
    split
    · exact Nat.le_add_right _ _
    · have h1 := kdF_count (f := f) m (l ++ [(f a bad).1]) (f a bad).2.1 (f a bad).2.2
      rw [List.length_append, List.length_singleton] at h1
      omega
theorem partss_snoc : ∀ (l : List Tm) (t : Tm), Tm.partss (l ++ [t]) = Tm.partss l + t.parts
  | [], t => by simp [Tm.partss]
  | x :: l, t => by
    rw [List.cons_append, Tm.partss, Tm.partss, partss_snoc l t]
    omega
theorem lows_snoc : ∀ (l : List Tm) (t : Tm), Tm.lows l → t.low → Tm.lows (l ++ [t])
  | [], t, _, h => ⟨h, trivial⟩
  | x :: l, t, hl, h => ⟨hl.1, lows_snoc l t hl.2 h⟩
def RdOk (s : ByteArray) (a : Nat) (q : Tm × Nat × Bool) : Prop := q.2.1 ≤ s.size ∧ a ≤ q.2.1 ∧ q.1.parts + a ≤ q.2.1 ∧ q.1.low
theorem kdF_parts {s : ByteArray} {f : Nat → Bool → Tm × Nat × Bool} {a0 : Nat} (hf : ∀ x, a0 ≤ x → x ≤ s.size → (f x false).2.2 = false → RdOk s x (f x false)) : ∀ (m : Nat) (l : List Tm) (a : Nat) (bad : Bool), a0 ≤ a → (bad = false → a ≤ s.size) → Tm.lows l →
    (kdF f m l a bad).2.2 = false → (kdF f m l a bad).2.1 ≤ s.size ∧ a ≤ (kdF f m l a bad).2.1 ∧ Tm.partss (kdF f m l a bad).1 + a ≤ Tm.partss l + (kdF f m l a bad).2.1 ∧ Tm.lows (kdF f m l a bad).1
  | 0, l, a, bad, h0, h, hl, hb => ⟨h hb, Nat.le_refl _, by simp only [kdF]; omega, hl⟩
  | m + 1, l, a, bad, h0, h, hl, hb => by
    cases bad with
    | true => simp [kdF] at hb
    | false =>
      rw [kdF, if_neg (by simp)] at hb ⊢
      cases hx : (f a false).2.2 with
      | true =>
        rw [hx] at hb
        cases m with
        | zero => cases hb
        | succ m => simp [kdF] at hb
      | false =>
        obtain ⟨r1, r2, r3, r4⟩ := hf a h0 (h rfl) hx
        have h1 := kdF_parts hf m (l ++ [(f a false).1]) (f a false).2.1 (f a false).2.2 (by omega) (fun _ => r1) (lows_snoc _ _ hl r4) hb
        rw [partss_snoc, hx] at h1
        obtain ⟨q1, q2, q3, q4⟩ := h1
        exact ⟨q1, by omega, by omega, q4⟩
theorem tmF_parts {s : ByteArray} (hs : s.size ≤ 140737488355328) : ∀ (F a : Nat), a ≤ s.size → s.size + 1 - a ≤ F → (tmF s F a false).2.2 = false → RdOk s a (tmF s F a false)
  | 0, a, h, hF, _ => absurd hF (by omega)
  | F + 1, a, h, hF, hb => by
    rcases h1 : rsF s 255 32 a false with ⟨n1, a1, bad1⟩
    rcases h2 : rsF s s.size 58 a1 bad1 with ⟨n2, a2, bad2⟩
    by_cases hc : bad2 = true ∨ s.size < a2 + n2
    · rw [tmF_short h1 h2 hc] at hb
      cases hb
    · have hb2 : bad2 = false := by
        cases bad2 with
        | true => exact absurd (.inl rfl) hc
        | false => rfl
      subst hb2
      rcases h3 : dgF s (s.size + 2) [] (if nxtIs s (a2 + n2 + 1) 45 then a2 + n2 + 2 else a2 + n2 + 1) (sgnBad s (a2 + n2) 32) with ⟨ds, a5, b5⟩
      rcases h4 : rsF s s.size 59 (a5 + 1) (b5 || sgnBad s a5 32) with ⟨m, a6, b6⟩
      rcases h5 : kdF (tmF s F) m [] a6 b6 with ⟨ks, a7, b7⟩
      rw [tmF_long h1 h2 (by omega) rfl h3 h4 h5] at hb ⊢
      have e1 := rsF_ge (s := s) (most := 255) (c := 32) (a := a) (bad := false)
      have e2 := rsF_ge (s := s) (most := s.size) (c := 58) (a := a1) (bad := bad1)
      have e3 := dgF_len (s := s) (s.size + 2) [] (if nxtIs s (a2 + n2 + 1) 45 then a2 + n2 + 2 else a2 + n2 + 1) (sgnBad s (a2 + n2) 32)
      have e4 := rsF_ge (s := s) (most := s.size) (c := 59) (a := a5 + 1) (bad := (b5 || sgnBad s a5 32))
      have e5 := kdF_count (f := tmF s F) m [] a6 b6
      have e6 := dgF_ge (s := s) (s.size + 2) [] (if nxtIs s (a2 + n2 + 1) 45 then a2 + n2 + 2 else a2 + n2 + 1) (sgnBad s (a2 + n2) 32)
      rw [h1] at e1
      rw [h2] at e2
      rw [h3] at e3 e6
      rw [h4] at e4
      rw [h5] at e5
      have e7 := kdF_parts (s := s) (f := tmF s F) (a0 := a6) (fun x hx hxs hbx => tmF_parts hs F x hxs (by simp only at e1 e2 e4 e6; split at e6 <;> omega) hbx) m [] a6 b6 (Nat.le_refl _) (fun hx => by subst hx; exact (rsF_room h4).1) trivial (by rw [h5]; exact hb)
      rw [h5] at e7
      have hb6 : b6 = false := by
        cases b6 with
        | false => rfl
        | true =>
          simp only at hb
          subst hb
          cases m with
          | zero => simp [kdF] at h5
          | succ m => simp [kdF] at h5
      subst hb6
      have hm := rsF_room h4
      simp only [List.length_nil, Tm.partss] at e1 e2 e3 e4 e5 e6 e7
      obtain ⟨q1, q2, q3, q4⟩ := e7
      have hnm : (s.extract a2 (a2 + n2)).size ≤ n2 := by simp only [ByteArray.size_extract]; omega
      have ha4 : a2 + n2 + 1 ≤ (if nxtIs s (a2 + n2 + 1) 45 then a2 + n2 + 2 else a2 + n2 + 1) := by split <;> omega
      generalize (if nxtIs s (a2 + n2 + 1) 45 then a2 + n2 + 2 else a2 + n2 + 1) = a4 at *
      refine ⟨q1, by simp only; omega, ?_, ?_⟩
      · simp only [Tm.parts]
        omega
      · exact ⟨by omega, by omega, by omega, q4⟩
theorem tmF_key {s : ByteArray} (hs : s.size ≤ 900000) (hb : (tmF s (s.size + 1) 0 false).2.2 = false) : (tmF s (s.size + 1) 0 false).1.key.length ≤ 90000000 := by
  obtain ⟨h1, _, h3, h4⟩ := tmF_parts (s := s) (by omega) (s.size + 1) 0 (by omega) (by omega) hb
  have := key_bound _ (tmF_wf (s := s) (s.size + 1) 0 false) h4
  omega
end Wh
