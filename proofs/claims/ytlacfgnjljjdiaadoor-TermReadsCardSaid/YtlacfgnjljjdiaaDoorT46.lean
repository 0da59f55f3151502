import Derived.Test.YtlacfgnjljjdiaaDoorT45
set_option linter.unusedVariables false
set_option linter.unusedSimpArgs false
open Go Go.RowKit Go.Proofs
namespace Wh
/-! ### the reference's Of answers as term.Of does -/
theorem dgF_wf {s : ByteArray} : ∀ (F : Nat) (acc : List Int) (a : Nat) (bad : Bool), (∀ d ∈ acc, 0 ≤ d ∧ d ≤ 4294967295) → ∀ d ∈ (dgF s F acc a bad).1, 0 ≤ d ∧ d ≤ 4294967295
  | 0, acc, a, bad, h => h
  | F + 1, acc, a, bad, h => by
    rw [dgF]
    split
    · exact h
    · refine dgF_wf F _ _ _ fun d hd => ?_
      rcases List.mem_append.1 hd with hd | hd
      · exact h d hd
      · simp only [List.mem_singleton] at hd
        subst hd
        exact ⟨by omega, by omega⟩
theorem wfs_snoc : ∀ (l : List Tm) (t : Tm), Tm.wfs l → t.wf → Tm.wfs (l ++ [t])
  | [], t, _, h => ⟨h, trivial⟩
  | x :: l, t, hl, h => ⟨hl.1, wfs_snoc l t hl.2 h⟩
theorem kdF_wf {f : Nat → Bool → Tm × Nat × Bool} (hf : ∀ a bad, (f a bad).1.wf) : ∀ (m : Nat) (l : List Tm) (a : Nat) (bad : Bool), Tm.wfs l → Tm.wfs (kdF f m l a bad).1
  | 0, l, a, bad, h => h
  | m + 1, l, a, bad, h => by
    rw [kdF]
    split
    · exact h
    · exact kdF_wf hf m _ _ _ (wfs_snoc _ _ h (hf _ _))
theorem tmF_wf {s : ByteArray} : ∀ (F a : Nat) (bad : Bool), (tmF s F a bad).1.wf
  | 0, a, bad => by simp [tmF, Tm.zero, Tm.wf, Tm.wfs]
  | F + 1, a, bad => by
    rw [tmF]
    simp only
    split
    · exact ⟨by omega, by omega, by simp, trivial⟩
    · exact ⟨by omega, by omega, dgF_wf _ _ _ _ (by simp), kdF_wf (tmF_wf F) _ _ _ _ trivial⟩
def refOfS (s : ByteArray) : Option Tm := if (tmF s (s.size + 1) 0 false).2.2 = false ∧ (tmF s (s.size + 1) 0 false).1.key = s.data.toList then some (tmF s (s.size + 1) 0 false).1 else none
theorem refOf_eq (s : ByteArray) (hs : s.size ≤ 2147483647) : refOfS s = ofS s := by
  have hsz : s.data.toList.length = s.size := by simp
  unfold refOfS
  cases h : ofS s with
  | some u =>
    obtain ⟨h1, h2⟩ := ofS_some h
    have hk : s.data.toList = u.key := by rw [h1]
    have := tmF_read (s := s) u (s.size + 1) 0 [] h2 (by rw [List.drop_zero, hk, List.append_nil]) (by rw [← hk, hsz]; omega)
    rw [this, if_pos ⟨rfl, hk.symm⟩]
  | none =>
    split
    · rename_i hh
      have hb : s = ⟨(tmF s (s.size + 1) 0 false).1.key.toArray⟩ := by rw [hh.2]
      have := ofS_key _ (by rw [hh.2, hsz]; exact hs) (tmF_wf (s := s) (s.size + 1) 0 false)
      rw [← hb, h] at this
      cases this
    · rfl
end Wh
