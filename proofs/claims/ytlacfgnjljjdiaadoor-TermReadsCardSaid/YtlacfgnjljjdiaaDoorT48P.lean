import Derived.Test.YtlacfgnjljjdiaaDoorT47
set_option linter.unusedVariables false
set_option linter.unusedSimpArgs false
open Go Go.RowKit Go.Proofs
namespace Wh
/-! ### the reference's reader as a function: how far it gets -/
theorem numLoop_ge {s : ByteArray} {most : Nat} : ∀ (F n a : Nat), a ≤ (numLoop s most F n a).2
  | 0, n, a => Nat.le_refl _
  | F + 1, n, a => by
    rw [numLoop]
    split
    · split
      · have := numLoop_ge (s := s) (most := most) F (10 * n + (s[a].toNat - 48)) (a + 1)
        omega
      · exact Nat.le_refl _
    · exact Nat.le_refl _
theorem rsF_ge {s : ByteArray} {most : Nat} {c : Int} {a : Nat} {bad : Bool} : a < (rsF s most c a bad).2.1 := by
  have := numLoop_ge (s := s) (most := most) s.size 0 a
  simp only [rsF]
  omega
theorem rsF_bad {s : ByteArray} {most : Nat} {c : Int} {a : Nat} : (rsF s most c a true).2.2 = true := by simp [rsF]
/-- A number that is well: the sign behind it stood there. -/
theorem rsF_room {s : ByteArray} {most a n a' : Nat} {c : Int} {bad : Bool} (h : rsF s most c a bad = (n, a', false)) : a' ≤ s.size ∧ n ≤ most := by
  unfold rsF at h
  injection h with h1 h2
  injection h2 with h2 h3
  simp only [Bool.or_eq_false_iff, decide_eq_false_iff_not, sgnBad] at h3
  obtain ⟨⟨_, h4⟩, h5⟩ := h3
  constructor
  · split at h5
    · omega
    · cases h5
  · omega
theorem dgF_ge {s : ByteArray} : ∀ (F : Nat) (ds : List Int) (a : Nat) (bad : Bool), a ≤ (dgF s F ds a bad).2.1
  | 0, ds, a, bad => Nat.le_refl _
  | F + 1, ds, a, bad => by
    rw [dgF]
    split
    · exact Nat.le_refl _
    · have := dgF_ge (s := s) F (ds ++ [(((rsF s 4294967295 46 a bad).1 % 4294967296 : Nat) : Int)]) (rsF s 4294967295 46 a bad).2.1 (rsF s 4294967295 46 a bad).2.2
      have := rsF_ge (s := s) (most := 4294967295) (c := 46) (a := a) (bad := bad)
      omega
/-- tmF, part by part: a text that ends too early. -/
theorem tmF_short {s : ByteArray} {F a n1 a1 n2 a2 : Nat} {bad1 bad2 : Bool} (h1 : rsF s 255 32 a false = (n1, a1, bad1)) (h2 : rsF s s.size 58 a1 bad1 = (n2, a2, bad2)) (h : bad2 = true ∨ s.size < a2 + n2) :
    tmF s (F + 1) a false = (.mk ((n1 : Int) % 256) ⟨#[]⟩ false [] [], a2, true) := by
  rw [tmF]
  simp only [h1, h2, if_pos h]
  simp
/-- tmF, part by part. -/
theorem tmF_long {s : ByteArray} {F a n1 a1 n2 a2 a5 m a6 a7 : Nat} {bad1 b5 b6 b7 neg : Bool} {ds : List Int} {ks : List Tm} (h1 : rsF s 255 32 a false = (n1, a1, bad1)) (h2 : rsF s s.size 58 a1 bad1 = (n2, a2, false)) (h : a2 + n2 ≤ s.size)
    (hn : nxtIs s (a2 + n2 + 1) 45 = neg) (hd : dgF s (s.size + 2) [] (if neg then a2 + n2 + 2 else a2 + n2 + 1) (sgnBad s (a2 + n2) 32) = (ds, a5, b5))
    (hm : rsF s s.size 59 (a5 + 1) (b5 || sgnBad s a5 32) = (m, a6, b6)) (hk : kdF (tmF s F) m [] a6 b6 = (ks, a7, b7)) :
    tmF s (F + 1) a false = (.mk ((n1 : Int) % 256) (s.extract a2 (a2 + n2)) neg ds ks, a7, b7) := by
  subst hn
  rw [tmF]
  simp only [h1, h2]
  rw [if_neg (by simp; omega)]
  simp only [hd, hm, hk]
  simp
end Wh
