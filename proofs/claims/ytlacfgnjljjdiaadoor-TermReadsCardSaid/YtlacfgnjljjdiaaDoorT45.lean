import Derived.Test.YtlacfgnjljjdiaaDoorT44
set_option linter.unusedVariables false
set_option linter.unusedSimpArgs false
open Go Go.RowKit Go.Proofs
namespace Wh
/-! ### the reference's reader as a function; it reads what is written -/
def rsF (s : ByteArray) (most : Nat) (c : Int) (a : Nat) (bad : Bool) : Nat × Nat × Bool :=
  ((numLoop s most s.size 0 a).1, (numLoop s most s.size 0 a).2 + 1, (bad || decide ((numLoop s most s.size 0 a).2 = a) || decide (most < (numLoop s most s.size 0 a).1)) || sgnBad s (numLoop s most s.size 0 a).2 c)
def dgF (s : ByteArray) : Nat → List Int → Nat → Bool → List Int × Nat × Bool
  | 0, ds, a, bad => (ds, a, bad)
  | F + 1, ds, a, bad => if bad = true ∨ nxtIs s a 32 = true then (ds, a, bad) else
    dgF s F (ds ++ [(((rsF s 4294967295 46 a bad).1 % 4294967296 : Nat) : Int)]) (rsF s 4294967295 46 a bad).2.1 (rsF s 4294967295 46 a bad).2.2
def kdF (f : Nat → Bool → Tm × Nat × Bool) : Nat → List Tm → Nat → Bool → List Tm × Nat × Bool
  | 0, l, a, bad => (l, a, bad)
  | m + 1, l, a, bad => if bad = true then (l, a, bad) else kdF f m (l ++ [(f a bad).1]) (f a bad).2.1 (f a bad).2.2
def tmF (s : ByteArray) : Nat → Nat → Bool → Tm × Nat × Bool
  | 0, a, bad => (Tm.zero, a, bad)
  | F + 1, a, bad =>
    let k := rsF s 255 32 a bad
    let n := rsF s s.size 58 k.2.1 k.2.2
    if n.2.2 = true ∨ s.size < n.2.1 + n.1 then (.mk ((k.1 % 256 : Nat) : Int) ⟨#[]⟩ false [] [], n.2.1, true) else
    let a3 := n.2.1 + n.1
    let b3 := sgnBad s a3 32
    let neg := nxtIs s (a3 + 1) 45
    let a4 := if neg then a3 + 2 else a3 + 1
    let d := dgF s (s.size + 2) [] a4 b3
    let m := rsF s s.size 59 (d.2.1 + 1) (d.2.2 || sgnBad s d.2.1 32)
    let q := kdF (tmF s F) m.1 [] m.2.1 m.2.2
    (.mk ((k.1 % 256 : Nat) : Int) (s.extract n.2.1 (n.2.1 + n.1)) neg d.1 q.1, q.2.1, q.2.2)
/-- What a row of digits says behind n. -/
def valD (n : Nat) (l : List UInt8) : Nat := l.foldl (fun n c => 10 * n + (c.toNat - 48)) n
theorem valD_digits (u : Nat) : valD 0 (Lib.decDigits u) = u := by
  induction u using Nat.strongRecOn with
  | ind u ih =>
    rw [Lib.decDigits]
    split
    · rename_i h
      simp only [valD, List.foldl_cons, List.foldl_nil, dig_toNat h]
      omega
    · rename_i h
      have := ih (u / 10) (by omega)
      unfold valD at this ⊢
      rw [List.foldl_append, this]
      simp only [List.foldl_cons, List.foldl_nil, dig_toNat (show u % 10 < 10 by omega)]
      omega
theorem valD_ge : ∀ (l : List UInt8) (n : Nat), n ≤ valD n l
  | [], n => Nat.le_refl _
  | c :: l, n => by
    have := valD_ge l (10 * n + (c.toNat - 48))
    show n ≤ valD (10 * n + (c.toNat - 48)) l
    omega
theorem at_drop {s : ByteArray} {a : Nat} {c : UInt8} {r : List UInt8} (h : s.data.toList.drop a = c :: r) : ∃ hl : a < s.size, s[a] = c ∧ s.data.toList.drop (a + 1) = r := by
  have hlen : s.data.toList.length = s.size := by simp
  have hl : a < s.size := by
    have := congrArg List.length h
    rw [List.length_drop, hlen] at this
    simp at this
    omega
  rw [List.drop_eq_getElem_cons (by omega)] at h
  injection h with h1 h2
  exact ⟨hl, h1, h2⟩
theorem numLoop_read {s : ByteArray} {most : Nat} {c : UInt8} {rest : List UInt8} (hc : ¬ (48 ≤ c.toNat ∧ c.toNat ≤ 57)) : ∀ (ds : List UInt8) (F n a : Nat), (∀ d ∈ ds, 48 ≤ d.toNat ∧ d.toNat ≤ 57) → s.data.toList.drop a = ds ++ c :: rest → valD n ds ≤ most → s.size - a ≤ F →
    numLoop s most F n a = (valD n ds, a + ds.length)
  | [], F, n, a, _, hd, _, hF => by
    obtain ⟨hl, h1, _⟩ := at_drop hd
    exact numLoop_stop hF (fun h hh => hc ⟨by rw [← h1]; exact hh.1, by rw [← h1]; exact hh.2.1⟩)
  | d :: ds, F, n, a, hds, hd, hv, hF => by
    obtain ⟨hl, h1, h2⟩ := at_drop hd
    obtain ⟨d1, d2⟩ := hds d (by simp)
    have hge : n ≤ valD n (d :: ds) := valD_ge _ _
    obtain ⟨G, rfl, hG⟩ := numLoop_go (most := most) (n := n) hF hl ⟨by rw [h1]; exact d1, by rw [h1]; exact d2, by omega⟩
    rw [hG, h1, numLoop_read hc ds G _ (a + 1) (fun x hx => hds x (by simp [hx])) h2 hv (by omega)]
    simp [valD]
    omega
theorem sgn_ok {s : ByteArray} {a : Nat} {c : UInt8} {r : List UInt8} (h : s.data.toList.drop a = c :: r) : sgnBad s a (c.toNat : Int) = false := by
  obtain ⟨hl, h1, _⟩ := at_drop h
  simp [sgnBad, hl, h1]
theorem rsF_read {s : ByteArray} {most u a : Nat} {c : UInt8} {rest : List UInt8} (hc : ¬ (48 ≤ c.toNat ∧ c.toNat ≤ 57)) (hd : s.data.toList.drop a = Lib.decDigits u ++ c :: rest) (hu : u ≤ most) :
    rsF s most (c.toNat : Int) a false = (u, a + (Lib.decDigits u).length + 1, false) ∧ s.data.toList.drop (a + (Lib.decDigits u).length + 1) = rest := by
  have h1 := numLoop_read (most := most) hc _ s.size 0 a (digits_range u) hd (by rw [valD_digits]; exact hu) (by omega)
  rw [valD_digits] at h1
  have h2 : s.data.toList.drop (a + (Lib.decDigits u).length) = c :: rest := by
    rw [← List.drop_drop, hd, List.drop_left]
  have hpos : 0 < (Lib.decDigits u).length := List.length_pos_iff.2 (digits_ne u)
  unfold rsF
  rw [h1]
  simp only [sgn_ok h2]
  have e1 : decide (a + (Lib.decDigits u).length = a) = false := decide_eq_false (by omega)
  have e2 : decide (most < u) = false := decide_eq_false (by omega)
  rw [e1, e2]
  exact ⟨rfl, (at_drop h2).2.2⟩
theorem nxt_is {s : ByteArray} {a : Nat} {c : UInt8} {r : List UInt8} (h : s.data.toList.drop a = c :: r) (k : Int) : nxtIs s a k = ((c.toNat : Int) == k) := by
  obtain ⟨hl, h1, _⟩ := at_drop h
  simp [nxtIs, hl, h1]
theorem dgF_read {s : ByteArray} {rest : List UInt8} : ∀ (ds : List Int) (F a : Nat) (acc : List Int), (∀ d ∈ ds, 0 ≤ d ∧ d ≤ 4294967295) → s.data.toList.drop a = digKey ds ++ 32 :: rest → ds.length < F →
    dgF s F acc a false = (acc ++ ds, a + (digKey ds).length, false) ∧ s.data.toList.drop (a + (digKey ds).length) = 32 :: rest
  | [], F, a, acc, _, hd, hF => by
    obtain ⟨F, rfl⟩ : ∃ G, F = G + 1 := ⟨F - 1, by omega⟩
    have hn := nxt_is (s := s) (a := a) (c := 32) (r := rest) (by simpa [digKey] using hd) 32
    rw [dgF, if_pos (.inr (by rw [hn]; decide))]
    exact ⟨by simp [digKey], by simpa [digKey] using hd⟩
  | d :: ds, F, a, acc, hds, hd, hF => by
    obtain ⟨F, rfl⟩ : ∃ G, F = G + 1 := ⟨F - 1, by omega⟩
    obtain ⟨d0, d1⟩ := hds d (by simp)
    have e : digKey (d :: ds) = Lib.decDigits d.toNat ++ 46 :: digKey ds := by simp [digKey]
    rw [e, List.append_assoc, List.cons_append] at hd
    obtain ⟨r1, r2⟩ := rsF_read (most := 4294967295) (c := 46) (by decide) hd (by omega)
    have hne : nxtIs s a 32 = false := by
      cases hdd : Lib.decDigits d.toNat with
      | nil => exact absurd hdd (digits_ne _)
      | cons x xs =>
        rw [hdd, List.cons_append] at hd
        rw [nxt_is hd 32]
        have := digits_range d.toNat x (by rw [hdd]; simp)
        simp
        omega
    have r1' : rsF s 4294967295 46 a false = (d.toNat, a + (Lib.decDigits d.toNat).length + 1, false) := r1
    obtain ⟨h1, h2⟩ := dgF_read ds F _ (acc ++ [d]) (fun x hx => hds x (by simp [hx])) r2 (by simpa using hF)
    rw [dgF, if_neg (by simp [hne]), r1']
    simp only
    rw [show (((d.toNat % 4294967296 : Nat)) : Int) = d by omega, h1, e]
    refine ⟨?_, ?_⟩
    · simp
      omega
    · rw [List.length_append, List.length_cons, show a + ((Lib.decDigits d.toNat).length + ((digKey ds).length + 1)) = a + (Lib.decDigits d.toNat).length + 1 + (digKey ds).length by omega]
      exact h2
theorem drop_split {s : ByteArray} {a : Nat} {x y : List UInt8} (h : s.data.toList.drop a = x ++ y) : s.data.toList.drop (a + x.length) = y := by
  rw [← List.drop_drop, h, List.drop_left]
theorem drop_room {s : ByteArray} {a : Nat} {x : List UInt8} (h : s.data.toList.drop a = x) : x.length + a ≤ s.size ∨ x = [] := by
  have hlen : s.data.toList.length = s.size := by simp
  have := congrArg List.length h
  rw [List.length_drop, hlen] at this
  by_cases hx : x = []
  · exact .inr hx
  · have : 0 < x.length := List.length_pos_iff.2 hx
    exact .inl (by omega)
theorem drop_extract {s n : ByteArray} {a : Nat} {y : List UInt8} (h : s.data.toList.drop a = n.data.toList ++ y) : s.extract a (a + n.size) = n := by
  have hl : n.data.toList.length = n.size := by simp
  rw [Lib.extract_eq, h, show a + n.size - a = n.data.toList.length by omega, List.take_left]
theorem digs_len : ∀ ds : List Int, ds.length ≤ (digKey ds).length
  | [] => by simp
  | d :: ds => by
    have := digs_len ds
    have e : digKey (d :: ds) = Lib.decDigits d.toNat ++ 46 :: digKey ds := by simp [digKey]
    rw [e, List.length_append, List.length_cons, List.length_cons]
    omega
mutual
theorem tmF_read {s : ByteArray} : ∀ (t : Tm) (F a : Nat) (tail : List UInt8), t.wf → s.data.toList.drop a = t.key ++ tail → t.key.length < F → tmF s F a false = (t, a + t.key.length, false)
  | .mk k n g ds ks, F, a, tail, hwf, hd, hF => by
    obtain ⟨F, rfl⟩ : ∃ G, F = G + 1 := ⟨F - 1, by omega⟩
    obtain ⟨k0, k1, hds, hks⟩ := hwf
    have e0 := key_split k n g ds ks []
    rw [List.append_nil, List.append_nil] at e0
    have hl : (Tm.mk k n g ds ks).key.length = _ := congrArg List.length e0
    simp only [List.length_append, List.length_cons] at hl
    have hn : n.data.toList.length = n.size := by simp
    have hkl := keys_len ks
    have hroom := drop_room hd
    have hroom2 : (Tm.mk k n g ds ks).key.length + a ≤ s.size := by
      rcases hroom with h | h
      · rw [List.length_append] at h
        omega
      · have := Tm.key_ne (Tm.mk k n g ds ks)
        simp_all
    rw [key_split] at hd
    obtain ⟨r1, d1⟩ := rsF_read (most := 255) (c := 32) (by decide) hd (by omega)
    obtain ⟨r2, d2⟩ := rsF_read (most := s.size) (c := 58) (by decide) d1 (by omega)
    have r1' : rsF s 255 32 a false = (k.toNat, a + (Lib.decDigits k.toNat).length + 1, false) := r1
    have r2' : rsF s s.size 58 (a + (Lib.decDigits k.toNat).length + 1) false = (n.size, a + (Lib.decDigits k.toNat).length + 1 + (Lib.decDigits n.size).length + 1, false) := r2
    generalize ha2 : a + (Lib.decDigits k.toNat).length + 1 + (Lib.decDigits n.size).length + 1 = a2 at *
    have d3 := drop_split d2
    rw [hn] at d3
    have s1 : sgnBad s (a2 + n.size) 32 = false := sgn_ok (c := 32) d3
    have d4 := (at_drop d3).2.2
    have hneg : nxtIs s (a2 + n.size + 1) 45 = g := by
      cases g with
      | true => exact nxt_is (c := 45) (by simpa using d4) 45
      | false =>
        simp only [Bool.false_eq_true, if_false, List.nil_append] at d4
        cases hdk : digKey ds with
        | nil =>
          rw [hdk] at d4
          rw [nxt_is (c := 32) d4 45]
          decide
        | cons x xs =>
          have hno := digKey_no 45 (by decide) ds
          rw [hdk] at d4 hno
          rw [nxt_is (c := x) d4 45]
          have : x ≠ 45 := fun e => hno (by simp [e])
          have h2 : x.toNat ≠ 45 := fun e => this (UInt8.toNat_inj.1 e)
          simp
          omega
    have d5 : s.data.toList.drop (if g then a2 + n.size + 2 else a2 + n.size + 1) = digKey ds ++ 32 :: (Lib.decDigits ks.length ++ 59 :: (Tm.keys ks ++ tail)) := by
      cases g with
      | true => exact (at_drop (c := 45) (by simpa using d4)).2.2
      | false => simpa using d4
    generalize ha4 : (if g then a2 + n.size + 2 else a2 + n.size + 1) = a4 at *
    have hdl := digs_len ds
    obtain ⟨r3, d6⟩ := dgF_read ds (s.size + 2) a4 [] hds d5 (by omega)
    have s2 : sgnBad s (a4 + (digKey ds).length) 32 = false := sgn_ok (c := 32) d6
    have d7 := (at_drop d6).2.2
    obtain ⟨r4, d8⟩ := rsF_read (most := s.size) (c := 59) (by decide) d7 (by omega)
    have r4' : rsF s s.size 59 (a4 + (digKey ds).length + 1) false = (ks.length, a4 + (digKey ds).length + 1 + (Lib.decDigits ks.length).length + 1, false) := r4
    generalize ha5 : a4 + (digKey ds).length + 1 + (Lib.decDigits ks.length).length + 1 = a5 at *
    have r5 := kdF_read ks F a5 [] tail hks d8 (by omega)
    rw [tmF]
    simp only [r1', r2', Bool.false_eq_true, false_or]
    rw [if_neg (by omega), hneg, ha4, s1, r3]
    simp only [s2, Bool.or_false, r4']
    rw [r5, drop_extract d2]
    have hk : ((k.toNat % 256 : Nat) : Int) = k := by omega
    rw [hk]
    simp only [List.nil_append, Prod.mk.injEq, true_and, and_true]
    rw [hl]
    cases g <;> simp at ha4 hl ⊢ <;> omega
theorem kdF_read {s : ByteArray} : ∀ (l : List Tm) (F a : Nat) (acc : List Tm) (tail : List UInt8), Tm.wfs l → s.data.toList.drop a = Tm.keys l ++ tail → (Tm.keys l).length < F → kdF (tmF s F) l.length acc a false = (acc ++ l, a + (Tm.keys l).length, false)
  | [], F, a, acc, tail, _, _, _ => by simp [kdF, Tm.keys]
  | t :: ts, F, a, acc, tail, hwf, hd, hF => by
    rw [Tm.keys, List.length_append] at hF
    rw [Tm.keys, List.append_assoc] at hd
    have h1 := tmF_read t F a _ hwf.1 hd (by omega)
    have h2 := kdF_read ts F (a + t.key.length) (acc ++ [t]) tail hwf.2 (drop_split hd) (by omega)
    rw [List.length_cons, kdF, if_neg (by simp), h1]
    simp only
    rw [h2, Tm.keys, List.length_append]
    simp
    omega
end
end Wh
