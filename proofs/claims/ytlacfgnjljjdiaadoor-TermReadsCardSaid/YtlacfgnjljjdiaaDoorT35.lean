import Derived.Test.YtlacfgnjljjdiaaDoorT34
import Derived.Lib.ItoaLen
set_option linter.unusedVariables false
set_option linter.unusedSimpArgs false
open Go Go.RowKit Go.Proofs
namespace Wh
/-! ### what is written is what is read -/
theorem parseUintM_append (M : Nat) : ∀ (l r : List UInt8) (acc a : Nat), Lib.parseUintM M acc l = .ok a → Lib.parseUintM M acc (l ++ r) = Lib.parseUintM M a r
  | [], r, acc, a, h => by simp only [Lib.parseUintM] at h; injection h with h; subst h; rfl
  | c :: l, r, acc, a, h => by
    rw [List.cons_append, Lib.parseUintM]
    rw [Lib.parseUintM] at h
    split at h
    · rename_i hc
      rw [if_pos hc]
      split at h
      · cases h
      · rename_i h1
        rw [if_neg h1]
        split at h
        · cases h
        · rename_i h2
          rw [if_neg h2]
          exact parseUintM_append M l r _ _ h
    · cases h
theorem dig_toNat {n : Nat} (h : n < 10) : (UInt8.ofNat (48 + n)).toNat = 48 + n := by simp [UInt8.toNat_ofNat']; omega
theorem parse_digits (M : Nat) (hM : M ≤ 18446744073709551615) (u : Nat) (hu : u ≤ M) : Lib.parseUintM M 0 (Lib.decDigits u) = .ok u := by
  induction u using Nat.strongRecOn with
  | ind u ih =>
    rw [Lib.decDigits]
    split
    · rename_i h
      rw [Lib.parseUintM, dig_toNat h, if_pos (by omega), if_neg (by omega), if_neg (by omega), Lib.parseUintM]
      congr 1
      omega
    · rename_i h
      rw [parseUintM_append M _ _ 0 (u / 10) (ih (u / 10) (by omega) (by omega)), Lib.parseUintM, dig_toNat (by omega), if_pos (by omega), if_neg (by omega), if_neg (by omega), Lib.parseUintM]
      congr 1
      omega
theorem digits_range (u : Nat) : ∀ c ∈ Lib.decDigits u, 48 ≤ c.toNat ∧ c.toNat ≤ 57 := by
  induction u using Nat.strongRecOn with
  | ind u ih =>
    intro c hc
    rw [Lib.decDigits] at hc
    split at hc
    · rename_i h
      simp only [List.mem_singleton] at hc
      subst hc
      rw [dig_toNat h]
      omega
    · rename_i h
      rw [List.mem_append] at hc
      rcases hc with hc | hc
      · exact ih (u / 10) (by omega) c hc
      · simp only [List.mem_singleton] at hc
        subst hc
        rw [dig_toNat (by omega)]
        omega
theorem digits_no (u : Nat) (c : UInt8) (h : c.toNat < 48 ∨ 57 < c.toNat) : c ∉ Lib.decDigits u := fun hc => by have := digits_range u c hc; omega
theorem digits_ne (u : Nat) : Lib.decDigits u ≠ [] := by
  rw [Lib.decDigits]
  split <;> simp
theorem numOf_digits {u most : Nat} (h : u ≤ most) (hm : most ≤ 4294967295) : numOf (Lib.decDigits u) most = some u := by
  unfold numOf Lib.parseUintB
  rw [if_neg (digits_ne u), parse_digits _ (by decide) u (by omega)]
  simp [h]
def bs (l : List UInt8) : ByteArray := ⟨l.toArray⟩
theorem bs_list (l : List UInt8) : (bs l).data.toList = l := by simp [bs]
theorem bs_size (l : List UInt8) : (bs l).size = l.length := by simp [bs, ByteArray.size]
theorem bs_data (s : ByteArray) : bs s.data.toList = s := by simp [bs]
theorem indexByte_hit (c : UInt8) (r : List UInt8) : ∀ l : List UInt8, c ∉ l → Lib.indexByte (l ++ c :: r) c = l.length
  | [], _ => by simp [Lib.indexByte]
  | b :: l, h => by
    have h1 : (b == c) = false := by simp; intro e; exact h (by simp [e])
    have ih := indexByte_hit c r l (fun hh => h (by simp [hh]))
    rw [List.cons_append, Lib.indexByte, h1, ih]
    simp
theorem cutO_hit (c : UInt8) (l r : List UInt8) (h : c ∉ l) : cutO (bs (l ++ c :: r)) c = some (bs l, bs r) := by
  have hi : Lib.index (l ++ c :: r) [c] = (l.length : Int) := by rw [Lib.index_one, indexByte_hit c r l h]
  have hc : Lib.cut (l ++ c :: r) [c] = (l, r, true) := by
    unfold Lib.cut
    rw [hi, if_pos (by omega)]
    simp
  unfold cutO cutS
  rw [bs_list, hc]
  simp [bs]
theorem nameO_hit (n : ByteArray) (r : List UInt8) : nameO (bs (n.data.toList ++ 32 :: r)) n.size = some (n, bs r) := by
  have hl : n.data.toList.length = n.size := by simp
  unfold nameO
  rw [bs_list, if_pos (by rw [List.getElem?_append_right (by omega), hl]; simp)]
  have e1 : (bs (n.data.toList ++ 32 :: r)).extract 0 n.size = n := by
    rw [Lib.extract_eq, bs_list, Nat.sub_zero, List.drop_zero, List.take_append_of_le_length (by omega), List.take_of_length_le (by omega)]
  have e2 : (bs (n.data.toList ++ 32 :: r)).extract (n.size + 1) (bs (n.data.toList ++ 32 :: r)).size = bs r := by
    have e3 : List.drop (n.size + 1) (n.data.toList ++ 32 :: r) = r := by
      rw [List.drop_append, List.drop_of_length_le (by omega), hl]
      simp
    rw [Lib.extract_eq, bs_list, e3, bs_size, List.take_of_length_le (by simp; omega)]
    rfl
  rw [e1, e2]
theorem rdDigits_key : ∀ (ds : List Int) (F : Nat), (digKey ds).length < F → (∀ d ∈ ds, 0 ≤ d ∧ d ≤ 4294967295) → rdDigits F (bs (digKey ds)) = some ds
  | [], F, hF, _ => by
    obtain ⟨F, rfl⟩ : ∃ G, F = G + 1 := ⟨F - 1, by omega⟩
    simp [rdDigits, digKey, bs_size]
  | d :: ds, F, hF, hd => by
    obtain ⟨F, rfl⟩ : ∃ G, F = G + 1 := ⟨F - 1, by omega⟩
    obtain ⟨h0, h1⟩ := hd d (by simp)
    have e : digKey (d :: ds) = Lib.decDigits d.toNat ++ 46 :: digKey ds := by simp [digKey]
    rw [e] at hF ⊢
    simp only [List.length_append, List.length_cons] at hF
    rw [rdDigits, bs_size, if_neg (by simp), cutO_hit 46 _ _ (digits_no _ _ (by decide)), Option.bind_some, bs_list, numOf_digits (by omega) (by omega), Option.bind_some, rdDigits_key ds F (by omega) (fun x hx => hd x (by simp [hx]))]
    simp
    omega
theorem key_split (k : Int) (n : ByteArray) (g : Bool) (ds : List Int) (ks : List Tm) (tail : List UInt8) : (Tm.mk k n g ds ks).key ++ tail =
    Lib.decDigits k.toNat ++ 32 :: (Lib.decDigits n.size ++ 58 :: (n.data.toList ++ 32 :: (((if g then [45] else []) ++ digKey ds) ++ 32 :: (Lib.decDigits ks.length ++ 59 :: (Tm.keys ks ++ tail))))) := by
  simp [Tm.key]
theorem digKey_no (c : UInt8) (h : c.toNat < 46 ∨ 57 < c.toNat) (ds : List Int) : c ∉ digKey ds := by
  unfold digKey
  intro hc
  rw [List.mem_flatten] at hc
  obtain ⟨l, hl, hc⟩ := hc
  rw [List.mem_map] at hl
  obtain ⟨d, _, rfl⟩ := hl
  rw [List.mem_append] at hc
  rcases hc with hc | hc
  · have := digits_range _ c hc
    omega
  · simp only [List.mem_singleton] at hc
    subst hc
    revert h
    decide
theorem trim_key (g : Bool) (ds : List Int) : trimD (bs ((if g then [45] else []) ++ digKey ds)) = bs (digKey ds) ∧ hasD (bs ((if g then [45] else []) ++ digKey ds)) = g := by
  cases g with
  | true =>
    unfold trimD hasD
    rw [bs_list]
    constructor <;> simp [Lib.trimPrefix, Lib.hasPrefix, bs]
  | false =>
    have hf : Lib.hasPrefix (digKey ds) [45] = false := by
      have hno := digKey_no 45 (by decide) ds
      cases hd : digKey ds with
      | nil => simp [Lib.hasPrefix]
      | cons a r =>
        rw [hd] at hno
        simp [Lib.hasPrefix, List.isPrefixOf]
        intro e
        exact hno (by simp [e])
    unfold trimD hasD
    rw [bs_list]
    simp only [Bool.false_eq_true, if_false, List.nil_append]
    refine ⟨?_, hf⟩
    unfold Lib.trimPrefix
    rw [hf]
    simp [bs]
mutual
theorem rdTerm_key : ∀ (t : Tm) (F : Nat) (tail : List UInt8), t.key.length < F → t.key.length ≤ 2147483647 → t.wf → rdTerm F (bs (t.key ++ tail)) = some (t, bs tail)
  | .mk k n g ds ks, F, tail, hF, hb, hwf => by
    obtain ⟨F, rfl⟩ : ∃ G, F = G + 1 := ⟨F - 1, by omega⟩
    obtain ⟨k0, k1, hds, hks⟩ := hwf
    have e0 := key_split k n g ds ks []
    rw [List.append_nil, List.append_nil] at e0
    have hl : (Tm.mk k n g ds ks).key.length = _ := congrArg List.length e0
    simp only [List.length_append, List.length_cons] at hl
    have hn : n.data.toList.length = n.size := by simp
    have hkl := keys_len ks
    have hm : (32 : UInt8) ∉ (if g then [45] else []) ++ digKey ds := by
      rw [List.mem_append]
      rintro (h | h)
      · cases g <;> simp at h
      · exact digKey_no 32 (by decide) ds h
    obtain ⟨t1, t2⟩ := trim_key g ds
    rw [key_split, rdTerm, cutO_hit 32 _ _ (digits_no _ _ (by decide)), Option.bind_some]
    simp only []
    rw [cutO_hit 58 _ _ (digits_no _ _ (by decide)), Option.bind_some]
    simp only [bs_list]
    rw [numOf_digits (by omega) (by omega), Option.bind_some, numOf_digits (by omega) (by omega), Option.bind_some, nameO_hit, Option.bind_some]
    simp only []
    rw [cutO_hit 32 _ _ hm, Option.bind_some]
    simp only []
    rw [t1, t2, rdDigits_key ds _ (by rw [bs_size, List.length_append]; omega) hds, Option.bind_some, cutO_hit 59 _ _ (digits_no _ _ (by decide)), Option.bind_some]
    simp only [bs_list]
    rw [numOf_digits (by omega) (by omega), Option.bind_some, kidsO_key ks F tail (by omega) (by omega) hks]
    simp
    omega
theorem kidsO_key : ∀ (l : List Tm) (F : Nat) (tail : List UInt8), (Tm.keys l).length < F → (Tm.keys l).length ≤ 2147483647 → Tm.wfs l → kidsO (rdTerm F) l.length (bs (Tm.keys l ++ tail)) = some (l, bs tail)
  | [], F, tail, _, _, _ => by simp [kidsO, Tm.keys]
  | t :: ts, F, tail, hF, hb, hwf => by
    rw [Tm.keys, List.length_append] at hF hb
    rw [Tm.keys, List.append_assoc, List.length_cons, kidsO, rdTerm_key t F _ (by omega) (by omega) hwf.1, Option.bind_some, kidsO_key ts F tail (by omega) (by omega) hwf.2]
    rfl
theorem keys_len : ∀ l : List Tm, l.length ≤ (Tm.keys l).length
  | [] => by simp
  | t :: ts => by
    have := keys_len ts
    have h1 : 0 < t.key.length := List.length_pos_iff.2 t.key_ne
    rw [Tm.keys, List.length_append, List.length_cons]
    omega
end
theorem ofS_key (t : Tm) (hb : t.key.length ≤ 2147483647) (hwf : t.wf) : ofS ⟨t.key.toArray⟩ = some t := by
  have := rdTerm_key t (t.key.length + 1) [] (by omega) hb hwf
  rw [List.append_nil] at this
  show ofS (bs t.key) = some t
  unfold ofS
  rw [bs_size, this, Option.bind_some, if_pos (by rw [bs_size]; rfl)]
theorem key_inj {a b : Tm} (ha : a.key.length ≤ 2147483647) (wa : a.wf) (wb : b.wf) (h : a.key = b.key) : a = b := by
  have h1 := ofS_key a ha wa
  have h2 := ofS_key b (by rw [← h]; exact ha) wb
  rw [h] at h1
  rw [h1] at h2
  exact Option.some.inj h2
mutual
theorem key_bound : ∀ t : Tm, t.wf → t.low → (t.key.length : Int) ≤ 100 * t.parts
  | .mk k n g ds ks, hwf, hlow => by
    obtain ⟨k0, k1, hds, hks⟩ := hwf
    obtain ⟨l1, l2, l3, l4⟩ := hlow
    have hk := keys_bound ks hks l4
    have e0 := key_split k n g ds ks []
    rw [List.append_nil, List.append_nil] at e0
    have hl : (Tm.mk k n g ds ks).key.length = _ := congrArg List.length e0
    simp only [List.length_append, List.length_cons, Lib.decDigits_length] at hl
    have a1 := Lib.nDigits_le20 k.toNat (by omega)
    have a2 := Lib.nDigits_le20 n.size (by omega)
    have a3 := Lib.nDigits_le20 ks.length (by omega)
    have a4 := digKey_bound ds hds
    have a5 : (if g then [(45 : UInt8)] else []).length ≤ 1 := by cases g <;> simp
    have hn : n.data.toList.length = n.size := by simp
    rw [Tm.parts]
    omega
theorem keys_bound : ∀ l : List Tm, Tm.wfs l → Tm.lows l → ((Tm.keys l).length : Int) ≤ 100 * Tm.partss l
  | [], _, _ => by simp [Tm.keys, Tm.partss]
  | t :: ts, hwf, hlow => by
    have h1 := key_bound t hwf.1 hlow.1
    have h2 := keys_bound ts hwf.2 hlow.2
    rw [Tm.keys, Tm.partss, List.length_append]
    omega
theorem digKey_bound : ∀ ds : List Int, (∀ d ∈ ds, 0 ≤ d ∧ d ≤ 4294967295) → (digKey ds).length ≤ 21 * ds.length
  | [], _ => by simp [digKey]
  | d :: ds, h => by
    have h1 := digKey_bound ds (fun x hx => h x (by simp [hx]))
    obtain ⟨a, b⟩ := h d (by simp)
    have e : digKey (d :: ds) = Lib.decDigits d.toNat ++ 46 :: digKey ds := by simp [digKey]
    have h2 := Lib.nDigits_le20 d.toNat (by omega)
    rw [e, List.length_append, List.length_cons, Lib.decDigits_length, List.length_cons]
    omega
end
end Wh
