import Derived.Test.YtlacfgnjljjdiaaDoorT35
set_option linter.unusedVariables false
set_option linter.unusedSimpArgs false
open Go Go.RowKit Go.Proofs
namespace Wh
/-! ### what is read is what is written -/
theorem cutO_bytes {s x y : ByteArray} {c : UInt8} (h : cutO s c = some (x, y)) : s.data.toList = x.data.toList ++ c :: y.data.toList := by
  unfold cutO at h
  split at h
  · rename_i hf
    injection h with h
    injection h with h1 h2
    subst h1 h2
    unfold cutS at hf ⊢
    unfold Lib.cut at hf ⊢
    split at hf
    · rename_i hi
      rw [if_pos hi]
      simp only [List.length_cons, List.length_nil]
      have hix := Lib.index_one s.data.toList c
      generalize hj : (Lib.index s.data.toList [c]).toNat = j
      have hj2 : Lib.indexByte s.data.toList c = j := by rw [← hix]; omega
      have key : ∀ (l : List UInt8) (j : Nat), Lib.indexByte l c = (j : Int) → l[j]? = some c := by
        intro l
        induction l with
        | nil => intro j h; simp [Lib.indexByte] at h
        | cons b l ih =>
          intro j h
          rw [Lib.indexByte] at h
          split at h
          · rename_i hb
            have : j = 0 := by omega
            subst this
            simpa using hb
          · split at h
            · have := Lib.indexByte_ge l c
              omega
            · rename_i hn
              have hge := Lib.indexByte_ge l c
              have h0 : Lib.indexByte l c ≠ -1 := by simpa using hn
              obtain ⟨k, rfl⟩ : ∃ k, j = k + 1 := ⟨j - 1, by omega⟩
              simpa using ih k (by omega)
      have hg := key _ _ hj2
      obtain ⟨hlt, hge⟩ := List.getElem?_eq_some_iff.1 hg
      conv => lhs; rw [← List.take_append_drop j s.data.toList, List.drop_eq_getElem_cons hlt, hge]
    · simp at hf
  · cases h
theorem nameO_bytes {s x y : ByteArray} {n : Nat} (h : nameO s n = some (x, y)) : s.data.toList = x.data.toList ++ 32 :: y.data.toList ∧ x.size = n := by
  unfold nameO at h
  split at h
  · rename_i hf
    injection h with h
    injection h with h1 h2
    subst h1 h2
    obtain ⟨hlt, hge⟩ := List.getElem?_eq_some_iff.1 hf
    have hs : s.data.toList.length = s.size := by simp
    have e1 : (s.extract 0 n).data.toList = s.data.toList.take n := by rw [Lib.extract_eq]; simp
    have e2 : (s.extract (n + 1) s.size).data.toList = s.data.toList.drop (n + 1) := by
      rw [Lib.extract_eq]
      simp only [List.toList_toArray]
      rw [List.take_of_length_le (by rw [List.length_drop, hs]; omega)]
    refine ⟨?_, ?_⟩
    · rw [e1, e2]
      conv => lhs; rw [← List.take_append_drop n s.data.toList, List.drop_eq_getElem_cons hlt, hge]
    · rw [ByteArray.size_extract]
      omega
  · cases h
theorem numOf_bytes {l : List UInt8} {most u : Nat} (h : numOf l most = some u) : l = Lib.decDigits u ∧ u ≤ most := by
  unfold numOf at h
  split at h
  · split at h
    · rename_i hh
      injection h with h
      subst h
      exact ⟨hh.2.symm, hh.1⟩
    · cases h
  · cases h
theorem rdDigits_bytes : ∀ (F : Nat) (s : ByteArray) (ds : List Int), rdDigits F s = some ds → s.data.toList = digKey ds ∧ ∀ d ∈ ds, 0 ≤ d ∧ d ≤ 4294967295
  | 0, s, ds, h => by simp [rdDigits] at h
  | F + 1, s, ds, h => by
    rw [rdDigits] at h
    split at h
    · rename_i h0
      injection h with h
      subst h
      exact ⟨(List.length_eq_zero_iff.1 (by simpa using h0)).trans (by simp [digKey]), by simp⟩
    · obtain ⟨p, hp, h⟩ := Option.bind_eq_some_iff.1 h
      obtain ⟨x, hx, h⟩ := Option.bind_eq_some_iff.1 h
      obtain ⟨l, hl, rfl⟩ := Option.map_eq_some_iff.1 h
      obtain ⟨p1, p2⟩ := p
      obtain ⟨e1, e2⟩ := rdDigits_bytes F p2 l hl
      obtain ⟨e3, e4⟩ := numOf_bytes hx
      refine ⟨?_, fun d hd => ?_⟩
      · rw [cutO_bytes hp, e1, e3]
        simp [digKey]
      · rcases List.mem_cons.1 hd with rfl | hd
        · exact ⟨by omega, by omega⟩
        · exact e2 d hd
theorem trim_bytes (s : ByteArray) : s.data.toList = (if hasD s then [45] else []) ++ (trimD s).data.toList := by
  unfold trimD hasD Lib.trimPrefix
  cases h : Lib.hasPrefix s.data.toList [45] with
  | false => simp
  | true =>
    generalize s.data.toList = l at h ⊢
    cases l with
    | nil => simp [Lib.hasPrefix] at h
    | cons a r =>
      simp [Lib.hasPrefix, List.isPrefixOf] at h
      subst h
      simp
def Reads (F : Nat) : Prop := ∀ (s : ByteArray) (t : Tm) (r : ByteArray), rdTerm F s = some (t, r) → s.data.toList = t.key ++ r.data.toList ∧ t.wf
theorem kidsO_bytes {F : Nat} (hF : Reads F) : ∀ (m : Nat) (s : ByteArray) (l : List Tm) (r : ByteArray), kidsO (rdTerm F) m s = some (l, r) → s.data.toList = Tm.keys l ++ r.data.toList ∧ Tm.wfs l ∧ l.length = m
  | 0, s, l, r, h => by
    simp only [kidsO] at h
    injection h with h
    injection h with h1 h2
    subst h1 h2
    simp [Tm.keys, Tm.wfs]
  | m + 1, s, l, r, h => by
    rw [kidsO] at h
    obtain ⟨⟨t, s2⟩, hp, h⟩ := Option.bind_eq_some_iff.1 h
    obtain ⟨⟨ts, s3⟩, hq, h⟩ := Option.map_eq_some_iff.1 h
    injection h with h1 h2
    subst h1 h2
    obtain ⟨e1, e2⟩ := hF _ _ _ hp
    obtain ⟨e3, e4, e5⟩ := kidsO_bytes hF m _ _ _ hq
    simp only at e3 e4 e5 e1
    exact ⟨by rw [e1, e3]; simp [Tm.keys], ⟨e2, e4⟩, by simp [e5]⟩
theorem rdTerm_bytes : ∀ F, Reads F
  | 0 => fun s t r h => by simp [rdTerm] at h
  | F + 1 => fun s t r h => by
    rw [rdTerm] at h
    obtain ⟨⟨a1, a2⟩, ha, h⟩ := Option.bind_eq_some_iff.1 h
    obtain ⟨⟨b1, b2⟩, hb, h⟩ := Option.bind_eq_some_iff.1 h
    obtain ⟨k, hk, h⟩ := Option.bind_eq_some_iff.1 h
    obtain ⟨n, hn, h⟩ := Option.bind_eq_some_iff.1 h
    obtain ⟨⟨c1, c2⟩, hc, h⟩ := Option.bind_eq_some_iff.1 h
    obtain ⟨⟨d1, d2⟩, hd, h⟩ := Option.bind_eq_some_iff.1 h
    obtain ⟨ds, hds, h⟩ := Option.bind_eq_some_iff.1 h
    obtain ⟨⟨e1, e2⟩, he, h⟩ := Option.bind_eq_some_iff.1 h
    obtain ⟨m, hm, h⟩ := Option.bind_eq_some_iff.1 h
    obtain ⟨⟨q1, q2⟩, hq, h⟩ := Option.map_eq_some_iff.1 h
    injection h with h1 h2
    subst h1 h2
    obtain ⟨nk, lk⟩ := numOf_bytes hk
    obtain ⟨nn, ln⟩ := numOf_bytes hn
    obtain ⟨nm, lm⟩ := numOf_bytes hm
    obtain ⟨hc1, hc2⟩ := nameO_bytes hc
    obtain ⟨hd1, hd2⟩ := rdDigits_bytes _ _ _ hds
    obtain ⟨hq1, hq2, hq3⟩ := kidsO_bytes (rdTerm_bytes F) _ _ _ _ hq
    simp only at nk nn nm hc1 hc2 hd1 hq1 hq2 hq3
    refine ⟨?_, ?_, ?_, hd2, hq2⟩
    · rw [key_split, cutO_bytes ha, cutO_bytes hb, hc1, cutO_bytes hd, trim_bytes d1, hd1, cutO_bytes he, hq1, nk, nn, nm, hc2, hq3]
      simp
    · omega
    · omega
theorem ofS_some {s : ByteArray} {t : Tm} (h : ofS s = some t) : s = ⟨t.key.toArray⟩ ∧ t.wf := by
  unfold ofS at h
  obtain ⟨⟨t', r⟩, hp, h⟩ := Option.bind_eq_some_iff.1 h
  split at h
  · rename_i h0
    injection h with h
    subst h
    obtain ⟨e1, e2⟩ := rdTerm_bytes _ _ _ _ hp
    have hr : r.data.toList = [] := List.length_eq_zero_iff.1 (by simpa using h0)
    rw [hr, List.append_nil] at e1
    exact ⟨by rw [← e1], e2⟩
  · cases h
end Wh
