import Derived.Test.YtlacfgnjljjdiaaDoorS5
import Derived.Test.YtlacfgnjljjdiaaDoorT14
import Derived.Test.YtlacfgnjljjdiaaDoorT29
set_option linter.unusedVariables false
set_option linter.unusedSimpArgs false
open Go Go.RowKit Go.Proofs
namespace Wh
/-! ### plain law of TermSubst -/
theorem lookTo_some {l : List ByteArray} {ts : List Tm} {n : ByteArray} {t : Tm} : ∀ {k : Nat}, lookTo l ts n k = some t → ∃ i, i < k ∧ l[i]? = some n ∧ ts[i]? = some t
  | 0, h => by simp [lookTo] at h
  | k + 1, h => by
    rw [lookTo] at h
    split at h
    · rename_i hn
      exact ⟨k, by omega, hn, h⟩
    · obtain ⟨i, h1, h2⟩ := lookTo_some h
      exact ⟨i, by omega, h2⟩
theorem lookTo_none {l : List ByteArray} {ts : List Tm} {n : ByteArray} : ∀ {k : Nat}, k ≤ ts.length → lookTo l ts n k = none → ∀ i, i < k → l[i]? ≠ some n
  | 0, _, _, i, hi => absurd hi (by omega)
  | k + 1, hk, h, i, hi => by
    rw [lookTo] at h
    split at h
    · rw [List.getElem?_eq_getElem (by omega)] at h
      cases h
    · rename_i hn
      by_cases hik : i = k
      · subst hik
        exact hn
      · exact lookTo_none (by omega) h i (by omega)
theorem look_some {l : List ByteArray} {ts : List Tm} {n : ByteArray} {t : Tm} (h : look l ts n = some t) : ∃ i, i < l.length ∧ l[i]? = some n ∧ ts[i]? = some t := by
  obtain ⟨i, h1, h2⟩ := lookTo_some h
  exact ⟨i, by omega, h2⟩
theorem look_none {l : List ByteArray} {ts : List Tm} {n : ByteArray} (hlen : l.length ≤ ts.length) (h : look l ts n = none) : n ∉ l := by
  intro hm
  obtain ⟨i, hi, rfl⟩ := List.getElem_of_mem hm
  exact lookTo_none (by omega) h i (by omega) (List.getElem?_eq_getElem hi)
theorem putOf_some {l : List ByteArray} {ts : List Tm} {k : Int} {n : ByteArray} {g : Bool} {ds : List Int} {ks : List Tm} {x : Tm} (h : Tm.putOf l ts (.mk k n g ds ks) = some x) : k = 1 ∧ look l ts n = some x := by
  by_cases hk : k = 1
  · exact ⟨hk, by simpa [Tm.putOf, Tm.kind, Tm.name, hk] using h⟩
  · simp [Tm.putOf, Tm.kind, Tm.name, hk] at h
theorem putOf_none {l : List ByteArray} {ts : List Tm} {k : Int} {n : ByteArray} {g : Bool} {ds : List Int} {ks : List Tm} (h : Tm.putOf l ts (.mk k n g ds ks) = none) (hk : k = 1) : look l ts n = none := by
  simpa [Tm.putOf, Tm.kind, Tm.name, hk] using h
theorem substs_len (l : List ByteArray) (ts : List Tm) (us : List Tm) : (Tm.substs l ts us).length = us.length := by simp [Tm.substs_eq]
section
variable {ds : List Dt} {sc : List Sd} {l : List ByteArray} {ts : List Tm}
mutual
theorem sort_subst (H : ∀ (i : Nat) (n : ByteArray) (t : Tm), l[i]? = some n → ts[i]? = some t → ∃ s, varOf ds sc n = some s ∧ sortOf ds sc t = some s) : ∀ (t : Tm) (s : ByteArray), sortOf ds sc t = some s → sortOf ds sc (t.subst l ts) = some s
  | .mk k n g xs ks, s, h => by
    rw [Tm.subst]
    cases hp : Tm.putOf l ts (.mk k n g xs ks) with
    | some x =>
      obtain ⟨rfl, hl⟩ := putOf_some hp
      obtain ⟨i, _, h1, h2⟩ := look_some hl
      obtain ⟨s', h3, h4⟩ := H i n x h1 h2
      obtain ⟨_, _, h5⟩ := sortOf_some h
      rw [if_pos rfl, h3] at h5
      rw [← h5]
      exact h4
    | none =>
      obtain ⟨hm, hr, h5⟩ := sortOf_some h
      refine sortOf_mk (by rw [substs_len]; exact hm) hr ?_
      by_cases hk : k = 1
      · rw [if_pos hk] at h5 ⊢
        exact h5
      · rw [if_neg hk] at h5 ⊢
        cases hq : sortsOf ds sc ks with
        | none => rw [hq] at h5; cases h5
        | some q =>
          rw [hq] at h5
          rw [sorts_subst H ks q hq]
          exact h5
theorem sorts_subst (H : ∀ (i : Nat) (n : ByteArray) (t : Tm), l[i]? = some n → ts[i]? = some t → ∃ s, varOf ds sc n = some s ∧ sortOf ds sc t = some s) : ∀ (us : List Tm) (q : List ByteArray), sortsOf ds sc us = some q → sortsOf ds sc (Tm.substs l ts us) = some q
  | [], q, h => by simpa [Tm.substs] using h
  | t :: us, q, h => by
    rw [Tm.substs]
    rw [sortsOf] at h ⊢
    cases h1 : sortOf ds sc t with
    | none => rw [h1] at h; cases h
    | some s =>
      cases h2 : sortsOf ds sc us with
      | none => rw [h1, h2] at h; cases h
      | some q' =>
        rw [sort_subst H t s h1, sorts_subst H us q' h2]
        rw [h1, h2] at h
        exact h
end
mutual
theorem frees_subst (hlen : l.length ≤ ts.length) : ∀ (t : Tm) (x : ByteArray), x ∈ (t.subst l ts).frees → (x ∈ t.frees ∧ x ∉ l) ∨ ∃ i u, i < l.length ∧ ts[i]? = some u ∧ x ∈ u.frees
  | .mk k n g xs ks, x, h => by
    rw [Tm.subst] at h
    cases hp : Tm.putOf l ts (.mk k n g xs ks) with
    | some y =>
      rw [hp] at h
      obtain ⟨rfl, hl⟩ := putOf_some hp
      obtain ⟨i, hi, h1, h2⟩ := look_some hl
      exact .inr ⟨i, y, hi, h2, h⟩
    | none =>
      rw [hp] at h
      simp only [Tm.frees, List.mem_append] at h ⊢
      rcases h with h | h
      · split at h
        · rename_i hk
          have hx : x = n := by simpa using h
          subst hx
          exact .inl ⟨.inl (by rw [if_pos hk]; exact List.mem_singleton.2 rfl), look_none hlen (putOf_none hp hk)⟩
        · cases h
      · rcases freess_subst hlen ks x h with ⟨h1, h2⟩ | h1
        · exact .inl ⟨.inr h1, h2⟩
        · exact .inr h1
theorem freess_subst (hlen : l.length ≤ ts.length) : ∀ (us : List Tm) (x : ByteArray), x ∈ Tm.freess (Tm.substs l ts us) → (x ∈ Tm.freess us ∧ x ∉ l) ∨ ∃ i u, i < l.length ∧ ts[i]? = some u ∧ x ∈ u.frees
  | [], x, h => by simp [Tm.substs, Tm.freess] at h
  | t :: us, x, h => by
    simp only [Tm.substs, Tm.freess, List.mem_append] at h ⊢
    rcases h with h | h
    · rcases frees_subst hlen t x h with ⟨h1, h2⟩ | h1
      · exact .inl ⟨.inl h1, h2⟩
      · exact .inr h1
    · rcases freess_subst hlen us x h with ⟨h1, h2⟩ | h1
      · exact .inl ⟨.inr h1, h2⟩
      · exact .inr h1
end
mutual
theorem subst_not : ∀ (t : Tm), (∀ x ∈ t.frees, x ∉ l) → t.subst l ts = t
  | .mk k n g xs ks, h => by
    rw [Tm.subst]
    cases hp : Tm.putOf l ts (.mk k n g xs ks) with
    | some y =>
      obtain ⟨rfl, hl⟩ := putOf_some hp
      obtain ⟨i, hi, h1, _⟩ := look_some hl
      exact absurd (List.mem_of_getElem? h1) (h n (by simp [Tm.frees]))
    | none =>
      simp only
      rw [substs_not ks (fun x hx => h x (by simp only [Tm.frees, List.mem_append]; exact .inr hx))]
theorem substs_not : ∀ (us : List Tm), (∀ x ∈ Tm.freess us, x ∉ l) → Tm.substs l ts us = us
  | [], h => by simp [Tm.substs]
  | t :: us, h => by
    rw [Tm.substs, subst_not t (fun x hx => h x (by simp [Tm.freess, hx])), substs_not us (fun x hx => h x (by simp [Tm.freess, hx]))]
end
end
/-! ### each name for itself -/
theorem look_self {l : List ByteArray} {n : ByteArray} {x : Tm} (h : look l (l.map Tm.v) n = some x) : x = Tm.v n := by
  obtain ⟨i, hi, h1, h2⟩ := look_some h
  rw [List.getElem?_map, h1] at h2
  exact (Option.some.inj h2).symm
mutual
def Tm.plain : Tm → Prop
  | .mk k n g ds ks => (k = 1 → ks = [] ∧ ds = [] ∧ g = false) ∧ Tm.plains ks
def Tm.plains : List Tm → Prop
  | [] => True
  | t :: ts => t.plain ∧ Tm.plains ts
end
mutual
theorem subst_self {l : List ByteArray} : ∀ (t : Tm), t.plain → t.subst l (l.map Tm.v) = t
  | .mk k n g ds ks, h => by
    rw [Tm.subst]
    cases hp : Tm.putOf l (l.map Tm.v) (.mk k n g ds ks) with
    | some y =>
      obtain ⟨rfl, hl⟩ := putOf_some hp
      obtain ⟨rfl, rfl, rfl⟩ := h.1 rfl
      exact look_self hl
    | none =>
      simp only
      rw [substs_self ks h.2]
theorem substs_self {l : List ByteArray} : ∀ (us : List Tm), Tm.plains us → Tm.substs l (l.map Tm.v) us = us
  | [], h => by simp [Tm.substs]
  | t :: us, h => by rw [Tm.substs, subst_self t h.1, substs_self us h.2]
end
mutual
theorem subst_self_size {l : List ByteArray} : ∀ (t : Tm), (t.subst l (l.map Tm.v)).size ≤ t.size
  | .mk k n g ds ks => by
    rw [Tm.subst]
    cases hp : Tm.putOf l (l.map Tm.v) (.mk k n g ds ks) with
    | some y =>
      obtain ⟨rfl, hl⟩ := putOf_some hp
      have := look_self hl
      subst this
      simp only [Tm.v, Tm.size, Tm.sizes]
      omega
    | none =>
      have := substs_self_size (l := l) ks
      simp only [Tm.size]
      omega
theorem substs_self_size {l : List ByteArray} : ∀ (us : List Tm), Tm.sizes (Tm.substs l (l.map Tm.v) us) ≤ Tm.sizes us
  | [] => by simp [Tm.substs]
  | t :: us => by
    have h1 := subst_self_size (l := l) t
    have h2 := substs_self_size (l := l) us
    simp only [Tm.substs, Tm.sizes]
    omega
end
theorem fitss_vs : ∀ l : List ByteArray, Tm.fitss (l.map Tm.v)
  | [] => by simp [Tm.fitss]
  | n :: l => by simp [Tm.fitss, Tm.v, Tm.fits, fitss_vs l]
/-! ### what is made of terms that are well, low, and fit -/
theorem wfs_mem : ∀ (l : List Tm) (u : Tm), Tm.wfs l → u ∈ l → u.wf
  | t :: ts, u, h, hu => by
    rcases List.mem_cons.1 hu with rfl | hu
    · exact h.1
    · exact wfs_mem ts u h.2 hu
mutual
theorem subst_wf {l : List ByteArray} {ts : List Tm} (H : Tm.wfs ts) : ∀ t : Tm, t.wf → (t.subst l ts).wf
  | .mk k n g ds ks, h => by
    rw [Tm.subst]
    cases hp : Tm.putOf l ts (.mk k n g ds ks) with
    | some y =>
      obtain ⟨_, hl⟩ := putOf_some hp
      obtain ⟨i, _, _, h2⟩ := look_some hl
      exact wfs_mem ts y H (List.mem_of_getElem? h2)
    | none => exact ⟨h.1, h.2.1, h.2.2.1, substs_wf H ks h.2.2.2⟩
theorem substs_wf {l : List ByteArray} {ts : List Tm} (H : Tm.wfs ts) : ∀ us : List Tm, Tm.wfs us → Tm.wfs (Tm.substs l ts us)
  | [], _ => trivial
  | t :: us, h => ⟨subst_wf H t h.1, substs_wf H us h.2⟩
end
theorem lows_mem : ∀ (l : List Tm) (u : Tm), Tm.lows l → u ∈ l → u.low
  | t :: ts, u, h, hu => by
    rcases List.mem_cons.1 hu with rfl | hu
    · exact h.1
    · exact lows_mem ts u h.2 hu
mutual
theorem subst_low {l : List ByteArray} {ts : List Tm} (H : Tm.lows ts) : ∀ t : Tm, t.low → (t.subst l ts).low
  | .mk k n g ds ks, h => by
    rw [Tm.subst]
    cases hp : Tm.putOf l ts (.mk k n g ds ks) with
    | some y =>
      obtain ⟨_, hl⟩ := putOf_some hp
      obtain ⟨i, _, _, h2⟩ := look_some hl
      exact lows_mem ts y H (List.mem_of_getElem? h2)
    | none => exact ⟨h.1, by rw [substs_len]; exact h.2.1, h.2.2.1, substs_low H ks h.2.2.2⟩
theorem substs_low {l : List ByteArray} {ts : List Tm} (H : Tm.lows ts) : ∀ us : List Tm, Tm.lows us → Tm.lows (Tm.substs l ts us)
  | [], _ => trivial
  | t :: us, h => ⟨subst_low H t h.1, substs_low H us h.2⟩
end
theorem fitss_mem : ∀ (l : List Tm) (u : Tm), Tm.fitss l → u ∈ l → u.fits
  | t :: ts, u, h, hu => by
    rcases List.mem_cons.1 hu with rfl | hu
    · exact h.1
    · exact fitss_mem ts u h.2 hu
mutual
theorem subst_fits {l : List ByteArray} {ts : List Tm} (H : Tm.fitss ts) : ∀ t : Tm, t.fits → (t.subst l ts).fits
  | .mk k n g ds ks, h => by
    rw [Tm.subst]
    cases hp : Tm.putOf l ts (.mk k n g ds ks) with
    | some y =>
      obtain ⟨_, hl⟩ := putOf_some hp
      obtain ⟨i, _, _, h2⟩ := look_some hl
      exact fitss_mem ts y H (List.mem_of_getElem? h2)
    | none => exact ⟨h.1, by rw [substs_len]; exact h.2.1, substs_fits H ks h.2.2⟩
theorem substs_fits {l : List ByteArray} {ts : List Tm} (H : Tm.fitss ts) : ∀ us : List Tm, Tm.fitss us → Tm.fitss (Tm.substs l ts us)
  | [], _ => trivial
  | t :: us, h => ⟨subst_fits H t h.1, substs_fits H us h.2⟩
end
end Wh
