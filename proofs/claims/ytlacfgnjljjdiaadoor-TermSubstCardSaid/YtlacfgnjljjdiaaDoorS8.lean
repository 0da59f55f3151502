import Derived.Test.YtlacfgnjljjdiaaDoorS7
import Derived.Maps.OwnSet
set_option linter.unusedVariables false
set_option linter.unusedSimpArgs false
open Go Go.RowKit Go.Proofs
namespace Wh
/-! ### what is left of names when they are sorted, each once -/
theorem compactUpTo_mem (d : Array (List UInt8)) (m : Nat) (x : List UInt8) : x ∈ Lib.compactUpTo d m ↔ ∃ j, j < m ∧ d[j]! = x := by
  unfold Lib.compactUpTo
  simp only [List.mem_map, List.mem_filter, List.mem_range]
  constructor
  · rintro ⟨j, ⟨hj, _⟩, rfl⟩
    exact ⟨j, hj, rfl⟩
  · rintro ⟨j, hj, rfl⟩
    induction j with
    | zero => exact ⟨0, ⟨hj, Lib.keeps_lt_one d 0 (by omega)⟩, rfl⟩
    | succ j ih =>
      by_cases h : d[j + 1]! = d[j]!
      · rw [h]
        exact ih (by omega)
      · exact ⟨j + 1, ⟨hj, Lib.keeps_pos (by simpa using h)⟩, rfl⟩
theorem compact_mem (l : List (List UInt8)) (x : List UInt8) : x ∈ Lib.compact l ↔ x ∈ l := by
  unfold Lib.compact
  rw [compactUpTo_mem]
  constructor
  · rintro ⟨j, hj, rfl⟩
    rw [show (l.toArray[j]! : List UInt8) = l[j] by simp [hj]]
    exact List.getElem_mem hj
  · intro h
    obtain ⟨j, hj, rfl⟩ := List.getElem_of_mem h
    exact ⟨j, hj, by simp [hj]⟩
theorem tidy_mem (l : List ByteArray) (x : ByteArray) : x ∈ tidy l ↔ x ∈ l := by
  unfold tidy sorted
  simp only [List.mem_map, compact_mem, List.mem_mergeSort]
  constructor
  · rintro ⟨b, ⟨y, hy, rfl⟩, rfl⟩
    have : (⟨y.data.toList.toArray⟩ : ByteArray) = y := by simp
    rw [this]
    exact hy
  · intro h
    exact ⟨x.data.toList, ⟨x, h, rfl⟩, by simp⟩
theorem tidy_len (l : List ByteArray) : (tidy l).length ≤ l.length := by
  unfold tidy sorted
  rw [List.length_map]
  refine Nat.le_trans (compact_le _) ?_
  simp
/-! ### a map of names that the call makes -/
abbrev keyOfS (x : ByteArray) : Lit := .string x.data.toList
abbrev Dm := DataW Unit
def TrueAt (M : Dm) (x : ByteArray) : Prop := M.atKey (keyOfS x) (.lit (.bool false)) = .lit (.bool true)
theorem keyOfS_ne {x y : ByteArray} (h : y ≠ x) : keyOfS y ≠ keyOfS x := by
  intro e
  injection e with e
  exact h (by
    obtain ⟨a⟩ := x
    obtain ⟨b⟩ := y
    have : b = a := Array.toList_inj.1 e
    rw [this])
theorem TrueAt.put {M : Dm} {x y : ByteArray} (hM : Maps.IsMap M) (h : TrueAt M y ∨ y = x) : TrueAt (M.put (keyOfS x) (.lit (.bool true))) y := by
  unfold TrueAt at *
  by_cases hxy : y = x
  · subst hxy
    exact Maps.atKey_put_same hM (show WideAt.IsKeyLit (keyOfS y) from trivial) _ _
  · rw [Maps.atKey_put_other (keyOfS_ne hxy)]
    exact h.resolve_right hxy
theorem TrueAt.kept {M : Dm} {x y : ByteArray} {v : Bool} (h : TrueAt M y) (hxy : y ≠ x) : TrueAt (M.put (keyOfS x) (.lit (.bool v))) y := by
  unfold TrueAt at *
  rw [Maps.atKey_put_other (keyOfS_ne hxy)]
  exact h
def OwnM (w : World) (b n : Nat) (M : Dm) : Prop := w.ownsMap Tryd.prog 9 (plainElem Tryd.prog 4) b n M
theorem OwnM.kept {w w' : World} {b n : Nat} {M : Dm} {row : Option Nat} (h : OwnM w b n M) (hg : w.grownBy w' row) (hne : some b ≠ row) : OwnM w' b n M := World.ownsMap.kept h hg hne
theorem OwnM.isMap {w : World} {b n : Nat} {M : Dm} (h : OwnM w b n M) : Maps.IsMap M := World.ownsMap.isMap h
theorem OwnM.ext {w w' : World} {b n : Nat} {M : Dm} (h : OwnM w b n M) (hb : Below w.heap.size w w') : OwnM w' b n M := h.kept (below_grown hb none) (by simp)
theorem lawS : Go.Maps.Keyed Tryd.prog 9 := Go.Maps.string_keyed Tryd.underlying9
theorem zeroB (w : World) : (zeroValue 4).run Tryd.prog w = .ok (.bool false) w := by kernel_rfl
theorem OwnM.store {w : World} {b n : Nat} {M : Dm} (h : OwnM w b n M) (x : ByteArray) (v : Bool) (hn : n < 1000000000) (hx : x.size ≤ 140737488355328) :
    ∃ w', (Instr.mapUpdate 45 (.map (some b)) (.string x) (.bool v)).run Tryd.prog w = .ok () w' ∧ OwnM w' b (n + 1) (M.put (keyOfS x) (.lit (.bool v))) ∧ w.grownBy w' (some b) :=
  World.ownsMap.update h lawS Tryd.underlying45 (by unfold maxLen; omega) (WideMaps.keyOf_string_mk Tryd.underlying9 (by unfold maxLen; omega)) (plainElem_bool Tryd.underlying4 v)
theorem plainElem_bool_inv {H : Type} {P : Program} {e : TypeId} (he : P.underlying e = some .bool) {v : Value} {z : DataW H × List MemPlace} (h : plainElem P e v = some z) : ∃ b, v = .bool b ∧ z = (.lit (.bool b), []) := by
  unfold plainElem at h
  rw [he] at h
  cases v <;> simp at h
  subst h
  exact ⟨_, rfl, rfl⟩
theorem OwnM.look {w : World} {b n : Nat} {M : Dm} (h : OwnM w b n M) (x : ByteArray) (hx : x.size ≤ 140737488355328) :
    ∃ c : Bool, (Instr.lookup 45 (.map (some b)) (.string x) false).run Tryd.prog w = .ok (.bool c) w ∧ M.atKey (keyOfS x) (.lit (.bool false)) = .lit (.bool c) := by
  obtain ⟨v, ps, hrun, hv⟩ := World.ownsMap.lookup h lawS Tryd.underlying45 (zeroB w) (plainElem_bool Tryd.underlying4 false) (WideMaps.keyOf_string_mk Tryd.underlying9 (s := x) (by unfold maxLen; omega))
  obtain ⟨c, rfl, hc⟩ := plainElem_bool_inv Tryd.underlying4 hv
  simp only [Prod.mk.injEq] at hc
  exact ⟨c, hrun, hc.1⟩
theorem OwnM.made (w : World) : OwnM (w.alloc (.map #[] 0)) w.heap.size 0 (.map []) := World.ownsMap_made _ _ _ _
/-! ### plain -/
mutual
def Tm.plainB : Tm → Bool
  | .mk k n g ds ks => (!decide (k = 1) || (decide (ks.length = 0) && decide (ds.length = 0) && !g)) && Tm.plainBs ks
def Tm.plainBs : List Tm → Bool
  | [] => true
  | t :: ts => t.plainB && Tm.plainBs ts
end
mutual
theorem plainB_plain : ∀ t : Tm, t.plainB = true → t.plain
  | .mk k n g ds ks, h => by
    rw [Tm.plainB, Bool.and_eq_true] at h
    refine ⟨fun hk => ?_, plainBs_plain ks h.2⟩
    have h1 := h.1
    simp [hk] at h1
    exact ⟨h1.1.1, h1.1.2, h1.2⟩
theorem plainBs_plain : ∀ l : List Tm, Tm.plainBs l = true → Tm.plains l
  | [], _ => trivial
  | t :: ts, h => by
    rw [Tm.plainBs, Bool.and_eq_true] at h
    exact ⟨plainB_plain t h.1, plainBs_plain ts h.2⟩
end
end Wh
