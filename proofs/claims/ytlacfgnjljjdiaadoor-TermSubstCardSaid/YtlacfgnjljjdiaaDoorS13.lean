import Derived.Test.YtlacfgnjljjdiaaDoorT38
import Derived.Test.YtlacfgnjljjdiaaDoorS12
set_option linter.unusedVariables false
set_option linter.unusedSimpArgs false
open Go Go.RowKit Go.Proofs
namespace Wh
set_option maxRecDepth 100000
/-! ### what arguments read as: texts, datas, a scope, terms -/
section
variable {H : Type} {enc : TypeId × Value → H} {W : World} {base : Nat} {sp : Nat → Bool} {hd : Bool}
theorem str_down (n : Nat) (cs : List Value) (x : DataW H × List MemPlace) (h : DataW.trod enc Tryd.prog W base sp hd n 9 cs = some x) (hw : ∀ m ∈ x.1.weights Tryd.prog 9, m ≤ reachBytes) : ∃ s : ByteArray, cs = [.string s] ∧ s.size ≤ 140737488355328 := by
  obtain ⟨s, e1, rfl, ws⟩ := DataW.trod_string Tryd.underlying9 h
  refine ⟨s, e1, ?_⟩
  have h1 := hw s.data.toList.length (by simp [DataW.weights, Tryd.underlying9])
  have h2 : reachBytes ≤ 140737488355328 := by decide
  simp at h1
  omega
theorem strs_list {p : List (List D)} (h : ∀ i (hi : i < p.length), ∃ us : List Value, ∃ s : ByteArray, p[i] = [D.txt s] ∧ s.size ≤ 140737488355328) : ∃ xs : List ByteArray, p = xs.map (fun x => [D.txt x]) ∧ ∀ x ∈ xs, x.size ≤ 140737488355328 := by
  induction p with
  | nil => exact ⟨[], rfl, by simp⟩
  | cons e p ih =>
    obtain ⟨xs, rfl, hx⟩ := ih (fun i hi => h (i + 1) (by simp; omega))
    obtain ⟨_, x, h1, h2⟩ := h 0 (by simp)
    simp only [List.getElem_cons_zero] at h1
    subst h1
    exact ⟨x :: xs, rfl, by
      intro d hd
      rcases List.mem_cons.1 hd with rfl | hd
      · exact h2
      · exact hx d hd⟩
theorem strs_down (n : Nat) (cs : List Value) (x : DataW H × List MemPlace) (h : DataW.trod enc Tryd.prog W base sp hd n 34 cs = some x) (hw : ∀ m ∈ x.1.weights Tryd.prog 34, m ≤ reachBytes) :
    ∃ (xs : List ByteArray) (v : Value), cs = [v] ∧ D.rd W (fun _ => True) (.strs 9 xs) v ∧ ∀ x ∈ xs, x.size ≤ 140737488355328 := by
  obtain ⟨p1, v1, e3, r1, l1, f1⟩ := slice_down (p := fun us ds => ∃ s : ByteArray, ds = [D.txt s] ∧ s.size ≤ 140737488355328) Tryd.underlying34 (sz := 1) (by kernel_rfl) (by decide) (of_decide_eq_true (by kernel_rfl)) h hw (by
    intro m us y _ hy hk
    obtain ⟨s, rfl, hs⟩ := str_down m us y hy hk
    exact ⟨[.txt s], by simp [D.rdRow, D.rd], s, rfl, hs⟩)
  obtain ⟨xs, rfl, hxs⟩ := strs_list f1
  exact ⟨xs, v1, e3, r1, hxs⟩
theorem list_map_of {α : Type} {f : α → List D} {p : List (List D)} (h : ∀ i (hi : i < p.length), ∃ us : List Value, ∃ a : α, p[i] = f a) : ∃ xs : List α, p = xs.map f := by
  induction p with
  | nil => exact ⟨[], rfl⟩
  | cons e p ih =>
    obtain ⟨xs, rfl⟩ := ih (fun i hi => h (i + 1) (by simp; omega))
    obtain ⟨_, x, h1⟩ := h 0 (by simp)
    simp only [List.getElem_cons_zero] at h1
    subst h1
    exact ⟨x :: xs, rfl⟩
theorem con_down (n : Nat) (cs : List Value) (x : DataW H × List MemPlace) (h : DataW.trod enc Tryd.prog W base sp hd n 88 cs = some x) (hw : ∀ m ∈ x.1.weights Tryd.prog 88, m ≤ reachBytes) : ∃ c : Cn, D.rdRow W (fun _ => True) c.enc cs := by
  obtain ⟨xs, m, rfl, rfl, hl, hlen, hf⟩ := DataW.trod_struct Tryd.underlying88 h
  rw [show Tryd.prog.cellsOf 88 = 2 by kernel_rfl] at hl
  match xs, hlen, cs, hl with
  | [y0, y1], _, [c0, c1], _ =>
    have g0 := hf 0 _ rfl
    have g1 := hf 1 _ rfl
    simp only [show Tryd.prog.cellsOf 9 = 1 by kernel_rfl, show Tryd.prog.cellsOf 34 = 1 by kernel_rfl, List.drop_zero, List.take_succ_cons, List.take_zero, List.drop_succ_cons, List.getElem?_cons_zero, List.getElem?_cons_succ, List.getElem_toArray, List.getElem_cons_zero, List.getElem_cons_succ] at g0 g1
    simp only [List.map_cons, List.map_nil, DataW.weights, Tryd.underlying88, DataW.weightsEach, List.nil_append, List.append_nil, List.mem_append] at hw
    obtain ⟨s, e0, _⟩ := str_down _ _ _ g0 (fun m hm => hw m (.inl hm))
    obtain ⟨ls, v, e1, r1, _⟩ := strs_down _ _ _ g1 (fun m hm => hw m (.inr hm))
    simp only [List.cons.injEq, and_true] at e0 e1
    subst e0 e1
    exact ⟨⟨s, ls⟩, by simp only [Cn.enc, D.rdRow]; exact ⟨_, _, rfl, by simp only [D.rd], _, _, rfl, r1, rfl⟩⟩
theorem data_down (n : Nat) (cs : List Value) (x : DataW H × List MemPlace) (h : DataW.trod enc Tryd.prog W base sp hd n 86 cs = some x) (hw : ∀ m ∈ x.1.weights Tryd.prog 86, m ≤ reachBytes) : ∃ d : Dt, D.rdRow W (fun _ => True) d.enc cs := by
  obtain ⟨xs, m, rfl, rfl, hl, hlen, hf⟩ := DataW.trod_struct Tryd.underlying86 h
  rw [show Tryd.prog.cellsOf 86 = 2 by kernel_rfl] at hl
  match xs, hlen, cs, hl with
  | [y0, y1], _, [c0, c1], _ =>
    have g0 := hf 0 _ rfl
    have g1 := hf 1 _ rfl
    simp only [show Tryd.prog.cellsOf 9 = 1 by kernel_rfl, show Tryd.prog.cellsOf 84 = 1 by kernel_rfl, List.drop_zero, List.take_succ_cons, List.take_zero, List.drop_succ_cons, List.getElem?_cons_zero, List.getElem?_cons_succ, List.getElem_toArray, List.getElem_cons_zero, List.getElem_cons_succ] at g0 g1
    simp only [List.map_cons, List.map_nil, DataW.weights, Tryd.underlying86, DataW.weightsEach, List.nil_append, List.append_nil, List.mem_append] at hw
    obtain ⟨s, e0, _⟩ := str_down _ _ _ g0 (fun m hm => hw m (.inl hm))
    obtain ⟨p1, v1, e1, r1, _, f1⟩ := slice_down (p := fun us ds => ∃ c : Cn, ds = c.enc) Tryd.underlying84 (sz := 2) (by kernel_rfl) (by decide) (of_decide_eq_true (by kernel_rfl)) g1 (fun m hm => hw m (.inr hm)) (by
      intro m us y _ hy hk
      obtain ⟨c, hc⟩ := con_down m us y hy hk
      exact ⟨c.enc, hc, c, rfl⟩)
    obtain ⟨ls, rfl⟩ := list_map_of f1
    simp only [List.cons.injEq, and_true] at e0 e1
    subst e0 e1
    exact ⟨⟨s, ls⟩, by simp only [Dt.enc, D.rdRow]; exact ⟨_, _, rfl, by simp only [D.rd], _, _, rfl, r1, rfl⟩⟩
theorem datas_down (n : Nat) (cs : List Value) (x : DataW H × List MemPlace) (h : DataW.trod enc Tryd.prog W base sp hd n 39 cs = some x) (hw : ∀ m ∈ x.1.weights Tryd.prog 39, m ≤ reachBytes) :
    ∃ (xs : List Dt) (v : Value), cs = [v] ∧ D.rd W (fun _ => True) (.row 86 2 (xs.map Dt.enc)) v := by
  obtain ⟨p1, v1, e1, r1, _, f1⟩ := slice_down (p := fun us ds => ∃ d : Dt, ds = d.enc) Tryd.underlying39 (sz := 2) (by kernel_rfl) (by decide) (of_decide_eq_true (by kernel_rfl)) h hw (by
    intro m us y _ hy hk
    obtain ⟨d, hd⟩ := data_down m us y hy hk
    exact ⟨d.enc, hd, d, rfl⟩)
  obtain ⟨xs, rfl⟩ := list_map_of f1
  exact ⟨xs, v1, e1, r1⟩
theorem sorted_down (n : Nat) (cs : List Value) (x : DataW H × List MemPlace) (h : DataW.trod enc Tryd.prog W base sp hd n 156 cs = some x) (hw : ∀ m ∈ x.1.weights Tryd.prog 156, m ≤ reachBytes) : ∃ d : Sd, D.rdRow W (fun _ => True) d.enc cs := by
  obtain ⟨xs, m, rfl, rfl, hl, hlen, hf⟩ := DataW.trod_struct Tryd.underlying156 h
  rw [show Tryd.prog.cellsOf 156 = 2 by kernel_rfl] at hl
  match xs, hlen, cs, hl with
  | [y0, y1], _, [c0, c1], _ =>
    have g0 := hf 0 _ rfl
    have g1 := hf 1 _ rfl
    simp only [show Tryd.prog.cellsOf 9 = 1 by kernel_rfl, List.drop_zero, List.take_succ_cons, List.take_zero, List.drop_succ_cons, List.getElem?_cons_zero, List.getElem?_cons_succ, List.getElem_toArray, List.getElem_cons_zero, List.getElem_cons_succ] at g0 g1
    simp only [List.map_cons, List.map_nil, DataW.weights, Tryd.underlying156, DataW.weightsEach, List.nil_append, List.append_nil, List.mem_append] at hw
    obtain ⟨s, e0, _⟩ := str_down _ _ _ g0 (fun m hm => hw m (.inl hm))
    obtain ⟨s', e1, _⟩ := str_down _ _ _ g1 (fun m hm => hw m (.inr hm))
    simp only [List.cons.injEq, and_true] at e0 e1
    subst e0 e1
    exact ⟨⟨s, s'⟩, by simp only [Sd.enc, D.rdRow]; exact ⟨_, _, rfl, by simp only [D.rd], _, _, rfl, by simp only [D.rd], rfl⟩⟩
theorem scope_down (n : Nat) (cs : List Value) (x : DataW H × List MemPlace) (h : DataW.trod enc Tryd.prog W base sp hd n 40 cs = some x) (hw : ∀ m ∈ x.1.weights Tryd.prog 40, m ≤ reachBytes) :
    ∃ (xs : List Sd) (v : Value), cs = [v] ∧ D.rd W (fun _ => True) (.row 156 2 (xs.map Sd.enc)) v := by
  obtain ⟨p1, v1, e1, r1, _, f1⟩ := slice_down (p := fun us ds => ∃ d : Sd, ds = d.enc) Tryd.underlying40 (sz := 2) (by kernel_rfl) (by decide) (of_decide_eq_true (by kernel_rfl)) h hw (by
    intro m us y _ hy hk
    obtain ⟨d, hd⟩ := sorted_down m us y hy hk
    exact ⟨d.enc, hd, d, rfl⟩)
  obtain ⟨xs, rfl⟩ := list_map_of f1
  exact ⟨xs, v1, e1, r1⟩
theorem terms_down (n : Nat) (cs : List Value) (x : DataW H × List MemPlace) (h : DataW.trod enc Tryd.prog W base sp hd n 26 cs = some x) (hw : ∀ m ∈ x.1.weights Tryd.prog 26, m ≤ reachBytes) :
    ∃ (ts : List Tm) (v : Value), cs = [v] ∧ D.rd W (fun _ => True) (.row 28 5 (Tm.encs ts)) v ∧ Tm.wfs ts ∧ Tm.lows ts := by
  obtain ⟨p1, v1, e1, r1, _, f1⟩ := slice_down (p := fun us ds => ∃ t : Tm, ds = t.enc ∧ t.wf ∧ t.low) Tryd.underlying26 (sz := 5) (by kernel_rfl) (by decide) (of_decide_eq_true (by kernel_rfl)) h hw (by
    intro m us y hm hy hk
    obtain ⟨t, h1, h2, h3⟩ := term_down m us y hy hk
    exact ⟨t.enc, h1, t, rfl, h2, h3⟩)
  obtain ⟨ts, rfl, h1, h2⟩ := terms_list f1
  exact ⟨ts, v1, e1, r1, h1, h2⟩
end
end Wh
