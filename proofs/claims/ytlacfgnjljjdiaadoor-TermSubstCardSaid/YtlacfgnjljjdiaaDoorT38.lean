import Derived.Test.YtlacfgnjljjdiaaDoorT10
import Derived.Test.YtlacfgnjljjdiaaDoorT18
import Derived.Test.YtlacfgnjljjdiaaDoorT31
import Derived.ChangeArms
import Derived.ChangeShapes
import Derived.ChangeSame
import Derived.ReadAgain
import Derived.Lib.LaidTab
import Derived.LaidLaws
set_option linter.unusedVariables false
set_option linter.unusedSimpArgs false
open Go Go.RowKit Go.Proofs
namespace Wh
set_option maxRecDepth 100000
/-! ### what an argument reads as: a term -/
section
variable {H : Type} {enc : TypeId × Value → H} {W : World} {base : Nat} {sp : Nat → Bool} {hd : Bool}
theorem list_of {α : Type} {p : Nat → α → Prop} : ∀ {n : Nat}, (∀ i, i < n → ∃ a, p i a) → ∃ l : List α, l.length = n ∧ ∀ i (hi : i < l.length), p i l[i]
  | 0, _ => ⟨[], rfl, fun i hi => absurd hi (by simp)⟩
  | n + 1, h => by
    obtain ⟨l, hl, hp⟩ := list_of (n := n) (fun i hi => h i (by omega))
    obtain ⟨a, ha⟩ := h n (by omega)
    refine ⟨l ++ [a], by simp [hl], fun i hi => ?_⟩
    by_cases hi' : i < l.length
    · rw [List.getElem_append_left hi']
      exact hp i hi'
    · have : i = n := by simp at hi; omega
      subst this
      rw [List.getElem_append_right (by omega)]
      simpa [hl] using ha
theorem rdRows_of {w : World} {ok : Nat → Prop} {sz g o : Nat} : ∀ {es : List (List D)} {k : Nat}, (∀ i (hi : i < es.length), ∃ us, (ok g ∧ g < w.heap.size) ∧ us.length = sz ∧ D.rdRow w ok es[i] us ∧ ∀ j, j < sz → w.cell? ⟨g, o + ((k + i) * sz + j), none⟩ = us[j]?) → D.rdRows w ok sz es (some ⟨g, o, none⟩) k
  | [], k, _ => by simp [D.rdRows]
  | e :: es, k, h => by
    simp only [D.rdRows]
    constructor
    · obtain ⟨us, h1, h2, h3, h4⟩ := h 0 (by simp)
      exact ⟨g, o, us, rfl, h1, h2, by simpa using h3, fun j hj => by simpa using h4 j hj⟩
    · refine rdRows_of fun i hi => ?_
      obtain ⟨us, h1, h2, h3, h4⟩ := h (i + 1) (by simp; omega)
      refine ⟨us, h1, h2, by simpa using h3, fun j hj => ?_⟩
      have := h4 j hj
      rwa [show k + (i + 1) = k + 1 + i by omega] at this
theorem weightsAll_mem {P : Program} {e : TypeId} {d : DataW H} {n : Nat} : ∀ {l : List (DataW H)}, d ∈ l → n ∈ d.weights P e → n ∈ DataW.weightsAll P e l
  | [], h, _ => by cases h
  | x :: l, h, hn => by
    rw [DataW.weightsAll, List.mem_append]
    rcases List.mem_cons.1 h with rfl | h
    · exact .inl hn
    · exact .inr (weightsAll_mem h hn)
/-- A slice, its elements one by one. -/
theorem slice_down {t e : TypeId} {sz n : Nat} {cs : List Value} {x : DataW H × List MemPlace} {p : List Value → List D → Prop} (ht : Tryd.prog.underlying t = some (.slice e)) (hsz : Tryd.prog.cellsOf e = sz) (h0 : 0 < sz) (hby : 1 ≤ Tryd.prog.bytesOf e)
    (h : DataW.trod enc Tryd.prog W base sp hd n t cs = some x) (hw : ∀ m ∈ x.1.weights Tryd.prog t, m ≤ reachBytes)
    (hel : ∀ m us y, m < n → DataW.trod enc Tryd.prog W base sp hd m e us = some y → (∀ k ∈ y.1.weights Tryd.prog e, k ≤ reachBytes) → ∃ ds, D.rdRow W (fun _ => True) ds us ∧ p us ds) :
    ∃ (es : List (List D)) (v : Value), cs = [v] ∧ D.rd W (fun _ => True) (.row e sz es) v ∧ es.length ≤ 140737488355328 ∧ ∀ i (hi : i < es.length), ∃ us, p us es[i] := by
  rcases DataW.trod_slice ht h with ⟨rfl, rfl⟩ | ⟨a, len, cap, elems, rest, m, rfl, rfl, rfl, _, hlc, hcm, hel1, hat, _, _⟩
  · exact ⟨[], .slice none 0 0, rfl, D.rd_nil _ _, by simp, fun i hi => absurd hi (by simp)⟩
  · have hwt : (elems.length + rest.length) * Tryd.prog.bytesOf e ≤ reachBytes := hw _ (by simp [DataW.weights, ht])
    have hlen : elems.length ≤ 140737488355328 := by
      have h1 : (elems.length + rest.length) * 1 ≤ (elems.length + rest.length) * Tryd.prog.bytesOf e := Nat.mul_le_mul_left _ hby
      have h2 : reachBytes ≤ 140737488355328 := by decide
      omega
    have hspot : 0 < len → a.spot = none := by
      intro hi
      have hi2 := hat 0 hi
      rw [List.getElem?_eq_getElem (by omega)] at hi2
      obtain ⟨us, hc, hy⟩ := Option.bind_eq_some_iff.1 hi2
      rw [hsz] at hc
      obtain ⟨_, hul, hcell⟩ := World.cells?_some hc
      have hs0 := hcell 0 h0
      rw [List.getElem?_eq_getElem (by omega)] at hs0
      have := World.cell?_spot hs0
      simpa [Addr.add] using this
    have key : ∀ i, i < len → ∃ q : List D × List Value, a.spot = none ∧ a.block < W.heap.size ∧ q.2.length = sz ∧ D.rdRow W (fun _ => True) q.1 q.2 ∧ p q.2 q.1 ∧ ∀ j, j < sz → W.cell? ⟨a.block, a.off + (i * sz + j), none⟩ = q.2[j]? := by
      intro i hi
      have hi2 := hat i hi
      rw [List.getElem?_eq_getElem (by omega)] at hi2
      obtain ⟨us, hc, hy⟩ := Option.bind_eq_some_iff.1 hi2
      rw [hsz] at hc
      obtain ⟨_, hul, hcell⟩ := World.cells?_some hc
      have hs0 := hcell 0 h0
      rw [List.getElem?_eq_getElem (by omega)] at hs0
      have hspot := hspot (by omega)
      obtain ⟨b, off, spot⟩ := a
      simp only at hspot
      subst hspot
      have hlt := World.block_lt_of_cell? _ _ hs0
      rw [WideShapes.add_plain, WideShapes.add_plain] at hlt
      obtain ⟨ds, hr, hp⟩ := hel m us elems[i] (by omega) hy (fun k hk => hw k (by
        simp only [DataW.weights, ht, List.mem_cons, List.mem_append]
        exact .inr (.inl (weightsAll_mem (List.mem_map_of_mem (List.getElem_mem _)) hk))))
      refine ⟨(ds, us), rfl, hlt, hul, hr, hp, fun j hj => ?_⟩
      have := hcell j hj
      rw [WideShapes.add_plain, WideShapes.add_plain] at this
      rw [Nat.add_assoc] at this
      exact this
    obtain ⟨l, hl, hq⟩ := list_of key
    refine ⟨l.map (·.1), .slice (some a) len cap, rfl, ?_, by simp; omega, fun i hi => ⟨(l[i]'(by simpa using hi)).2, ?_⟩⟩
    · simp only [D.rd]
      refine ⟨some a, cap, by simp [hl], ⟨by simp; omega, hcm⟩, by simp, ?_⟩
      by_cases hz : len = 0
      · have : l = [] := List.length_eq_zero_iff.1 (by omega)
        subst this
        simp [D.rdRows]
      · have hsp := (hq 0 (by omega)).1
        obtain ⟨b, off, spot⟩ := a
        simp only at hsp
        subst hsp
        refine rdRows_of fun i hi => ?_
        obtain ⟨_, h2, h3, h4, h5, h6⟩ := hq i (by simpa using hi)
        exact ⟨_, ⟨trivial, h2⟩, h3, by simpa using h4, fun j hj => by simpa using h6 j hj⟩
    · have := (hq i (by simpa using hi)).2.2.2.2.1
      simpa using this
theorem wf_bounds {k : IntKind} {n : Int} (h : (Lit.int k n).wf = true) : k.min ≤ n ∧ n ≤ k.max := by
  simpa [Lit.wf] using h
theorem ints_list {p : List (List D)} (h : ∀ i (hi : i < p.length), ∃ us : List Value, ∃ x : Int, p[i] = [D.num .u32 x] ∧ 0 ≤ x ∧ x ≤ 4294967295) : ∃ xs : List Int, p = xs.map (fun x => [D.num .u32 x]) ∧ ∀ d ∈ xs, 0 ≤ d ∧ d ≤ 4294967295 := by
  induction p with
  | nil => exact ⟨[], rfl, by simp⟩
  | cons e p ih =>
    obtain ⟨xs, rfl, hx⟩ := ih (fun i hi => h (i + 1) (by simp; omega))
    obtain ⟨_, x, h1, h2⟩ := h 0 (by simp)
    simp only [List.getElem_cons_zero] at h1
    subst h1
    exact ⟨x :: xs, rfl, by
      intro d hd
      rcases List.mem_cons.1 hd with rfl | hd
      · exact h2
      · exact hx d hd⟩
theorem terms_list {p : List (List D)} (h : ∀ i (hi : i < p.length), ∃ us : List Value, ∃ t : Tm, p[i] = t.enc ∧ t.wf ∧ t.low) : ∃ ts : List Tm, p = Tm.encs ts ∧ Tm.wfs ts ∧ Tm.lows ts := by
  induction p with
  | nil => exact ⟨[], by simp [Tm.encs], by simp [Tm.wfs], by simp [Tm.lows]⟩
  | cons e p ih =>
    obtain ⟨ts, rfl, h1, h2⟩ := ih (fun i hi => h (i + 1) (by simp; omega))
    obtain ⟨_, t, h3, h4, h5⟩ := h 0 (by simp)
    simp only [List.getElem_cons_zero] at h3
    subst h3
    exact ⟨t :: ts, by simp [Tm.encs], ⟨h4, h1⟩, ⟨h5, h2⟩⟩
set_option maxHeartbeats 1000000 in
/-- Whatever reads as an api.Term is a term. -/
theorem term_down : ∀ (n : Nat) (cs : List Value) (x : DataW H × List MemPlace), DataW.trod enc Tryd.prog W base sp hd n 28 cs = some x → (∀ m ∈ x.1.weights Tryd.prog 28, m ≤ reachBytes) →
    ∃ t : Tm, D.rdRow W (fun _ => True) t.enc cs ∧ t.wf ∧ t.low := by
  intro n
  induction n using Nat.strongRecOn with
  | _ n ih =>
    intro cs x h hw
    obtain ⟨xs, m, rfl, rfl, hl, hlen, hf⟩ := DataW.trod_struct Tryd.underlying28 h
    rw [show Tryd.prog.cellsOf 28 = 5 by kernel_rfl] at hl
    match xs, hlen, cs, hl with
    | [y0, y1, y2, y3], _, [c0, c1, c2, c3, c4], _ =>
      have g0 := hf 0 _ rfl
      have g1 := hf 1 _ rfl
      have g2 := hf 2 _ rfl
      have g3 := hf 3 _ rfl
      simp only [show Tryd.prog.cellsOf 22 = 1 by kernel_rfl, show Tryd.prog.cellsOf 9 = 1 by kernel_rfl, show Tryd.prog.cellsOf 25 = 2 by kernel_rfl, show Tryd.prog.cellsOf 26 = 1 by kernel_rfl, List.drop_zero, List.take_succ_cons, List.take_zero, List.drop_succ_cons, List.getElem?_cons_zero, List.getElem?_cons_succ, List.getElem_toArray, List.getElem_cons_zero, List.getElem_cons_succ] at g0 g1 g2 g3
      obtain ⟨k, e0, rfl, wk⟩ := DataW.trod_int Tryd.underlying22 g0
      obtain ⟨s, e1, rfl, ws⟩ := DataW.trod_string Tryd.underlying9 g1
      obtain ⟨zs, m2, rfl, rfl, hl2, hlen2, hf2⟩ := DataW.trod_struct Tryd.underlying25 g2
      match zs, hlen2 with
      | [z0, z1], _ =>
        have q0 := hf2 0 _ rfl
        have q1 := hf2 1 _ rfl
        simp only [show Tryd.prog.cellsOf 4 = 1 by kernel_rfl, show Tryd.prog.cellsOf 23 = 1 by kernel_rfl, List.drop_zero, List.take_succ_cons, List.take_zero, List.drop_succ_cons, List.getElem?_cons_zero, List.getElem?_cons_succ, List.getElem_toArray, List.getElem_cons_zero, List.getElem_cons_succ] at q0 q1
        obtain ⟨b, e2, rfl⟩ := DataW.trod_bool Tryd.underlying4 q0
        simp only [List.cons.injEq, and_true] at e0 e1 e2
        subst e0 e1 e2
        simp only [List.map_cons, List.map_nil, DataW.weights, Tryd.underlying28, DataW.weightsEach, Tryd.underlying25, List.nil_append, List.append_nil, List.mem_append, List.cons_append, List.mem_cons] at hw
        have hws : s.size ≤ 140737488355328 := by
          have h1 := hw s.data.toList.length (.inl rfl)
          have h2 : reachBytes ≤ 140737488355328 := by decide
          simp at h1
          omega
        obtain ⟨p1, v1, e3, r1, l1, f1⟩ := slice_down (p := fun us ds => ∃ x : Int, ds = [D.num .u32 x] ∧ 0 ≤ x ∧ x ≤ 4294967295) Tryd.underlying23 (sz := 1) (by kernel_rfl) (by decide) (of_decide_eq_true (by kernel_rfl)) q1 (fun m hm => hw m (.inr (.inl hm))) (by
          intro m us y _ hy _
          obtain ⟨x, rfl, rfl, wx⟩ := DataW.trod_int Tryd.underlying53 hy
          obtain ⟨b1, b2⟩ := wf_bounds wx
          exact ⟨[.num .u32 x], by simp [D.rdRow, D.rd], x, rfl, b1, b2⟩)
        obtain ⟨p2, v2, e4, r2, l2, f2⟩ := slice_down (p := fun us ds => ∃ t : Tm, ds = t.enc ∧ t.wf ∧ t.low) Tryd.underlying26 (sz := 5) (by kernel_rfl) (by decide) (of_decide_eq_true (by kernel_rfl)) g3 (fun m hm => hw m (.inr (.inr hm))) (by
          intro m us y hm hy hk
          obtain ⟨t, h1, h2, h3⟩ := ih m (by omega) us y hy hk
          exact ⟨t.enc, h1, t, rfl, h2, h3⟩)
        obtain ⟨xs, rfl, hxs⟩ := ints_list f1
        obtain ⟨ts, rfl, h1, h2⟩ := terms_list f2
        simp only [List.cons.injEq, and_true] at e3 e4
        subst e3 e4
        obtain ⟨b1, b2⟩ := wf_bounds wk
        have lt : ts.length ≤ 140737488355328 := by simpa [Tm.encs_eq] using l2
        refine ⟨.mk k s b xs ts, ?_, ⟨b1, b2, hxs, h1⟩, ⟨by simpa using l1, lt, hws, h2⟩⟩
        simp only [Tm.enc, D.rdRow]
        exact ⟨_, _, rfl, by simp only [D.rd], _, _, rfl, by simp only [D.rd], _, _, rfl, by simp only [D.rd], _, _, rfl, r1, _, _, rfl, r2, rfl⟩
end
end Wh
