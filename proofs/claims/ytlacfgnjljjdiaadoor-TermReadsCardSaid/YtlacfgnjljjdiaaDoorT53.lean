import Derived.Test.YtlacfgnjljjdiaaDoorT52
set_option linter.unusedVariables false
set_option linter.unusedSimpArgs false
namespace Go.Proofs.YtlacfgnjljjdiaaDoor
open Go.ChangeShapes Go.WideShapes Go.ChangeAt Go.RowKit Wh
set_option maxRecDepth 1000000
theorem agg_of {W : World} {base : Nat} {v : Value} (h : Value.okWide Tryd.prog W .any base 28 v) : ∃ cs, v = .agg cs := by
  unfold Value.okWide at h
  rw [Tryd.underlying28] at h
  obtain ⟨cs, h1, _⟩ := h
  exact ⟨cs, h1⟩
theorem contract (H : Type) (enc : TypeId × Value → H) (W : World) (base : Nat) (args : Array Value) (ds gs : List (DataW H)) (before : List MemPlace)
    (hval : ∀ (j : Nat) t v, Tryd.f3.params[j]? = some t → args[j]? = some v → Value.okWide Tryd.prog W .any base t v)
    (hW : DataW.Whole enc Tryd.prog Tryd.f3.params.toList Rows.termReadsSpec.vars false W args.toList ds gs before)
    (hsz : (DataW.weightsEach Tryd.prog (Tryd.f3.params.toList ++ Rows.termReadsSpec.plain.varTypes Tryd.prog) (ds ++ gs)).all (· ≤ reachBytes) = true)
    (hL : laidMetH Tryd.prog Rows.termReadsRow.laid W) :
    Calls Tryd.prog 3 args W fun e W' => ∃ v, e = .returned v ∧ Rows.termReadsSpec.post enc Tryd.prog Tryd.f3 false true false false W args v W' := by
  have hW' := hW
  obtain ⟨p, q, hA0, hV, rfl, hfz, hnd⟩ := hW
  have hA : DataW.TrodAll enc Tryd.prog W 0 (fun _ => true) true Tryd.f3.params.toList args.toList ds p := hA0
  rw [Tryd.params3] at hA hval hsz
  obtain ⟨v0, vs0, d0, ds0, p0, q0, hargs, rfl, rfl, ⟨n0, h0⟩, r0⟩ := trodAll_cons hA
  obtain ⟨v1, vs1, d1, ds1, p1, q1, rfl, rfl, rfl, ⟨n1, h1⟩, r1⟩ := trodAll_cons r0
  obtain ⟨v2, vs2, d2, ds2, p2, q2, rfl, rfl, rfl, ⟨n2, h2⟩, r2⟩ := trodAll_cons r1
  obtain ⟨v3, vs3, d3, ds3, p3, q3, rfl, rfl, rfl, ⟨n3, h3⟩, r3⟩ := trodAll_cons r2
  obtain ⟨rfl, rfl, rfl⟩ := trodAll_nil r3
  obtain rfl : args = #[v0, v1, v2, v3] := by cases args; simp_all
  obtain ⟨rfl, rfl⟩ := trodVars_none hV
  obtain ⟨s, rfl⟩ := okWide_string Tryd.underlying9 (hval 0 _ _ rfl rfl)
  obtain ⟨c1, rfl⟩ := agg_of (hval 1 _ _ rfl rfl)
  obtain ⟨x, rfl⟩ := okWide_int Tryd.underlying3 (hval 2 _ _ rfl rfl)
  obtain ⟨y, rfl⟩ := okWide_int Tryd.underlying5 (hval 3 _ _ rfl rfl)
  have hw : ∀ m, (m ∈ DataW.weights Tryd.prog 9 d0 ∨ m ∈ DataW.weights Tryd.prog 28 d1) → m ≤ reachBytes := by
    intro m hm
    rw [List.all_eq_true] at hsz
    have := hsz m (by
      simp only [List.cons_append, DataW.weightsEach, List.mem_append]
      rcases hm with hm | hm
      · exact .inl hm
      · exact .inr (.inl hm))
    simpa using this
  obtain ⟨s', e0, g0, _⟩ := DataW.trod_string Tryd.underlying9 h0
  obtain ⟨x', e2, g2, wx⟩ := DataW.trod_int Tryd.underlying3 h2
  obtain ⟨y', e3, g3, wy⟩ := DataW.trod_int Tryd.underlying5 h3
  obtain ⟨rfl, rfl⟩ := Prod.mk.inj g0
  obtain rfl : s = s' := by simpa [Value.cells] using e0
  obtain rfl : x = x' := by simpa [Value.cells] using e2
  obtain rfl : y = y' := by simpa [Value.cells] using e3
  obtain ⟨bx0, bx1⟩ := wf_bounds wx
  obtain ⟨by0, by1⟩ := wf_bounds wy
  have hs : s.size ≤ 140737488355328 := by
    have h1 := hw s.data.toList.length (.inl (by simp only [DataW.weights, Tryd.underlying9]; simp))
    have h2 : reachBytes ≤ 140737488355328 := by decide
    simp at h1
    omega
  obtain ⟨a, ra, wa, la⟩ := term_down _ _ _ h1 (fun m hm => hw m (.inr hm))
  have hcall := termReads_calls s a x y W.heap.size W _ _ ra (env_of hL) wa la hs ⟨bx0, bx1⟩ ⟨by0, by1⟩
  refine hcall.mono fun e W' ⟨he, hg⟩ => ?_
  subst he
  exact ⟨_, rfl, post_of_below (pv := []) hW' (fun _ _ _ => trodAll_cons_mk (shut_bool Tryd.underlying4 _) trodAll_mk0) (fun sp hsp => DataW.TrodAll.respare kids full (by rw [Tryd.params3]; decide) (trod_below hg hA0 (fun p hp => hW'.lt p (by simpa using hp))) (fun p hp => hsp p (by simpa using hp))) (fun _ _ => rfl) rfl
    hg (ok_one (by kernel_rfl) rfl (okWide_bool_mk Tryd.underlying4 _))⟩
end Go.Proofs.YtlacfgnjljjdiaaDoor
