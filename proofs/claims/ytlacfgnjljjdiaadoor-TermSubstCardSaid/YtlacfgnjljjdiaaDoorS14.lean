import Derived.Test.YtlacfgnjljjdiaaDoorCards
import Derived.Test.YtlacfgnjljjdiaaDoorTie
import Derived.Test.YtlacfgnjljjdiaaDoorS12
import Derived.Test.YtlacfgnjljjdiaaDoorS13
import Derived.WalkKit
import Derived.ProofKit
import Derived.OpenShut
import Derived.Deep.DeepHandedRow
import Derived.Deep.DeepWitnessRowRef
import Derived.Lib.LaidTab
set_option linter.unusedVariables false
set_option linter.unusedSimpArgs false
namespace Go.Proofs.YtlacfgnjljjdiaaDoor
open Go.ChangeShapes Go.WideShapes Go.ChangeAt Go.RowKit Wh
set_option maxRecDepth 1000000
theorem own : ownKnob Tryd.prog.godebug = none := by kernel_rfl
theorem kids : Kids Tryd.prog (· < Tryd.prog.types.size) := kids_rows (by kernel_rfl) (by kernel_rfl)
theorem full : ∀ t e, t < Tryd.prog.types.size → Tryd.prog.underlying t = some (.slice e) → 0 < Tryd.prog.cellsOf e := slices_full_of Tryd.prog (by kernel_rfl)
section
variable {H : Type} {enc : TypeId × Value → H} {P : Program}
/-- 'post' of a law that only reads: below the heap's old size nothing has turned. -/
theorem post_of_below {f : Func} {s : ChangeSpec} {apart fresh handsOn again : Bool} {W W' : World} {args : Array Value} {v : Value} {ds gs : List (DataW H)} {before pa pv : List MemPlace}
    (hW : DataW.Whole enc P f.params.toList s.vars apart W args.toList ds gs before)
    (hres : ∀ (b : Nat) (sp : Nat → Bool) (hd : Bool), DataW.TrodAll enc P W' b sp hd f.resultTypes.toList (v.resultList f.resultTypes.size) (s.fn H (ds ++ gs)).results [])
    (hargs : ∀ sp : Nat → Bool, (∀ p ∈ before, sp p.block = true) → DataW.TrodAll enc P W' 0 sp true f.params.toList args.toList (s.fn H (ds ++ gs)).args pa)
    (hvars : ∀ sp : Nat → Bool, (∀ p ∈ before, sp p.block = true) → DataW.TrodVars enc P W' sp s.vars (s.fn H (ds ++ gs)).vars pv)
    (hps : before = pa ++ pv) (hb : Below W.heap.size W W')
    (hok : ∀ (j : Nat) (t : TypeId) (r : Value), f.resultTypes[j]? = some t → (v.resultList f.resultTypes.size)[j]? = some r → Value.okWide P W' .any 0 t r) :
    s.post enc P f apart fresh handsOn again W args v W' := by
  have hold : ∀ p ∈ before, (fun b => decide (b < W.heap.size)) p.block = true := fun p hp => by simpa using hW.lt p hp
  have hlt : ∀ p ∈ before, p.block < W.heap.size := fun p hp => hW.lt p hp
  refine ⟨ds, gs, before, [], pa, pv, hW, hres _ _ _, hargs _ hold, hvars _ hold, World.keptBut_mono (fun p hp => ⟨hp, ?_⟩) (hb.frame _), fun _ => ?_⟩
  · rw [hps, List.mem_append] at hp
    exact Or.inr hp
  · obtain ⟨_, _, _, _, _, hz, hn⟩ := hW
    refine ⟨hok, _, _, ([] ++ pa) ++ pv, ⟨[] ++ pa, pv, trodAll_append (hargs _ (fun _ _ => rfl)) (hres _ _ _), hvars _ (fun _ _ => rfl), rfl, ?_, ?_⟩, ?_⟩
    · intro b off hp
      have hp' : MemPlace.cell b off ∈ before := by rw [hps]; simpa using hp
      rw [hb.frozen (p := ⟨b, off, none⟩) (hlt _ hp')]
      exact hz b off hp'
    · intro ha
      have := hn ha
      rw [hps] at this
      simpa using this
    · intro p hp _
      rw [hps]
      simpa using hp
theorem trod_below {W W' : World} {base : Nat} {sp : Nat → Bool} {held : Bool} (hb : Below W.heap.size W W') : ∀ {ts : List TypeId} {vs : List Value} {ds : List (DataW H)} {ps : List MemPlace}, DataW.TrodAll enc P W base sp held ts vs ds ps → (∀ p ∈ ps, p.block < W.heap.size) → DataW.TrodAll enc P W' base sp held ts vs ds ps
  | [], _, _, _, h, _ => by
    obtain ⟨rfl, rfl, rfl⟩ := trodAll_nil h
    exact h
  | _ :: _, _, _, _, h, hp => by
    obtain ⟨v, vs1, d, ds1, a, b, rfl, rfl, rfl, ⟨n, h1⟩, h2⟩ := trodAll_cons h
    exact ⟨a, b, ⟨n, DataW.trod_carry _ _ _ _ h1 (fun p hp' => hb.same (hp p (by simp [hp'])))⟩, trod_below hb h2 (fun p hp' => hp p (by simp [hp'])), rfl⟩
theorem iface_of {w : World} {base n : Nat} {sp : Nat → Bool} {held : Bool} {t : TypeId} {m : Array (String × TypeId)} {cs : List Value} {nm : String} {d : DataW H} {ps : List MemPlace} (ht : P.underlying t = some (.interface m))
    (h : DataW.trod enc P w base sp held n t cs = some (.iface nm d, ps)) : ∃ u v, cs = [.iface u v] := by
  cases n with
  | zero => simp [DataW.trod] at h
  | succ n =>
    unfold DataW.trod at h
    rw [ht] at h
    split at h <;> simp_all
end
theorem laid_head {P : Program} {w : World} {n : String} {d : DataW Unit} {r : List (String × DataW Unit)} {ps : List MemPlace} (h : DataW.LaidVars P w ((n, d) :: r) ps) : (∃ g t cs fuel p, P.globalNamed n = some g ∧ (P.globals[g]?).map (·.type) = some t ∧ w.var? P n = some cs ∧ DataW.trod (fun _ => ()) P w 0 (fun _ => true) false fuel t cs.toList = some (d, p)) ∧ ∃ q, DataW.LaidVars P w r q := by
  obtain ⟨g, t, cs, fuel, p, q, h1, h2, h3, h4, h5, _⟩ := h
  exact ⟨⟨g, t, cs, fuel, p, h1, h2, h3, h4⟩, q, h5⟩
theorem var_lt {P : Program} {w : World} {n : String} {g : Nat} {cs : Array Value} (h : w.var? P n = some cs) (hg : P.globalNamed n = some g) : g < w.heap.size := by
  unfold World.var? at h
  rw [hg] at h
  simp only [Option.bind_some] at h
  cases hh : w.heap[g]? with
  | none => rw [hh] at h; cases h
  | some o => exact (Array.getElem?_eq_some_iff.1 hh).1
/-- WHAT THE ROW's LIST GIVES: the library's table. -/
theorem env_of {W : World} (hL : laidMetH Tryd.prog Rows.termSubstRow.laid W) : Env W.heap.size W := by
  have hL' : laidMet Tryd.prog Rows.termSubstRow.laid W := hL
  obtain ⟨ps, hv, _⟩ := hL'
  obtain ⟨_, q1, hv⟩ := laid_head hv
  obtain ⟨_, q2, hv⟩ := laid_head hv
  obtain ⟨⟨g, t, cs, fuel, p, h1, h2, h3, h4⟩, q3, hv⟩ := laid_head hv
  have eg : g = 1 := Option.some.inj (h1.symm.trans (by kernel_rfl))
  subst eg
  have et : t = 177 := Option.some.inj (h2.symm.trans (by kernel_rfl))
  subst et
  refine ⟨Nat.le_refl _, ?_, fun g hg => ?_⟩
  · unfold Lib.TabIs
    rw [h3]
    have := Lib.cells_of_tab (zs := Lib.pow10Tab) Tryd.underlying177 Tryd.underlying97 (by kernel_rfl) (by kernel_rfl) h4
    rw [← this]
  · rw [h1] at hg
    exact Option.some.inj hg ▸ var_lt h3 h1
theorem agg_of {W : World} {base : Nat} {v : Value} (h : Value.okWide Tryd.prog W .any base 28 v) : ∃ cs, v = .agg cs := by
  unfold Value.okWide at h
  rw [Tryd.underlying28] at h
  obtain ⟨cs, h1, _⟩ := h
  exact ⟨cs, h1⟩
theorem contract (H : Type) (enc : TypeId × Value → H) (W : World) (base : Nat) (args : Array Value) (ds gs : List (DataW H)) (before : List MemPlace)
    (hval : ∀ (j : Nat) t v, Tryd.f4.params[j]? = some t → args[j]? = some v → Value.okWide Tryd.prog W .any base t v)
    (hW : DataW.Whole enc Tryd.prog Tryd.f4.params.toList Rows.termSubstSpec.vars false W args.toList ds gs before)
    (hsz : (DataW.weightsEach Tryd.prog (Tryd.f4.params.toList ++ Rows.termSubstSpec.plain.varTypes Tryd.prog) (ds ++ gs)).all (· ≤ reachBytes) = true)
    (hL : laidMetH Tryd.prog Rows.termSubstRow.laid W) :
    Calls Tryd.prog 4 args W fun e W' => ∃ v, e = .returned v ∧ Rows.termSubstSpec.post enc Tryd.prog Tryd.f4 false true false false W args v W' := by
  have hW' := hW
  obtain ⟨p, q, hA0, hV, rfl, hfz, hnd⟩ := hW
  have hA : DataW.TrodAll enc Tryd.prog W 0 (fun _ => true) true Tryd.f4.params.toList args.toList ds p := hA0
  rw [Tryd.params4] at hA hval hsz
  obtain ⟨v0, vs0, d0, ds0, p0, q0, hargs, rfl, rfl, ⟨n0, h0⟩, r0⟩ := trodAll_cons hA
  obtain ⟨v1, vs1, d1, ds1, p1, q1, rfl, rfl, rfl, ⟨n1, h1⟩, r1⟩ := trodAll_cons r0
  obtain ⟨v2, vs2, d2, ds2, p2, q2, rfl, rfl, rfl, ⟨n2, h2⟩, r2⟩ := trodAll_cons r1
  obtain ⟨v3, vs3, d3, ds3, p3, q3, rfl, rfl, rfl, ⟨n3, h3⟩, r3⟩ := trodAll_cons r2
  obtain ⟨v4, vs4, d4, ds4, p4, q4, rfl, rfl, rfl, ⟨n4, h4⟩, r4⟩ := trodAll_cons r3
  obtain ⟨rfl, rfl, rfl⟩ := trodAll_nil r4
  obtain rfl : args = #[v0, v1, v2, v3, v4] := by cases args; simp_all
  obtain ⟨rfl, rfl⟩ := trodVars_none hV
  obtain ⟨a0, l0, c0, rfl⟩ := okWide_slice Tryd.underlying39 (hval 0 _ _ rfl rfl)
  obtain ⟨a1, l1, c1, rfl⟩ := okWide_slice Tryd.underlying40 (hval 1 _ _ rfl rfl)
  obtain ⟨cs, rfl⟩ := agg_of (hval 2 _ _ rfl rfl)
  obtain ⟨a3, l3, c3, rfl⟩ := okWide_slice Tryd.underlying34 (hval 3 _ _ rfl rfl)
  obtain ⟨a4, l4, c4, rfl⟩ := okWide_slice Tryd.underlying26 (hval 4 _ _ rfl rfl)
  have hw : ∀ m, (m ∈ DataW.weights Tryd.prog 39 d0 ∨ m ∈ DataW.weights Tryd.prog 40 d1 ∨ m ∈ DataW.weights Tryd.prog 28 d2 ∨ m ∈ DataW.weights Tryd.prog 34 d3 ∨ m ∈ DataW.weights Tryd.prog 26 d4) → m ≤ reachBytes := by
    intro m hm
    rw [List.all_eq_true] at hsz
    have := hsz m (by
      simp only [List.cons_append, DataW.weightsEach, List.mem_append]
      rcases hm with hm | hm | hm | hm | hm
      · exact .inl hm
      · exact .inr (.inl hm)
      · exact .inr (.inr (.inl hm))
      · exact .inr (.inr (.inr (.inl hm)))
      · exact .inr (.inr (.inr (.inr (.inl hm)))))
    simpa using this
  obtain ⟨dts, u0, e0, rd⟩ := datas_down _ _ _ h0 (fun m hm => hw m (.inl hm))
  obtain ⟨scp, u1, e1, rs⟩ := scope_down _ _ _ h1 (fun m hm => hw m (.inr (.inl hm)))
  obtain ⟨t, rt, wt, lt⟩ := term_down _ _ _ h2 (fun m hm => hw m (.inr (.inr (.inl hm))))
  obtain ⟨l, u3, e3, rl, hln⟩ := strs_down _ _ _ h3 (fun m hm => hw m (.inr (.inr (.inr (.inl hm)))))
  obtain ⟨ts, u4, e4, rts, wts, lts⟩ := terms_down _ _ _ h4 (fun m hm => hw m (.inr (.inr (.inr (.inr hm)))))
  obtain rfl : Value.slice a0 l0 c0 = u0 := by simpa [Value.cells] using e0
  obtain rfl : Value.slice a1 l1 c1 = u1 := by simpa [Value.cells] using e1
  obtain rfl : Value.slice a3 l3 c3 = u3 := by simpa [Value.cells] using e3
  obtain rfl : Value.slice a4 l4 c4 = u4 := by simpa [Value.cells] using e4
  have hcall := termSubst_calls dts scp t l ts W.heap.size W _ _ _ _ _ rt rd rs rl rts (env_of hL) wt lt wts lts hln
  refine hcall.mono fun e W' ⟨he, hg⟩ => ?_
  subst he
  exact ⟨_, rfl, post_of_below (pv := []) hW' (fun _ _ _ => trodAll_cons_mk (shut_bool Tryd.underlying4 _) trodAll_mk0) (fun sp hsp => DataW.TrodAll.respare kids full (by rw [Tryd.params4]; decide) (trod_below hg hA0 (fun p hp => hW'.lt p (by simpa using hp))) (fun p hp => hsp p (by simpa using hp))) (fun _ _ => rfl) rfl
    hg (ok_one (by kernel_rfl) rfl (okWide_bool_mk Tryd.underlying4 _))⟩
end Go.Proofs.YtlacfgnjljjdiaaDoor
