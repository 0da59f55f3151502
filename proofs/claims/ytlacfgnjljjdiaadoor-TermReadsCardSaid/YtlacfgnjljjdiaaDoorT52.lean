import Derived.Test.YtlacfgnjljjdiaaDoorCards
import Derived.Test.YtlacfgnjljjdiaaDoorTie
import Derived.Test.YtlacfgnjljjdiaaDoorT51
import Derived.Test.YtlacfgnjljjdiaaDoorT38
import Derived.WalkKit
import Derived.ProofKit
import Derived.OpenShut
import Derived.Deep.DeepHandedRow
import Derived.Deep.DeepWitnessRowRef
import Derived.Lib.LaidTab
set_option linter.unusedVariables false
set_option linter.unusedSimpArgs false
namespace Go.Proofs.YtlacfgnjljjdiaaDoor
open Go.ChangeShapes Go.WideShapes Go.ChangeAt Go.RowKit Wh
set_option maxRecDepth 1000000
theorem own : ownKnob Tryd.prog.godebug = none := by kernel_rfl
theorem kids : Kids Tryd.prog (· < Tryd.prog.types.size) := kids_rows (by kernel_rfl) (by kernel_rfl)
theorem full : ∀ t e, t < Tryd.prog.types.size → Tryd.prog.underlying t = some (.slice e) → 0 < Tryd.prog.cellsOf e := slices_full_of Tryd.prog (by kernel_rfl)
section
variable {H : Type} {enc : TypeId × Value → H} {P : Program}
/-- 'post' of a law that only reads: below the heap's old size nothing has turned. -/
theorem post_of_below {f : Func} {s : ChangeSpec} {apart fresh handsOn again : Bool} {W W' : World} {args : Array Value} {v : Value} {ds gs : List (DataW H)} {before pa pv : List MemPlace}
    (hW : DataW.Whole enc P f.params.toList s.vars apart W args.toList ds gs before)
    (hres : ∀ (b : Nat) (sp : Nat → Bool) (hd : Bool), DataW.TrodAll enc P W' b sp hd f.resultTypes.toList (v.resultList f.resultTypes.size) (s.fn H (ds ++ gs)).results [])
    (hargs : ∀ sp : Nat → Bool, (∀ p ∈ before, sp p.block = true) → DataW.TrodAll enc P W' 0 sp true f.params.toList args.toList (s.fn H (ds ++ gs)).args pa)
    (hvars : ∀ sp : Nat → Bool, (∀ p ∈ before, sp p.block = true) → DataW.TrodVars enc P W' sp s.vars (s.fn H (ds ++ gs)).vars pv)
    (hps : before = pa ++ pv) (hb : Below W.heap.size W W')
    (hok : ∀ (j : Nat) (t : TypeId) (r : Value), f.resultTypes[j]? = some t → (v.resultList f.resultTypes.size)[j]? = some r → Value.okWide P W' .any 0 t r) :
    s.post enc P f apart fresh handsOn again W args v W' := by
  have hold : ∀ p ∈ before, (fun b => decide (b < W.heap.size)) p.block = true := fun p hp => by simpa using hW.lt p hp
  have hlt : ∀ p ∈ before, p.block < W.heap.size := fun p hp => hW.lt p hp
  refine ⟨ds, gs, before, [], pa, pv, hW, hres _ _ _, hargs _ hold, hvars _ hold, World.keptBut_mono (fun p hp => ⟨hp, ?_⟩) (hb.frame _), fun _ => ?_⟩
  · rw [hps, List.mem_append] at hp
    exact Or.inr hp
  · obtain ⟨_, _, _, _, _, hz, hn⟩ := hW
    refine ⟨hok, _, _, ([] ++ pa) ++ pv, ⟨[] ++ pa, pv, trodAll_append (hargs _ (fun _ _ => rfl)) (hres _ _ _), hvars _ (fun _ _ => rfl), rfl, ?_, ?_⟩, ?_⟩
    · intro b off hp
      have hp' : MemPlace.cell b off ∈ before := by rw [hps]; simpa using hp
      rw [hb.frozen (p := ⟨b, off, none⟩) (hlt _ hp')]
      exact hz b off hp'
    · intro ha
      have := hn ha
      rw [hps] at this
      simpa using this
    · intro p hp _
      rw [hps]
      simpa using hp
theorem trod_below {W W' : World} {base : Nat} {sp : Nat → Bool} {held : Bool} (hb : Below W.heap.size W W') : ∀ {ts : List TypeId} {vs : List Value} {ds : List (DataW H)} {ps : List MemPlace}, DataW.TrodAll enc P W base sp held ts vs ds ps → (∀ p ∈ ps, p.block < W.heap.size) → DataW.TrodAll enc P W' base sp held ts vs ds ps
  | [], _, _, _, h, _ => by
    obtain ⟨rfl, rfl, rfl⟩ := trodAll_nil h
    exact h
  | _ :: _, _, _, _, h, hp => by
    obtain ⟨v, vs1, d, ds1, a, b, rfl, rfl, rfl, ⟨n, h1⟩, h2⟩ := trodAll_cons h
    exact ⟨a, b, ⟨n, DataW.trod_carry _ _ _ _ h1 (fun p hp' => hb.same (hp p (by simp [hp'])))⟩, trod_below hb h2 (fun p hp' => hp p (by simp [hp'])), rfl⟩
theorem iface_of {w : World} {base n : Nat} {sp : Nat → Bool} {held : Bool} {t : TypeId} {m : Array (String × TypeId)} {cs : List Value} {nm : String} {d : DataW H} {ps : List MemPlace} (ht : P.underlying t = some (.interface m))
    (h : DataW.trod enc P w base sp held n t cs = some (.iface nm d, ps)) : ∃ u v, cs = [.iface u v] := by
  cases n with
  | zero => simp [DataW.trod] at h
  | succ n =>
    unfold DataW.trod at h
    rw [ht] at h
    split at h <;> simp_all
end
theorem laid_head {P : Program} {w : World} {n : String} {d : DataW Unit} {r : List (String × DataW Unit)} {ps : List MemPlace} (h : DataW.LaidVars P w ((n, d) :: r) ps) : (∃ g t cs fuel p, P.globalNamed n = some g ∧ (P.globals[g]?).map (·.type) = some t ∧ w.var? P n = some cs ∧ DataW.trod (fun _ => ()) P w 0 (fun _ => true) false fuel t cs.toList = some (d, p)) ∧ ∃ q, DataW.LaidVars P w r q := by
  obtain ⟨g, t, cs, fuel, p, q, h1, h2, h3, h4, h5, _⟩ := h
  exact ⟨⟨g, t, cs, fuel, p, h1, h2, h3, h4⟩, q, h5⟩
theorem var_lt {P : Program} {w : World} {n : String} {g : Nat} {cs : Array Value} (h : w.var? P n = some cs) (hg : P.globalNamed n = some g) : g < w.heap.size := by
  unfold World.var? at h
  rw [hg] at h
  simp only [Option.bind_some] at h
  cases hh : w.heap[g]? with
  | none => rw [hh] at h; cases h
  | some o => exact (Array.getElem?_eq_some_iff.1 hh).1
/-- WHAT THE ROW's LIST GIVES: the library's variables. -/
theorem env_of {W : World} (hL : laidMetH Tryd.prog Rows.termReadsRow.laid W) : Env2 W.heap.size W := by
  have hL' : laidMet Tryd.prog Rows.termReadsRow.laid W := hL
  obtain ⟨ps, hv, _⟩ := hL'
  obtain ⟨_, q1, hv⟩ := laid_head hv
  obtain ⟨_, q2, hv⟩ := laid_head hv
  obtain ⟨⟨g, t, cs, fuel, p, h1, h2, h3, h4⟩, q3, hv⟩ := laid_head hv
  obtain ⟨⟨g', t', cs', fuel', p', h1', h2', h3', h4'⟩, q4, hv⟩ := laid_head hv
  obtain ⟨⟨g'', t'', cs'', fuel'', p'', h1'', h2'', h3'', h4''⟩, q5, hv⟩ := laid_head hv
  have eg : g = 1 := Option.some.inj (h1.symm.trans (by kernel_rfl))
  have eg' : g' = 3 := Option.some.inj (h1'.symm.trans (by kernel_rfl))
  have eg'' : g'' = 2 := Option.some.inj (h1''.symm.trans (by kernel_rfl))
  subst eg eg' eg''
  have et : t = 177 := Option.some.inj (h2.symm.trans (by kernel_rfl))
  have et' : t' = 118 := Option.some.inj (h2'.symm.trans (by kernel_rfl))
  have et'' : t'' = 118 := Option.some.inj (h2''.symm.trans (by kernel_rfl))
  subst et et' et''
  refine ⟨⟨Nat.le_refl _, ?_, fun g hg => ?_⟩, ?_, ?_, fun g hg => ?_, fun g hg => ?_⟩
  · unfold Lib.TabIs
    rw [h3]
    have := Lib.cells_of_tab (zs := Lib.pow10Tab) Tryd.underlying177 Tryd.underlying97 (by kernel_rfl) (by kernel_rfl) h4
    rw [← this]
  · rw [h1] at hg
    exact Option.some.inj hg ▸ var_lt h3 h1
  · obtain ⟨u, v, e⟩ := iface_of Tryd.underlying118 h4''
    refine ⟨u, v, ?_⟩
    rw [h3'']
    exact congrArg some (Array.toList_inj.1 e)
  · obtain ⟨u, v, e⟩ := iface_of Tryd.underlying118 h4'
    refine ⟨u, v, ?_⟩
    rw [h3']
    exact congrArg some (Array.toList_inj.1 e)
  · rw [h1''] at hg
    exact Option.some.inj hg ▸ var_lt h3'' h1''
  · rw [h1'] at hg
    exact Option.some.inj hg ▸ var_lt h3' h1'
end Go.Proofs.YtlacfgnjljjdiaaDoor
