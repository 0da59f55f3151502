import Derived.Test.YtlacfgnjljjdiaaDoorS4
set_option linter.unusedVariables false
set_option linter.unusedSimpArgs false
open Go Go.RowKit Go.Proofs Go.Shelf
attribute [local go_sem] Oper.semAt_some
namespace Wh
/-! ### a range over a function whose rounds may panic -/
section
variable {F : Fence} {n : Nat} {P : Program}
def roundPostP (P : Program) (l : Nat) (R : Ending → World → Prop) : Exit → Act → World → Prop
  | .normal, _, w => ∃ v w', (Instr.endRound l none).run P w = .ok v w' ∧ R (.returned v) w'
  | .ret, _, w => ∃ v w', (Instr.endRound l (some .ret)).run P w = .ok v w' ∧ R (.returned v) w'
  | .panic ch, a, w => a.defers = [] ∧ R (.panicked ch) w
  | _, _, _ => False
/-- One round, out of its body's walk; it may end normally, by a return, by a panic. -/
theorem roundIn_p {l : Nat} {f : FuncId} {fn : Func} {tmps : Array Value} {assign body : Code} {w : World} {R : Ending → World → Prop} (hF : F.fn f) (hfn : P.funcs[f]? = some fn)
    (h : assign.wpIn (F.inRound l) n P (Exit.then (fun a₁ w₁ => ∃ w₂, (Instr.beginRound l).run P w₁ = .ok () w₂ ∧ body.wpIn (F.inRound l) n P (roundPostP P l R) a₁ w₂) (fun _ _ _ => False)) { tmps := tmps, defers := [] } w) :
    RoundIn F n P l f tmps assign body w R := by
  refine ⟨hF, fun c cs hr => ?_⟩
  let b : Frame := { (default : Frame) with fn := f, kind := .normal, roundOf := some l }
  have hb0 : Frame.round l f tmps assign body .normal = b.atR { tmps := tmps, defers := [] } [.code assign, .beginRound, .code body] := by simp [Frame.round, Frame.atR, b]
  have hr' : (F.inRound l).room ((c :: cs).length + 1 + n) := hr
  have hF' : (F.inRound l).fn b.fn := hF
  obtain ⟨e, a₁, w₁, hq, harr⟩ := h b [.beginRound, .code body] (c :: cs) rfl hF' hr'
  rw [← hb0] at harr
  cases e with
  | normal =>
    obtain ⟨w₂, hbr, hbody⟩ := hq
    have s1 : StepsIn (Machine.fenced P (F.inRound l)) P (lone (b.atR a₁ [.beginRound, .code body]) (c :: cs) w₁) (lone (b.atR a₁ [.code body]) (c :: cs) w₂) := .one (fenced_calm (fr := b.atR a₁ [.beginRound, .code body]) hF' hr' rfl) (stepR_beginRound rfl hbr)
    obtain ⟨e₂, a₂, w₃, hq₂, harr₂⟩ := hbody b [] (c :: cs) rfl hF' hr'
    cases e₂ with
    | normal =>
      obtain ⟨v, w₄, hend, hR⟩ := hq₂
      exact ⟨.returned v, w₄, hR, (StepsIn.trans harr s1).trans (StepsIn.trans harr₂ (.one (fenced_calm (fr := b.atR a₂ []) hF' hr' rfl) (stepR_round_end rfl rfl hend)))⟩
    | ret =>
      obtain ⟨v, w₄, hend, hR⟩ := hq₂
      obtain ⟨k₁, hs⟩ := harr₂.2 rfl
      exact ⟨.returned v, w₄, hR, (StepsIn.trans harr s1).trans (StepsIn.trans hs (.one (fenced_calm (fr := b.atR a₂ (.code .ret :: k₁)) hF' hr' rfl) (stepR_round_ret rfl rfl hend)))⟩
    | exit id => exact hq₂.elim
    | goto t => exact hq₂.elim
    | panic chain =>
      obtain ⟨hd, hR⟩ := hq₂
      obtain ⟨todo, hs⟩ := harr₂
      have hl : Frame.leaving P { b.atR a₂ todo with mode := .panicking chain } w₃ (.panicked chain) := ⟨rfl, by simp [Frame.atR, hd], fn, hfn⟩
      exact ⟨.panicked chain, w₃, hR, (StepsIn.trans harr s1).trans (StepsIn.trans hs (.one (fenced_leaving hF' hr' hl) (step_leave_panicked hl)))⟩
    | outgrown => exact hq₂.elim
  | exit id => exact hq.elim
  | goto t => exact hq.elim
  | ret => exact hq.elim
  | panic chain => exact hq.elim
  | outgrown => exact hq.elim
end
/-! ### the scope -/
structure Sd where
  name : ByteArray
  sort : ByteArray
def Sd.enc (x : Sd) : List D := [.txt x.name, .txt x.sort]
theorem Sd.at_ {w : World} {ok : Nat → Prop} {l : List Sd} {A : Option Addr} {n c : Nat} (h : D.rd w ok (.row 156 2 (l.map Sd.enc)) (.slice A n c)) (k : Nat) (hk : k < l.length) :
    ∃ g o, A = some ⟨g, o, none⟩ ∧ ok g ∧ g < w.heap.size ∧ w.cell? ⟨g, o + k * 2, none⟩ = some (.string l[k].name) ∧ w.cell? ⟨g, o + k * 2 + 1, none⟩ = some (.string l[k].sort) := by
  obtain ⟨g, o, us, rfl, h1, h2, _, h4, h5⟩ := row_at h k hk
  simp only [Sd.enc, D.rdRow] at h4
  obtain ⟨u0, r0, rfl, g0, u1, r1, rfl, g1, rfl⟩ := h4
  simp only [D.rd] at g0 g1
  subst g0 g1
  exact ⟨g, o, rfl, h1, h2, by simpa using h5 0 (by omega), by simpa using h5 1 (by omega)⟩
/-- The last of that name. -/
def lastOf (sc : List Sd) (n : ByteArray) : Option Sd := sc.reverse.find? fun x => decide (x.name = n)
def varOf (ds : List Dt) (sc : List Sd) (n : ByteArray) : Option ByteArray := match lastOf sc n with
  | some x => if isBase ds x.sort = true then some x.sort else none
  | none => none
set_option maxHeartbeats 1000000 in
set_option maxRecDepth 100000 in
theorem backward1_in (n l Bn c : Nat) (A : Option Addr) (sc : List Sd) (J : Nat → World → Prop) (Jx : World → Prop) (Jp : List PanicEntry → World → Prop) (hlen : sc.length ≤ 9223372036854775807)
    (hread : ∀ m W, J m W → Blk W Bn #[.slice A sc.length c] 40 ∧ D.rd W (fun _ => True) (.row 156 2 (sc.map Sd.enc)) (.slice A sc.length c))
    (hY : ∀ m W (hm : m < sc.length), J (m + 1) W → YieldAt FX (n - 1) Tryd.prog l #[.int .i64 m, .agg #[.string sc[m].name, .string sc[m].sort]] W fun e W' => (e = .returned (.bool true) ∧ J m W') ∨ (e = .returned (.bool false) ∧ Jx W') ∨ ∃ ch, e = .panicked ch ∧ Jp ch W')
    (W : World) (h0 : J sc.length W) :
    CallsIn FX n Tryd.prog 120 #[.func (.yield l) #[] #[], .pointer (some ⟨Bn, 0, none⟩)] W fun e W' => (∃ v, e = .returned v ∧ (J 0 W' ∨ Jx W')) ∨ ∃ ch, e = .panicked ch ∧ Jp ch W' := by
  refine callsIn_of_wp Tryd.func120 rfl (by simp) ?_ rfl
  simp only [Tryd.ntmps120, List.size_toArray, List.length_cons, List.length_nil, Nat.reduceAdd, Nat.reduceSub, Array.replicate_succ, Array.replicate_zero, List.push_toArray, List.append_toArray, List.nil_append, List.cons_append]
  obtain ⟨hb, _⟩ := hread _ _ h0
  obtain ⟨c0, f0⟩ := Blk.c1 hb
  have hlt0 := hb.lt
  have w0 : IntKind.i64.wrap ((sc.length : Int) - 1) = (sc.length : Int) - 1 := wrap_id _ (by omega) (by omega)
  have H0 := Lib.hid h0
  have HR := Lib.hid hread
  have HY := Lib.hid hY
  clear h0 hread hY hb
  gi_wp2_with fail
  gi_loopw [3] (fun i wr => ∃ (m : Nat) (z : Int), m ≤ sc.length ∧ i = .int .i64 z ∧ z + 1 = m ∧ Hid (J m wr)) (fun i _ => (RowKit.intOf i + 1).toNat)
  case atStart => exact ⟨sc.length, _, Nat.le_refl _, rfl, by omega, H0⟩
  case round =>
    obtain ⟨m, z, hm, rfl, hz, HJ⟩ := hrel
    cases m with
    | zero =>
      obtain rfl : z = -1 := by omega
      gi_wp2_with fail
      go_end0
      exact .inl ⟨_, rfl, .inl HJ.out⟩
    | succ m =>
      obtain rfl : z = (m : Int) := by omega
      have b1 : (0 : Int) ≤ m := by omega
      have b2 : (m : Int) < sc.length := by omega
      obtain ⟨fn, tmps, assign, body, hy, hRd⟩ := HY.out m wr (by omega) HJ.out
      obtain ⟨hb, hrd⟩ := HR.out _ _ HJ.out
      obtain ⟨c0, f0⟩ := Blk.c1 hb
      have hlt := hb.lt
      obtain ⟨g, o, rfl, _, hg, e0, e1⟩ := Sd.at_ hrd m (by omega)
      have HRD := Lib.hid hRd
      clear hb hrd hRd
      generalize sc[m] = sd at *
      gi_wp2_with fail
      refine HRD.out.mono ?_
      rintro e W3 (⟨rfl, hJ⟩ | ⟨rfl, hJx⟩ | ⟨ch, rfl, hJp⟩)
      · have HJ3 := Lib.hid hJ
        clear hJ
        dsimp only
        have e9 : IntKind.i64.wrap ((m : Int) - 1) = (m : Int) - 1 := wrap_id _ (by omega) (by omega)
        gi_wp2_with fail
        go_roundw
        case rel => exact ⟨m, (m : Int) - 1, by omega, rfl, by omega, HJ3⟩
        case measure => simp [RowKit.intOf]
      · have HJ3 := Lib.hid hJx
        clear hJx
        dsimp only
        gi_wp2_with fail
        refine bodyPost_ret (results_none rfl _ _ _) rfl ?_
        exact .inl ⟨_, rfl, .inr HJ3.out⟩
      · have HJ3 := Lib.hid hJp
        clear hJp
        dsimp only
        gi_wp2_with fail
        exact ⟨rfl, .inr ⟨ch, rfl, HJ3.out⟩⟩
theorem backward_in (n : Nat) (A : Option Addr) (k c : Nat) (w : World) : CallsIn FX n Tryd.prog 101 #[.slice A k c] w fun e w' => e = .returned (.func (.func 120) #[] #[.pointer (some ⟨w.heap.size, 0, none⟩)]) ∧ w' = w.alloc (.cells #[.slice A k c] 40) := by
  have hmf : ∀ (fn : Fn) (first cap : Array Value) (w : World), (Instr.makeFunc fn first cap).run Tryd.prog w = .ok (.func fn first cap) w := fun _ _ _ _ => rfl
  gi_enter Tryd.func101, Tryd.ntmps101
  gi_wp2_with fail
  go_ret
  exact ⟨rfl, rfl⟩
theorem must_true_in (k : Nat) (n : Int) (w : World) : CallsIn FX k Tryd.prog 29 #[.bool true, .int .i64 n] w fun e w' => e = .returned (.tuple #[]) ∧ w = w' := by
  gi_enter Tryd.func29, Tryd.ntmps29
  gi_wp2
  go_end0
  exact ⟨rfl, rfl⟩
theorem must_false_in (k : Nat) (n : Int) (w : World) : CallsIn FX k Tryd.prog 29 #[.bool false, .int .i64 n] w fun e w' => e = .panicked (thrown n) ∧ w = w' := by
  gi_enter Tryd.func29, Tryd.ntmps29
  gi_wp2
  exact ⟨rfl, rfl, rfl⟩
theorem below_grown {w W : World} (h : Below w.heap.size w W) (row : Option Nat) : w.grownBy W row := ⟨h.os, h.tape, h.output, h.size, fun g hg _ => h.block g hg⟩
def bodyEnds (R : Nat) (G : Prop) (Fs : ByteArray → Prop) (Bad : List PanicEntry → Prop) (W : World) : Exit → Act → World → Prop
  | .normal, _, W' => Below W.heap.size W W' ∧ G
  | .ret, _, W' => W.grownBy W' (some R) ∧ ∃ s, Fs s ∧ Blk W' R #[.string s] 9
  | .panic ch, a, W' => a.defers = [] ∧ Below W.heap.size W W' ∧ Bad ch
  | _, _, _ => False
theorem below_put {B : Nat} {w W : World} {l : Nat} (h : Below B w W) (hl : B ≤ l) (hs : l < W.heap.size) (o : Obj) : Below B w (W.putObj l o) := h.grown (grownBy_putObj' W l o) (by have := h.size; omega) (fun k e => by cases e; omega)
theorem grown_put {w W : World} {row : Option Nat} {l : Nat} (h : w.grownBy W row) (hl : w.heap.size ≤ l) (o : Obj) : w.grownBy (W.putObj l o) row := grown_by h (grownBy_putObj' W l o) (fun k e => by cases e; exact .inr hl)
/-- A range over a function whose rounds go on, return by a result's cell, or panic. -/
theorem range_p {n : Nat} {g : Operand} {ps : Array Tmp} {assign body : Code} {Q : Exit → Act → World → Prop} {a : Act} {W0 : World} {gf : Nat} {lb : Array Value} (hsz : Tryd.prog.funcs.size = 163) (hg : a.eval g = .func (.func gf) #[] lb) (hFg : FX.fn gf)
    (eg : ∀ args w, (callFunc gf args).run Tryd.prog w = .ok (.enter gf args) w) (R N : Nat) (hR : R < W0.heap.size) (enc : Nat → Array Value) (cells : Nat → Array Value) (tX : TypeId) (hps : ∀ m, (enc m).size = ps.size) (G : Nat → Prop) (Fs : ByteArray → Prop) (Bad : List PanicEntry → Prop) (hG0 : G N) (a₁ : Nat → Nat → Act)
    (hit : ∀ (l : Nat) (J : Nat → World → Prop) (Jx : World → Prop) (Jp : List PanicEntry → World → Prop) (W : World), (∀ m W, J m W → Below W0.heap.size W0 W) →
      (∀ m W, m < N → J (m + 1) W → YieldAt FX (n - 1 - 1) Tryd.prog l (enc m) W fun e W' => (e = .returned (.bool true) ∧ J m W') ∨ (e = .returned (.bool false) ∧ Jx W') ∨ ∃ ch, e = .panicked ch ∧ Jp ch W') → J N W →
      CallsIn FX (n - 1) Tryd.prog gf (#[.func (.yield l) #[] #[]] ++ lb) W fun e W' => (∃ v, e = .returned v ∧ (J 0 W' ∨ Jx W')) ∨ ∃ ch, e = .panicked ch ∧ Jp ch W')
    (hassign : ∀ (l m : Nat) (W : World) (K : Act → World → Prop), m < N → K (a₁ m W.heap.size) (W.alloc (.cells (cells m) tX)) →
      assign.wpIn (FX.inRound l) (n - 1 - 1) Tryd.prog (Exit.then K (fun _ _ _ => False)) { tmps := (ps.zip (enc m)).foldl (fun t (p, v) => t.setIfInBounds p v) a.tmps, defers := [] } W)
    (hbody : ∀ (l m X : Nat) (W : World), m < N → G (m + 1) → Below W0.heap.size W0 W → Blk W X (cells m) tX → W0.heap.size ≤ X → body.wpIn (FX.inRound l) (n - 1 - 1) Tryd.prog (bodyEnds R (G m) Fs Bad W) (a₁ m X) W)
    (hdone : ∀ (D : Nat) (W : World), G 0 → Below W0.heap.size W0 W → W0.heap.size ≤ D → W.heap[D]? = some (.deferred (some [])) → Q .normal { a with defers := { target := .collected D, args := #[] } :: a.defers } W)
    (hret : ∀ (D : Nat) (s : ByteArray) (W : World), Fs s → W0.grownBy W (some R) → Blk W R #[.string s] 9 → W0.heap.size ≤ D → W.heap[D]? = some (.deferred (some [])) → Code.ret.wpIn FX n Tryd.prog Q { a with defers := { target := .collected D, args := #[] } :: a.defers } W)
    (hpan : ∀ (D : Nat) (ch : List PanicEntry) (W : World), Bad ch → Below W0.heap.size W0 W → W0.heap.size ≤ D → W.heap[D]? = some (.deferred (some [])) → Q (.panic ch) { a with defers := { target := .collected D, args := #[] } :: a.defers } W) :
    (Code.rangeFunc g ps assign body).wpIn FX n Tryd.prog Q a W0 := by
  refine wpIn_rangeFunc ?_
  intro fn hfn
  obtain ⟨fnf, hfnf⟩ : ∃ f, Tryd.prog.funcs[fn]? = some f := ⟨_, Array.getElem?_eq_getElem (by rw [hsz]; exact hfn)⟩
  obtain ⟨rec, hrec⟩ : ∃ rec : LoopState → Option Code → Loop, rec = fun st pe => { state := st, pending := pe, fn, tmps := a.tmps, params := ps, assign, body, defers := W0.heap.size } := ⟨_, rfl⟩
  obtain ⟨W1, hW1⟩ : ∃ W1, (W0.alloc (.deferred (some []))).alloc (.loop (rec .ready none)) = W1 := ⟨_, rfl⟩
  have hL1 : W1.heap[W0.heap.size + 1]? = some (.loop (rec .ready none)) := by
    rw [← hW1]
    have := World.alloc_heap_new (W0.alloc (.deferred (some []))) (.loop (rec .ready none))
    rwa [World.size_alloc] at this
  have hK1 : W1.heap[W0.heap.size]? = some (.deferred (some [])) := by
    rw [← hW1]
    exact (Below.heap_alloc _ _ _ (by simp)).trans (World.alloc_heap_new W0 _)
  have hB1 : Below W0.heap.size W0 W1 := by
    rw [← hW1]
    exact ext_alloc (ext_alloc (Below.refl _ _) _) _
  refine ⟨W0.heap.size + 1, [{ target := .collected W0.heap.size, args := #[] }], W1, { target := .fn (.func gf) lb, args := #[.func (.yield (W0.heap.size + 1)) #[] #[]] }, W1, gf, #[.func (.yield (W0.heap.size + 1)) #[] #[]] ++ lb, W1, ?_, ?_, ?_, ?_, fun h => (by cases h), ?_⟩
  · rw [← hW1, hrec]
    exact run_enterLoop_outer _ _ _ _ _
  · simp only [resolve, hg]
    simp [go_sem]
  · intro f' hf'
    simp [Target.leads] at hf'
    subst hf'
    exact hFg
  · simp [invoke, go_sem, eg]
  · refine (hit (W0.heap.size + 1)
      (fun m W => G m ∧ Below W0.heap.size W0 W ∧ W.heap[W0.heap.size + 1]? = some (.loop (rec .ready none)) ∧ W.heap[W0.heap.size]? = some (.deferred (some [])))
      (fun W => W0.grownBy W (some R) ∧ (∃ s, Fs s ∧ Blk W R #[.string s] 9) ∧ W.heap[W0.heap.size + 1]? = some (.loop (rec .done (some .ret))) ∧ W.heap[W0.heap.size]? = some (.deferred (some [])))
      (fun ch W => Bad ch ∧ Below W0.heap.size W0 W ∧ W.heap[W0.heap.size]? = some (.deferred (some [])))
      W1 (fun m W h => h.2.1) ?_ ⟨hG0, hB1, hL1, hK1⟩).mono ?_
    · rintro m W hm ⟨hG, hB, hl, hk⟩
      have hlt : W0.heap.size + 1 < W.heap.size := (Array.getElem?_eq_some_iff.1 hl).1
      have hy := run_yield (P := Tryd.prog) (args := enc m) hl (by rw [hrec]; exact hps m)
      rw [hrec] at hy
      have hlA : (W.alloc (.cells (cells m) tX)).heap[W0.heap.size + 1]? = some (.loop (rec .ready none)) := (Below.heap_alloc _ _ _ hlt).trans hl
      have hkA : (W.alloc (.cells (cells m) tX)).heap[W0.heap.size]? = some (.deferred (some [])) := (Below.heap_alloc _ _ _ (by omega)).trans hk
      refine ⟨fn, _, assign, body, hy, roundIn_p hfn hfnf (hassign _ m W _ hm ⟨_, run_beginRound hlA (by rw [hrec]), ?_⟩)⟩
      obtain ⟨W2, hW2⟩ : ∃ W2, W2 = (W.alloc (.cells (cells m) tX)).putObj (W0.heap.size + 1) (.loop { rec .ready none with state := .busy }) := ⟨_, rfl⟩
      rw [← hW2]
      have hsA : W0.heap.size + 1 < (W.alloc (.cells (cells m) tX)).heap.size := by simp; omega
      have hl2 : W2.heap[W0.heap.size + 1]? = some (.loop { rec .ready none with state := .busy }) := by rw [hW2]; exact World.putObj_heap_same hsA
      have hk2 : W2.heap[W0.heap.size]? = some (.deferred (some [])) := by rw [hW2]; exact (World.putObj_heap_other (by omega)).trans hkA
      have hB2 : Below W0.heap.size W0 W2 := by rw [hW2]; exact below_put (hB.alloc hB.size _) (by omega) hsA _
      have hX2 : Blk W2 W.heap.size (cells m) tX := by rw [hW2]; exact (World.putObj_heap_other (by omega)).trans (Blk.new W _ _)
      refine wpIn_mono (hbody _ m W.heap.size W2 hm hG hB2 hX2 hB.size) ?_
      rintro e a3 W3 hp
      cases e with
      | normal =>
        obtain ⟨hb3, hg3⟩ := hp
        have hl3 := (hb3.block _ (Array.getElem?_eq_some_iff.1 hl2).1).trans hl2
        have hk3 := (hb3.block _ (Array.getElem?_eq_some_iff.1 hk2).1).trans hk2
        have hend := run_endRound (P := Tryd.prog) none hl3
        have hs3 := (Array.getElem?_eq_some_iff.1 hl3).1
        have hB3 : Below W0.heap.size W0 W3 := hB2.trans (hb3.mono hB2.size)
        refine ⟨_, _, hend, .inl ⟨rfl, hg3, below_put hB3 (by omega) hs3 _, ?_, (World.putObj_heap_other (by omega)).trans hk3⟩⟩
        rw [World.putObj_heap_same hs3, hrec]
        rfl
      | ret =>
        obtain ⟨hg3, s, hs, hr3⟩ := hp
        have hl3 := (hg3.block _ (Array.getElem?_eq_some_iff.1 hl2).1 (by intro e; injection e with e; omega)).trans hl2
        have hk3 := (hg3.block _ (Array.getElem?_eq_some_iff.1 hk2).1 (by intro e; injection e with e; omega)).trans hk2
        have hend := run_endRound (P := Tryd.prog) (some .ret) hl3
        have hs3 := (Array.getElem?_eq_some_iff.1 hl3).1
        have hG3 : W0.grownBy W3 (some R) := grown_by (below_grown hB2 (some R)) hg3 (fun k hk => .inl hk.symm)
        refine ⟨_, _, hend, .inr (.inl ⟨rfl, grown_put hG3 (by omega) _, ⟨s, hs, (World.putObj_heap_other (by omega)).trans hr3⟩, ?_, (World.putObj_heap_other (by omega)).trans hk3⟩)⟩
        rw [World.putObj_heap_same hs3, hrec]
        rfl
      | panic ch =>
        obtain ⟨hd, hb3, hbad⟩ := hp
        exact ⟨hd, .inr (.inr ⟨ch, rfl, hbad, hB2.trans (hb3.mono hB2.size), (hb3.block _ (Array.getElem?_eq_some_iff.1 hk2).1).trans hk2⟩)⟩
      | exit id => exact hp.elim
      | goto t => exact hp.elim
      | outgrown => exact hp.elim
    · rintro e W2 (⟨v, rfl, (⟨hG, hB, hl, hk⟩ | ⟨hgr, ⟨s, hs, hrb⟩, hl, hk⟩)⟩ | ⟨ch, rfl, hbad, hB, hk⟩)
      · have hend := run_endLoop (P := Tryd.prog) hl (by rw [hrec]; simp)
        have hs3 := (Array.getElem?_eq_some_iff.1 hl).1
        rw [hrec] at hend
        exact ⟨none, _, hend, hdone _ _ hG (below_put hB (by omega) hs3 _) (Nat.le_refl _) ((World.putObj_heap_other (by omega)).trans hk)⟩
      · have hend := run_endLoop (P := Tryd.prog) hl (by rw [hrec]; simp)
        rw [hrec] at hend
        exact ⟨some .ret, _, hend, hret _ s _ hs (grown_put hgr (by omega) _) ((World.putObj_heap_other (by omega)).trans hrb) (Nat.le_refl _) ((World.putObj_heap_other (by omega)).trans hk)⟩
      · exact hpan _ ch _ hbad hB (Nat.le_refl _) hk
theorem lastOf_hit {sc : List Sd} {name : ByteArray} {m : Nat} (hm : m < sc.length) (h : sc[m].name = name) (hG : ∀ j (hj : j < sc.length), m + 1 ≤ j → sc[j].name ≠ name) : lastOf sc name = some sc[m] := by
  have hsp : sc = sc.take m ++ sc[m] :: sc.drop (m + 1) := by rw [← List.drop_eq_getElem_cons hm, List.take_append_drop]
  have hno : (sc.drop (m + 1)).reverse.find? (fun x => decide (x.name = name)) = none := by
    rw [List.find?_eq_none]
    intro x hx
    rw [List.mem_reverse] at hx
    obtain ⟨j, hj, rfl⟩ := List.getElem_of_mem hx
    rw [List.length_drop] at hj
    rw [List.getElem_drop]
    simpa using hG (m + 1 + j) (by omega) (by omega)
  unfold lastOf
  generalize sc[m] = x at *
  rw [hsp]
  simp only [List.reverse_append, List.reverse_cons, List.append_assoc, List.find?_append, hno]
  simp [h]
theorem lastOf_none {sc : List Sd} {name : ByteArray} (hG : ∀ j (hj : j < sc.length), sc[j].name ≠ name) : lastOf sc name = none := by
  unfold lastOf
  rw [List.find?_eq_none]
  intro x hx
  rw [List.mem_reverse] at hx
  obtain ⟨j, hj, rfl⟩ := List.getElem_of_mem hx
  simpa using hG j hj
set_option maxHeartbeats 2000000 in
set_option maxRecDepth 100000 in
theorem variable_calls (ds : List Dt) (sc : List Sd) (name : ByteArray) (sb : Nat) (w : World) (dv sv : Value) (hs : Blk w sb #[dv, sv] 115) (hd : D.rd w (fun _ => True) (.row 86 2 (ds.map Dt.enc)) dv) (hc : D.rd w (fun _ => True) (.row 156 2 (sc.map Sd.enc)) sv) :
    Calls Tryd.prog 84 #[.pointer (some ⟨sb, 0, none⟩), .string name] w (StrPost w (varOf ds sc name)) := by
  refine CallsIn.calls (F := FX) (n := 9) ?_ FX_room
  refine callsIn_of_wp_marks Tryd.func84 rfl (by simp) ?_ rfl
  simp only [Tryd.ntmps84, List.size_toArray, List.length_cons, List.length_nil, Nat.reduceAdd, Nat.reduceSub, Array.replicate_succ, Array.replicate_zero, List.push_toArray, List.append_toArray, List.nil_append, List.cons_append]
  obtain ⟨c0, c1, f0, f1⟩ := Blk.c2 hs
  have hlt := hs.lt
  have hlt1 : sb < w.heap.size + 1 := by omega
  have hlt2 : sb < w.heap.size + 1 + 1 := by omega
  obtain ⟨A, c, rfl, hl⟩ := rd_map hc
  have HS := Lib.hid hs
  have HD := Lib.hid hd
  have HC := Lib.hid hc
  clear hs hd hc
  gi_wp2_with (gi_at_call 101; refine (backward_in _ _ _ _ _).mono ?_; rintro e w' ⟨rfl, rfl⟩)
  obtain ⟨pk, hpk⟩ : ∃ pk : Nat → Sd, ∀ m (h : m < sc.length), pk m = sc[m] := ⟨fun m => sc.getD m ⟨⟨#[]⟩, ⟨#[]⟩⟩, fun m h => by simp [h]⟩
  have HPKA := Lib.hid hpk
  clear hpk
  obtain ⟨W0, hW0⟩ : ∃ W0, W0 = ((((w.alloc (.cells #[.pointer (some ⟨sb, 0, none⟩)] 113)).alloc (.cells #[.string name] 9)).alloc (.cells #[.string ⟨#[]⟩] 9)).alloc (.cells #[.slice A sc.length c] 40)) := ⟨_, rfl⟩
  rw [← hW0]
  have p0 : Blk W0 w.heap.size #[.pointer (some ⟨sb, 0, none⟩)] 113 := by rw [hW0]; exact (((Blk.new _ _ _).alloc _).alloc _).alloc _
  have p1 : Blk W0 (w.heap.size + 1) #[.string name] 9 := by rw [hW0]; exact (((Blk.new' _ _ _ (by simp)).alloc _).alloc _)
  have p2 : Blk W0 (w.heap.size + 1 + 1) #[.string ⟨#[]⟩] 9 := by rw [hW0]; exact ((Blk.new' _ _ _ (by simp)).alloc _)
  have p3 : Blk W0 (w.heap.size + 1 + 1 + 1) #[.slice A sc.length c] 40 := by rw [hW0]; exact Blk.new' _ _ _ (by simp)
  have hb0 : Below w.heap.size w W0 := by rw [hW0]; exact ext_alloc (ext_alloc (ext_alloc (ext_alloc (Below.refl _ _) _) _) _) _
  have hz0 : W0.heap.size = w.heap.size + 1 + 1 + 1 + 1 := by rw [hW0]; simp
  clear hW0
  refine range_p (R := w.heap.size + 1 + 1) (N := sc.length) (by kernel_rfl) rfl (by simp) (fun _ _ => rfl) (by omega) (fun m => #[.int .i64 m, .agg #[.string (pk m).name, .string (pk m).sort]]) (fun m => #[.string (pk m).name, .string (pk m).sort]) 156 (fun _ => rfl)
    (fun m => ∀ j (hj : j < sc.length), m ≤ j → sc[j].name ≠ name) (fun s => varOf ds sc name = some s) (fun ch => ∃ n, n ≠ 0 ∧ ch = thrown n ∧ varOf ds sc name = none) (fun j hj h => absurd h (by omega))
    (fun m X => { tmps := #[.pointer (some ⟨sb, 0, none⟩), .string name, .pointer (some ⟨w.heap.size, 0, none⟩), .pointer (some ⟨w.heap.size + 1, 0, none⟩), .pointer (some ⟨w.heap.size + 1 + 1, 0, none⟩), undef, .pointer (some ⟨X, 0, none⟩), .pointer (some ⟨sb, 0, none⟩), .pointer (some ⟨sb, 0, none⟩), .pointer (some ⟨sb, 1, none⟩), .slice A sc.length c, .func (.func 120) #[] #[.pointer (some ⟨w.heap.size + 1 + 1 + 1, 0, none⟩)], .int .i64 m, .agg #[.string (pk m).name, .string (pk m).sort], undef, undef, undef, undef, undef, undef, undef, undef, undef, undef, undef, undef], defers := [] })
    ?hit ?assign ?body ?done ?ret ?pan
  case hit =>
    intro l J Jx Jp W hJB hY h0
    refine backward1_in _ l _ c A sc J Jx Jp hl (fun m W h => ⟨p3.below (hJB m W h) (by omega), D.rd_ext HC.out (hb0.trans ((hJB m W h).mono (by omega)))⟩) (fun m W hm h => ?_) W h0
    have := hY m W hm h
    rw [HPKA.out m hm] at this
    exact this
  case assign =>
    intro l m W K hm hK
    gi_wp2
    exact hK
  case body =>
    intro l m X W hm hG hB hX hge
    obtain ⟨x0, x1, y0, y1⟩ := Blk.c2 hX
    have hx := hX.lt
    obtain ⟨q0, _⟩ := Blk.c1 (p0.below hB (by omega))
    obtain ⟨q1, _⟩ := Blk.c1 (p1.below hB (by omega))
    have hR := p2.below hB (by omega)
    obtain ⟨q2, q3⟩ := Blk.c1 hR
    have hRl := hR.lt
    have HRB := Lib.hid hR
    have HX := Lib.hid hX
    have HPK := Lib.hid (HPKA.out m hm)
    have HG := Lib.hid hG
    have hBA : ∀ (q : Nat) W', Below W.heap.size W W' → CallsIn FX q Tryd.prog 102 #[.pointer (some ⟨sb, 0, none⟩), .string (pk m).sort] W' (Tells W' (.bool (isBase ds (pk m).sort))) := fun q W' hb => base_calls_in q ds (pk m).sort sb W' (fun _ => True) dv _ (D.rd_ext (D.rd_ext HD.out (hb0.trans (hB.mono (by omega)))) hb) ((HS.out.ext (hb0.trans (hB.mono (by omega)))).ext hb)
    have HBA := Lib.hid hBA
    clear hBA hX hR hG
    by_cases hnm : (pk m).name = name
    · have e1 : ((pk m).name.toList == name.toList) = true := str_yes hnm
      have HL := Lib.hid (lastOf_hit hm (HPK.out ▸ hnm) HG.out)
      cases hbs : isBase ds (pk m).sort with
      | true =>
        have HF := Lib.hid (show varOf ds sc name = some (pk m).sort by rw [varOf, HL.out, ← HPK.out]; simp [hbs])
        rw [hbs] at HBA
        clear hnm hbs HL HPK
        generalize (pk m).name = nm at *
        generalize (pk m).sort = st at *
        gi_wp2_with (first
          | (gi_at_call 102; refine (CallsIn.inRound l (HBA.out _ _ (Below.refl _ _))).mono ?_; rintro e w' ⟨rfl, hb2⟩; have HB2 := Lib.hid hb2; have HX2 := Lib.hid (HX.out.ext hb2); have HR2 := Lib.hid (HRB.out.ext hb2); obtain ⟨z0, z1, z2, z3⟩ := Blk.c2 HX2.out; obtain ⟨r0, r1⟩ := Blk.c1 HR2.out; have hx2 := HX2.out.lt; have hr2 := HR2.out.lt; clear hb2)
          | (gi_at_call 29; refine (CallsIn.inRound l (must_true_in _ _ _)).mono ?_; rintro e w' ⟨rfl, rfl⟩))
        refine ⟨grown_set (below_grown HB2.out _) (.inl rfl) _, st, HF.out, ?_⟩
        simpa using HR2.out.set 0 (.string st)
      | false =>
        have HF := Lib.hid (show varOf ds sc name = none by rw [varOf, HL.out, ← HPK.out]; simp [hbs])
        rw [hbs] at HBA
        clear hnm hbs HL HPK
        generalize (pk m).name = nm at *
        generalize (pk m).sort = st at *
        gi_wp2_with (first
          | (gi_at_call 102; refine (CallsIn.inRound l (HBA.out _ _ (Below.refl _ _))).mono ?_; rintro e w' ⟨rfl, hb2⟩; have HB2 := Lib.hid hb2; have HX2 := Lib.hid (HX.out.ext hb2); have HR2 := Lib.hid (HRB.out.ext hb2); obtain ⟨z0, z1, z2, z3⟩ := Blk.c2 HX2.out; obtain ⟨r0, r1⟩ := Blk.c1 HR2.out; have hx2 := HX2.out.lt; have hr2 := HR2.out.lt; clear hb2)
          | (gi_at_call 29; refine (CallsIn.inRound l (must_false_in _ _ _)).mono ?_; rintro e w' ⟨rfl, rfl⟩))
        exact ⟨rfl, HB2.out, 23, by decide, rfl, HF.out⟩
    · have e1 : ((pk m).name.toList == name.toList) = false := str_no hnm
      have HGM := Lib.hid (show ∀ j (hj : j < sc.length), m ≤ j → sc[j].name ≠ name from fun j hj h => by
        by_cases hjm : j = m
        · subst hjm
          rw [← HPK.out]
          exact hnm
        · exact HG.out j hj (by omega))
      clear hnm
      generalize (pk m).name = nm at *
      generalize (pk m).sort = st at *
      gi_wp2_with fail
      exact ⟨Below.refl _ _, HGM.out⟩
  case done =>
    intro D W hG hB hD hK
    have HF := Lib.hid (show varOf ds sc name = none by rw [varOf, lastOf_none (fun j hj => hG j hj (Nat.zero_le _))])
    gi_wp2_with fail
    refine ⟨by simp, .inl ⟨_, _, rfl, run_takeDeferred hK, ?_⟩⟩
    exact StrPost.no HF.out (by decide) (below_put (hb0.trans (hB.mono (by omega))) (by omega) (Array.getElem?_eq_some_iff.1 hK).1 _)
  case ret =>
    intro D s W hs hg hr hD hK
    have HF := Lib.hid hs
    have hrp : Blk (W.putObj D (.deferred none)) (w.heap.size + 1 + 1) #[.string s] 9 := (World.putObj_heap_other (by omega)).trans hr
    obtain ⟨r0, r1⟩ := Blk.c1 hrp
    have hrl := hrp.lt
    clear hs
    gi_wp2_with fail
    refine ⟨by simp, .inl ⟨_, _, rfl, run_takeDeferred hK, ?_⟩⟩
    refine ⟨.string s, ?_, ?_⟩
    · simp [results, Tryd.results84, go_sem, r0]
    · refine StrPost.yes HF.out (below_put ?_ (by omega) (Array.getElem?_eq_some_iff.1 hK).1 _)
      exact ⟨hg.os.trans hb0.os, hg.tape.trans hb0.tape, hg.output.trans hb0.output, Nat.le_trans hb0.size hg.size, fun k hk => (hg.block k (by omega) (by intro e; injection e with e; omega)).trans (hb0.block k hk)⟩
  case pan =>
    intro D ch W hbad hB hD hK
    obtain ⟨n, hn, rfl, hno⟩ := hbad
    have HNO := Lib.hid hno
    clear hno
    gi_wp2_with fail
    refine ⟨by simp, .inl ⟨_, _, rfl, run_takeDeferred hK, ?_⟩⟩
    exact StrPost.no HNO.out hn (below_put (hb0.trans (hB.mono (by omega))) (by omega) (Array.getElem?_eq_some_iff.1 hK).1 _)
end Wh
