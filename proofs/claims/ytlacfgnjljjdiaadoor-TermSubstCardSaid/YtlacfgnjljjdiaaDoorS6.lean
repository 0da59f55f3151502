import Derived.Test.YtlacfgnjljjdiaaDoorS5
import Derived.Test.YtlacfgnjljjdiaaDoorT6
import Derived.Test.YtlacfgnjljjdiaaDoorT7
set_option linter.unusedVariables false
set_option linter.unusedSimpArgs false
open Go Go.RowKit Go.Proofs
namespace Wh
/-! ### tried[string]; Sort -/
theorem triedS1_idle (be bx : Nat) (w : World) :
    CallsD Tryd.prog 81 #[.pointer (some ⟨be, 0, none⟩), .pointer (some ⟨bx, 0, none⟩)] .returning w fun e u' w' => e = .returned (.tuple #[]) ∧ u' = .returning ∧ w' = w := by
  refine callsD_of_wpS Tryd.func81 rfl fun c₀ cs hu => ?_
  apply wpS_seq
  apply wpS_region
  simp [wpOpsS, go_sem, recoverD, hu, Tryd.ntmps81, Exit.thenS]
  refine wpS_of_wp ?_
  simp only [List.size_toArray, List.length_cons, List.length_nil, Nat.reduceAdd, Nat.reduceSub, Array.replicate_succ, Array.replicate_zero, List.push_toArray, List.append_toArray, List.nil_append, List.cons_append, List.setIfInBounds_toArray, List.set_cons_zero, List.set_cons_succ]
  go_wp2_with fail
  cases c₀
  simp_all [bodyPostS, results, Tryd.results81]
set_option maxRecDepth 100000 in
theorem triedS1_panic (be bx : Nat) (n e0 : Int) (a : Value) (older : List PanicEntry) (w : World) (he : Blk w be #[.int .i64 e0] 41) (hx : Blk w bx #[a] 9) (hne : be ≠ bx) :
    CallsD Tryd.prog 81 #[.pointer (some ⟨be, 0, none⟩), .pointer (some ⟨bx, 0, none⟩)] (.panicking ({ v := .iface 41 (.int .i64 n), recovered := false } :: older)) w fun e u' w' =>
      e = .returned (.tuple #[]) ∧ u' = .panicking ({ v := .iface 41 (.int .i64 n), recovered := true } :: older) ∧ w' = (w.setCell ⟨be, 0, none⟩ (.int .i64 n)).setCell ⟨bx, 0, none⟩ (.string ⟨#[]⟩) := by
  refine callsD_of_wpS Tryd.func81 rfl fun c₀ cs hu => ?_
  apply wpS_seq
  apply wpS_region
  simp [wpOpsS, go_sem, recoverD, hu, Tryd.ntmps81, Exit.thenS]
  refine wpS_of_wp ?_
  simp only [List.size_toArray, List.length_cons, List.length_nil, Nat.reduceAdd, Nat.reduceSub, Array.replicate_succ, Array.replicate_zero, List.push_toArray, List.append_toArray, List.nil_append, List.cons_append, List.setIfInBounds_toArray, List.set_cons_zero, List.set_cons_succ]
  obtain ⟨e1, e2⟩ := Blk.c1 he
  obtain ⟨x0, y0⟩ := Blk.c1 hx
  have z1 := he.lt
  have z2 := hx.lt
  clear he hx
  have hta : ∀ w, (Instr.typeAssert (.iface 41 (.int .i64 n)) 20 41 true).run Tryd.prog w = .ok (.tuple #[.int .i64 n, .bool true]) w := fun _ => rfl
  go_wp2_with fail
  all_goals simp [bodyPostS, results, Tryd.results81]
def triedSW (w : World) : World := (w.alloc (.cells #[.string ⟨#[]⟩] 9)).alloc (.cells #[.int .i64 0] 41)
def TriedSPost (w : World) (S : Ending → World → Prop) (e : Ending) (w3 : World) : Prop :=
  Below w.heap.size w w3 ∧ ((∃ s w2, S (.returned (.string s)) w2 ∧ e = .returned (.tuple #[.string s, .int .i64 0])) ∨ (∃ n w2, S (.panicked (thrown n)) w2 ∧ e = .returned (.tuple #[.string ⟨#[]⟩, .int .i64 n])))
set_option maxRecDepth 100000 in
theorem triedS_calls {g : Nat} {cap : Array Value} {w : World} {S : Ending → World → Prop} (eg : ∀ args w, (callFunc g args).run Tryd.prog w = .ok (.enter g args) w) (h : Calls Tryd.prog g cap (triedSW w) S)
    (hS : ∀ e w', S e w' → Below (triedSW w).heap.size (triedSW w) w' ∧ ((∃ s, e = .returned (.string s)) ∨ ∃ n, e = .panicked (thrown n))) :
    Calls Tryd.prog 60 #[.func (.func g) #[] cap] w (TriedSPost w S) := by
  have hmf : ∀ (fn : Fn) (first cap : Array Value) (w : World), (Instr.makeFunc fn first cap).run Tryd.prog w = .ok (.func fn first cap) w := fun _ _ _ _ => rfl
  have H := Lib.hid h
  have HS := Lib.hid hS
  clear h hS
  go_enter_defers Tryd.func60, Tryd.ntmps60
  go_wp2_with fail
  refine Calls.mono (H.out) ?_
  intro e w2 hs2
  obtain ⟨hg2, hs3⟩ := HS.out e w2 hs2
  have hx : Blk w2 w.heap.size #[.string ⟨#[]⟩] 9 := Blk.ext (Blk.alloc (Blk.new w _ _) _) hg2
  have he : Blk w2 (w.heap.size + 1) #[.int .i64 0] 41 := Blk.ext (Blk.new' _ _ _ (by simp)) hg2
  have z2 := hg2.size
  simp [triedSW] at z2
  have z3 : w.heap.size < w2.heap.size := by omega
  have z4 : w.heap.size + 1 < w2.heap.size := by omega
  obtain ⟨ee1, ee2⟩ := Blk.c1 he
  obtain ⟨x0, y0⟩ := Blk.c1 hx
  have HE := Lib.hid he
  have HX := Lib.hid hx
  have HG := Lib.hid (show Below w.heap.size w w2 from Below.trans (ext_alloc (ext_alloc (Below.refl w.heap.size w) _) _) (hg2.mono (by simp [triedSW]; omega)))
  clear he hx hg2
  rcases hs3 with ⟨s, rfl⟩ | ⟨n, rfl⟩
  · have HS2 := Lib.hid hs2
    clear hs2
    dsimp only
    go_wp2
    refine leaves_cons (f := 81) (args := #[.pointer (some ⟨w.heap.size + 1, 0, none⟩), .pointer (some ⟨w.heap.size, 0, none⟩)]) (by simp) (by simp [go_sem]) ?_
    refine (triedS1_idle (w.heap.size + 1) w.heap.size _).mono ?_
    rintro e u' w' ⟨rfl, rfl, rfl⟩
    simp [Leaves, settle, results, Tryd.results60, go_sem, x0, ee1, y0, ee2]
    exact ⟨Below.setCell (Below.setCell HG.out (Nat.le_refl _) _) (by simp) _, .inl ⟨s, w2, HS2.out, rfl⟩⟩
  · have HS2 := Lib.hid hs2
    clear hs2
    dsimp only
    go_wp2
    refine leaves_cons (f := 81) (args := #[.pointer (some ⟨w.heap.size + 1, 0, none⟩), .pointer (some ⟨w.heap.size, 0, none⟩)]) (by simp) (by simp [go_sem]) ?_
    refine (triedS1_panic (w.heap.size + 1) w.heap.size n 0 _ [] _ HE.out HX.out (by omega)).mono ?_
    rintro e u' w' ⟨rfl, rfl, rfl⟩
    simp [Leaves, settle, results, Tryd.results60, go_sem, z3, z4, x0, ee1, y0, ee2]
    exact ⟨Below.setCell (Below.setCell HG.out (by simp) _) (Nat.le_refl _) _, .inr ⟨n, w2, HS2.out, rfl⟩⟩
set_option maxHeartbeats 1000000 in
theorem sort1_calls (ds : List Dt) (sc : List Sd) (t : Tm) (w : World) (bp bx sb : Nat) (kd : Int) (nm : ByteArray) (ng : Bool) (dA : Option Addr) (dn dc : Nat) (kA : Option Addr) (kn kc : Nat) (dv sv : Value) (HS : SortAt ds sc t) (hp : Blk w bp #[.pointer (some ⟨sb, 0, none⟩)] 113) (hx : Blk w bx #[.int .u8 kd, .string nm, .bool ng, .slice dA dn dc, .slice kA kn kc] 28) (hs : Blk w sb #[dv, sv] 115)
    (hr : D.rdRow w (fun _ => True) t.enc [.int .u8 kd, .string nm, .bool ng, .slice dA dn dc, .slice kA kn kc]) (hd : D.rd w (fun _ => True) (.row 86 2 (ds.map Dt.enc)) dv) (hc : D.rd w (fun _ => True) (.row 156 2 (sc.map Sd.enc)) sv) (hwf : t.wf) (hlow : t.low) (hfit : t.fits) :
    Calls Tryd.prog 61 #[.pointer (some ⟨bp, 0, none⟩), .pointer (some ⟨bx, 0, none⟩)] w (StrPost w (sortOf ds sc t)) := by
  have HC := Lib.hid (HS w _ sb dv sv hr hs hd hc hwf hlow hfit)
  obtain ⟨p0, p1⟩ := Blk.c1 hp
  obtain ⟨⟨x0, x1, x2, x3, x4⟩, y0, y1, y2, y3, y4⟩ := Blk.c5 hx
  have hlp := hp.lt
  have hlx := hx.lt
  clear hp hx hs hr hd hc HS
  go_enter Tryd.func61, Tryd.ntmps61
  go_wp2_with fail
  refine HC.out.mono ?_
  rintro e w2 ⟨hb, hm⟩
  have HB := Lib.hid hb
  clear hb
  cases hso : sortOf ds sc t with
  | none =>
    rw [hso] at hm
    obtain ⟨n, hn, rfl⟩ := hm
    exact ⟨rfl, HB.out, n, hn, rfl⟩
  | some s =>
    rw [hso] at hm
    subst hm
    have HSO := Lib.hid hso
    clear hso
    dsimp only
    go_wp2_with fail
    go_ret
    exact StrPost.yes HSO.out HB.out
def SortPost (w : World) (r : Option ByteArray) (e : Ending) (w' : World) : Prop := Below w.heap.size w w' ∧ match r with
  | some s => e = .returned (.tuple #[.string s, .int .i64 0])
  | none => ∃ n, n ≠ 0 ∧ e = .returned (.tuple #[.string ⟨#[]⟩, .int .i64 n])
theorem SortPost.no {w w' : World} {r : Option ByteArray} {n : Int} (h : r = none) (hn : n ≠ 0) (hb : Below w.heap.size w w') : SortPost w r (.returned (.tuple #[.string ⟨#[]⟩, .int .i64 n])) w' := by subst h; exact ⟨hb, n, hn, rfl⟩
theorem SortPost.yes {w w' : World} {r : Option ByteArray} {s : ByteArray} (h : r = some s) (hb : Below w.heap.size w w') : SortPost w r (.returned (.tuple #[.string s, .int .i64 0])) w' := by subst h; exact ⟨hb, rfl⟩
set_option maxHeartbeats 1000000 in
set_option maxRecDepth 100000 in
theorem Sort_calls (ds : List Dt) (sc : List Sd) (t : Tm) (w : World) (us : List Value) (dv sv : Value) (hr : D.rdRow w (fun _ => True) t.enc us) (hd : D.rd w (fun _ => True) (.row 86 2 (ds.map Dt.enc)) dv) (hc : D.rd w (fun _ => True) (.row 156 2 (sc.map Sd.enc)) sv) (hwf : t.wf) (hlow : t.low) (hfit : t.fits) :
    Calls Tryd.prog 40 #[dv, sv, .agg us.toArray] w (SortPost w (sortOf ds sc t)) := by
  have hmf : ∀ (fn : Fn) (first cap : Array Value) (w : World), (Instr.makeFunc fn first cap).run Tryd.prog w = .ok (.func fn first cap) w := fun _ _ _ _ => rfl
  have HS := Lib.hid (ssort_calls ds sc t)
  obtain ⟨kd, nm, ng, xd, ls⟩ := t
  obtain ⟨dA, dc, kA, kc, rfl, _, _⟩ := Tm.open hr
  generalize hT : Tm.mk kd nm ng xd ls = t at *
  obtain ⟨A1, c1, rfl, _⟩ := rd_map hd
  obtain ⟨A2, c2, rfl, _⟩ := rd_map hc
  have HR := Lib.hid hr
  have HD := Lib.hid hd
  have HC := Lib.hid hc
  have HW := Lib.hid hwf
  have HL := Lib.hid hlow
  have HF := Lib.hid hfit
  clear hr hd hc hwf hlow hfit hT
  go_enter Tryd.func40, Tryd.ntmps40
  go_wp2_with fail
  have hw3 : Below w.heap.size w (triedSW (((w.alloc (.cells #[.int .u8 kd, .string nm, .bool ng, .slice dA xd.length dc, .slice kA ls.length kc] 28)).alloc (.cells #[.slice A1 ds.length c1, .slice A2 sc.length c2] 115)).alloc (.cells #[.pointer (some ⟨w.heap.size + 1, 0, none⟩)] 113))) := ext_alloc (ext_alloc (ext_alloc (ext_alloc (ext_alloc (Below.refl _ _) _) _) _) _) _
  have hcall := sort1_calls ds sc t _ (w.heap.size + 1 + 1) w.heap.size (w.heap.size + 1) kd nm ng dA xd.length dc kA ls.length kc _ _ HS.out (((Blk.new' _ _ _ (by simp)).alloc _).alloc _) ((((Blk.new w _ _).alloc _).alloc _ |>.alloc _).alloc _) ((((Blk.new' _ _ _ (by simp)).alloc _).alloc _).alloc _) (D.rdRow_ext HR.out hw3) (D.rd_ext HD.out hw3) (D.rd_ext HC.out hw3) HW.out HL.out HF.out
  refine (triedS_calls (fun args w => by kernel_rfl) hcall (fun e w' h => ?_)).mono ?_
  · obtain ⟨hb, hm⟩ := h
    refine ⟨hb, ?_⟩
    cases hs : sortOf ds sc t with
    | none =>
      rw [hs] at hm
      obtain ⟨n, _, rfl⟩ := hm
      exact .inr ⟨n, rfl⟩
    | some s =>
      rw [hs] at hm
      exact .inl ⟨s, hm⟩
  · rintro e w4 ⟨hb4, h4⟩
    have HB4 := Lib.hid (show Below w.heap.size w w4 from Below.trans (ext_alloc (ext_alloc (ext_alloc (Below.refl w.heap.size w) _) _) _) (hb4.mono (by simp; omega)))
    clear hb4 hcall hw3
    cases hs : sortOf ds sc t with
    | none =>
      have hn : ∃ n, n ≠ 0 ∧ e = .returned (.tuple #[.string ⟨#[]⟩, .int .i64 n]) := by
        rcases h4 with ⟨s, w2, ⟨_, hm⟩, rfl⟩ | ⟨n, w2, ⟨_, hm⟩, rfl⟩
        · rw [hs] at hm
          obtain ⟨n, _, hm⟩ := hm
          cases hm
        · rw [hs] at hm
          obtain ⟨n', hn', hm⟩ := hm
          injection hm with hm
          have := thrown_inj hm
          subst this
          exact ⟨n, hn', rfl⟩
      obtain ⟨n, hn, rfl⟩ := hn
      have HSO := Lib.hid hs
      clear h4 hs
      dsimp only
      go_wp2_with fail
      refine bodyPost_ret (v := .tuple #[.string ⟨#[]⟩, .int .i64 n]) (by simp [results, Tryd.results40, go_sem]) rfl (SortPost.no HSO.out hn HB4.out)
    | some s =>
      have hn : e = .returned (.tuple #[.string s, .int .i64 0]) := by
        rcases h4 with ⟨s', w2, ⟨_, hm⟩, rfl⟩ | ⟨n, w2, ⟨_, hm⟩, rfl⟩
        · rw [hs] at hm
          injection hm with hm
          injection hm with hm
          rw [hm]
        · rw [hs] at hm
          cases hm
      subst hn
      have HSO := Lib.hid hs
      clear h4 hs
      dsimp only
      go_wp2_with fail
      refine bodyPost_ret (v := .tuple #[.string s, .int .i64 0]) (by simp [results, Tryd.results40, go_sem]) rfl (SortPost.yes HSO.out HB4.out)
end Wh
