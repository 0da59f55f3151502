import Derived.Test.YtlacfgnjljjdiaaDoorT48Q
set_option linter.unusedVariables false
set_option linter.unusedSimpArgs false
open Go Go.RowKit Go.Proofs
namespace Wh
/-! ### the reference's reader of a term -/
def RefTermPost (w : World) (b : Nat) (s : ByteArray) (q : Tm × Nat × Bool) (e : Ending) (w' : World) : Prop := w.grownBy w' (some b) ∧ RSt w' b s q.2.1 q.2.2 ∧ ∃ us, e = .returned (.agg us.toArray) ∧ MadeRow w' (fun g => w.heap.size ≤ g) q.1.enc us
def RefTermAt (s : ByteArray) (F : Nat) : Prop := ∀ (b a : Nat) (w : World), a ≤ s.size → s.size + 1 - a ≤ F → RSt w b s a false → Calls Tryd.prog 30 #[.pointer (some ⟨b, 0, none⟩)] w (RefTermPost w b s (tmF s F a false))
theorem number_rs {b : Nat} {s : ByteArray} {most a : Nat} {bad : Bool} {c : Int} {w : World} {f : FuncId} {args : Array Value} {R : Ending → World → Prop} (h : Calls Tryd.prog f args w (NumR w b s most a bad c))
    (hr : ∀ w' n a' bad', rsF s most c a bad = (n, a', bad') → n ≤ 10 * most + 9 → a < a' → a' ≤ s.size + 1 ∨ a' = a + 1 → w.grownBy w' (some b) → RSt w' b s a' bad' → R (.returned (.int .i64 n)) w') : Calls Tryd.prog f args w R := by
  refine h.mono ?_
  rintro e w' ⟨n, a', h1, h2, h3, h4, rfl, hg, hst⟩
  refine hr w' n (a' + 1) _ ?_ h2 (by omega) (by omega) hg hst
  unfold rsF
  rw [h1]
theorem RefTermPost.mk' {w w' : World} {b : Nat} {s : ByteArray} {q : Tm × Nat × Bool} {t : Tm} {a : Nat} {bad : Bool} {us : List Value} (hq : q = (t, a, bad)) (hg : w.grownBy w' (some b)) (hst : RSt w' b s a bad) (hm : MadeRow w' (fun g => w.heap.size ≤ g) t.enc us) : RefTermPost w b s q (.returned (.agg us.toArray)) w' := by
  subst hq
  exact ⟨hg, hst, us, rfl, hm⟩
theorem RSt.flag {w : World} {b : Nat} {s : ByteArray} {a : Nat} {bad x : Bool} (h : RSt w b s a bad) : RSt (w.setCell ⟨b, 2, none⟩ (.bool x)) b s a x := by
  have h2 := Blk.set h 2 (.bool x)
  have e : (#[.string s, .int .i64 a, .bool bad] : Array Value).setIfInBounds 2 (.bool x) = #[.string s, .int .i64 a, .bool x] := by simp
  rw [e] at h2
  exact h2
theorem RSt.own {w W : World} {b N : Nat} {s : ByteArray} {a : Nat} {bad : Bool} (h : RSt W b s a bad) (hne : b ≠ N) (v0 v1 v2 v3 v4 : Value) : RSt (set5 W N v0 v1 v2 v3 v4).drew b s a bad := by
  have := ((((Blk.other h (p := ⟨N, 0, none⟩) hne v0).other (p := ⟨N, 1, none⟩) hne v1).other (p := ⟨N, 2, none⟩) hne v2).other (p := ⟨N, 3, none⟩) hne v3).other (p := ⟨N, 4, none⟩) hne v4
  exact this.drew
structure TS (w W : World) (b : Nat) (s : ByteArray) (a : Nat) (bad : Bool) : Prop where
  hg : w.grownBy W (some b)
  st : RSt W b s a bad
  zero : Blk W w.heap.size #[.int .u8 0, .string ⟨#[]⟩, .bool false, .slice none 0 0, .slice none 0 0] 28
theorem TS.next {w W W' : World} {b : Nat} {s : ByteArray} {a a' : Nat} {bad bad' : Bool} (h : TS w W b s a bad) (hbw : b < w.heap.size) (hg : W.grownBy W' (some b)) (hst : RSt W' b s a' bad') : TS w W' b s a' bad' :=
  ⟨grown_by h.hg hg (fun k hk => .inl hk.symm), hst, h.zero.grown hg (by intro e; injection e with e; omega)⟩
theorem TS.alloc {w W : World} {b : Nat} {s : ByteArray} {a : Nat} {bad : Bool} (h : TS w W b s a bad) (o : Obj) : TS w (W.alloc o) b s a bad := ⟨grown_alloc h.hg _, Blk.alloc h.st _, h.zero.alloc _⟩
theorem TS.drew {w W : World} {b : Nat} {s : ByteArray} {a : Nat} {bad : Bool} (h : TS w W b s a bad) : TS w W.drew b s a bad := ⟨grown_drew h.hg, Blk.drew h.st, h.zero.drew⟩
theorem TS.setT {w W : World} {b : Nat} {s : ByteArray} {a : Nat} {bad : Bool} (h : TS w W b s a bad) {T : Nat} (hT : w.heap.size < T) (hbw : b < w.heap.size) (i : Nat) (v : Value) : TS w (W.setCell ⟨T, i, none⟩ v) b s a bad :=
  ⟨grown_set h.hg (.inr (by show w.heap.size ≤ T; omega)) _, Blk.other h.st (by show b ≠ T; omega) _, h.zero.other (by show w.heap.size ≠ T; omega) _⟩
theorem TS.setAt {w W : World} {b : Nat} {s : ByteArray} {a : Nat} {bad : Bool} (h : TS w W b s a bad) (hbw : b < w.heap.size) (a' : Nat) : TS w (W.setCell ⟨b, 1, none⟩ (.int .i64 (a' : Int))) b s a' bad := by
  refine ⟨grown_set h.hg (.inl rfl) _, ?_, h.zero.other (by show w.heap.size ≠ b; omega) _⟩
  have h2 := Blk.set h.st 1 (.int .i64 (a' : Int))
  have e : (#[.string s, .int .i64 a, .bool bad] : Array Value).setIfInBounds 1 (.int .i64 (a' : Int)) = #[.string s, .int .i64 a', .bool bad] := by simp
  rw [e] at h2
  exact h2
theorem TS.row {w W W' : World} {b : Nat} {s : ByteArray} {a : Nat} {bad : Bool} {row : Option Nat} (h : TS w W b s a bad) (hg : W.grownBy W' row) (hrow : ∀ g, row = some g → w.heap.size < g) (hbw : b < w.heap.size) : TS w W' b s a bad := by
  have hne : ∀ k, k ≤ w.heap.size → some k ≠ row := fun k hk e => by
    have := hrow k e.symm
    omega
  exact ⟨grown_by h.hg hg (fun k hk => .inr (by have := hrow k hk; omega)), Blk.grown h.st hg (hne b (by omega)), h.zero.grown hg (hne _ (Nat.le_refl _))⟩
theorem nxtIs_lt {s : ByteArray} {a : Nat} {c : Int} (h : nxtIs s a c = true) : a < s.size := by
  unfold nxtIs at h
  split at h
  · assumption
  · cases h
theorem sgnBad_lt {s : ByteArray} {a : Nat} {c : Int} (h : sgnBad s a c = false) : a < s.size := by
  unfold sgnBad at h
  split at h
  · assumption
  · cases h
theorem dgF_stop {s : ByteArray} {F : Nat} {ds : List Int} {a : Nat} {bad : Bool} (h : bad = true ∨ nxtIs s a 32 = true) : dgF s F ds a bad = (ds, a, bad) := by
  cases F with
  | zero => rfl
  | succ F => rw [dgF, if_pos h]
theorem dgF_go {s : ByteArray} {F : Nat} {ds : List Int} {a n a' : Nat} {bad' : Bool} (h : nxtIs s a 32 = false) (hn : rsF s 4294967295 46 a false = (n, a', bad')) : dgF s (F + 1) ds a false = dgF s F (ds ++ [((n : Int) % 4294967296)]) a' bad' := by
  rw [dgF, if_neg (by simp [h]), hn]
  simp
theorem kdF_stop {f : Nat → Bool → Tm × Nat × Bool} {m : Nat} {l : List Tm} {a : Nat} : kdF f m l a true = (l, a, true) := by
  cases m with
  | zero => rfl
  | succ m => rw [kdF, if_pos rfl]
theorem kdF_go {f : Nat → Bool → Tm × Nat × Bool} {m : Nat} {l : List Tm} {a a' : Nat} {t : Tm} {bad : Bool} (h : f a false = (t, a', bad)) : kdF f (m + 1) l a false = kdF f m (l ++ [t]) a' bad := by
  rw [kdF, if_neg (by simp), h]
theorem kdF_ge {f : Nat → Bool → Tm × Nat × Bool} (hf : ∀ a bad, a ≤ (f a bad).2.1) : ∀ (m : Nat) (l : List Tm) (a : Nat) (bad : Bool), a ≤ (kdF f m l a bad).2.1
  | 0, l, a, bad => Nat.le_refl _
  | m + 1, l, a, bad => by
    rw [kdF]
    split
    · exact Nat.le_refl _
    · exact Nat.le_trans (hf a bad) (kdF_ge hf m _ _ _)
theorem tmF_ge {s : ByteArray} : ∀ (F a : Nat) (bad : Bool), a ≤ (tmF s F a bad).2.1
  | 0, a, bad => Nat.le_refl _
  | F + 1, a, bad => by
    rw [tmF]
    simp only
    have h1 := rsF_ge (s := s) (most := 255) (c := 32) (a := a) (bad := bad)
    have h2 := rsF_ge (s := s) (most := s.size) (c := 58) (a := (rsF s 255 32 a bad).2.1) (bad := (rsF s 255 32 a bad).2.2)
    split
    · simp only
      omega
    · simp only
      refine Nat.le_trans ?_ (kdF_ge (tmF_ge F) _ _ _ _)
      refine Nat.le_trans ?_ (Nat.le_of_lt rsF_ge)
      refine Nat.le_trans ?_ (Nat.le_succ_of_le (dgF_ge _ _ _ _))
      split <;> omega
theorem refterm_made {w wr : World} {N M : Nat} {k : Int} {nm : ByteArray} {gv : Bool} {A A2 : Option Addr} {c c2 j : Nat} {ds : List Int} {ks : List Tm} {xs : List Value} {v1 v2 v3 v4 v5 : Value}
    (hD : Made wr (fun g => N + 1 ≤ g ∧ g < M) (.ints 53 .u32 ds) (.slice A ds.length c)) (hO : wr.ownsRow M 28 5 (.slice A2 j c2) j xs) (hC : MadeCells wr (fun g => M ≤ g ∧ (Value.slice A2 j c2).ownBlock ≠ some g) 5 (Tm.encs ks) xs) (hkl : ks.length = j) (hM : M ≤ wr.heap.size) (hN : w.heap.size < N ∧ N < M) :
    MadeRow (set5 wr w.heap.size v1 v2 v3 v4 v5) (fun g => w.heap.size ≤ g) (Tm.mk k nm gv ds ks).enc [.int .u8 k, .string nm, .bool gv, .slice A ds.length c, .slice A2 j c2] := by
  simp only [Tm.enc]
  refine MadeRow.num _ _ (MadeRow.txt _ (MadeRow.tru _ ?_))
  refine MadeRow.cons (ok1 := fun g => N + 1 ≤ g ∧ g < M) (ok2 := fun g => M ≤ g) ?_ (MadeRow.one ?_) (fun g hg => by omega) (fun g hg => by omega) (fun g h1 h2 => by omega)
  · exact Made.keep hD (fun g hg hl => ⟨hg, set5_keep (by omega)⟩)
  · exact Made.keep (Made.of_row (ok := fun g => M ≤ g) hO (by simp [Tm.encs_eq, hkl]) hC (fun g hg => (hO.lt g hg).1)) (fun g hg hl => ⟨hg, set5_keep (by omega)⟩)
set_option maxHeartbeats 4000000 in
set_option maxRecDepth 100000 in
theorem refterm_step (s : ByteArray) (hs : s.size ≤ 1000000) (F : Nat) (ih : RefTermAt s F) : RefTermAt s (F + 1) := by
  intro b a w ha hF hst
  have hbw := Blk.lt hst
  have H0 : TS w (w.alloc (.cells #[.int .u8 0, .string ⟨#[]⟩, .bool false, .slice none 0 0, .slice none 0 0] 28)) b s a false := ⟨grown_alloc (grown_refl _ _) _, Blk.alloc hst _, Blk.new _ _ _⟩
  have H0 := Lib.hid H0
  have HIH := Lib.hid ih
  clear ih hst
  go_enter Tryd.func30, Tryd.ntmps30
  go_wp2_with fail
  refine number_rs (refnumber_calls b s 255 a false 32 _ H0.out.st (by omega) (by omega) (by omega)) ?_
  intro w1 n1 a1 bad1 c1 hn1 hlt1 hle1 hg1 hst1
  have H1 := Lib.hid (H0.out.next hbw hg1 hst1)
  have C1 := Lib.hid c1
  have hk1 : IntKind.u8.wrap (n1 : Int) = ((n1 % 256 : Nat) : Int) := by rw [IntKind.wrap_u8]; omega
  obtain ⟨⟨p0, p1, p2⟩, q0, q1, q2⟩ := Blk.c3 H1.out.st
  have hb1 := Blk.lt H1.out.st
  clear hg1 hst1 c1 H0
  dsimp only
  go_wp2_with fail
  have H1a := Lib.hid (H1.out.alloc (.cells #[.int .u8 ((n1 : Int) % 256), .string ⟨#[]⟩, .bool false, .slice none 0 0, .slice none 0 0] 28))
  have X1 := Lib.hid (Blk.new w1 #[.int .u8 ((n1 : Int) % 256), .string ⟨#[]⟩, .bool false, .slice none 0 0, .slice none 0 0] 28)
  refine number_rs (refnumber_calls b s s.size a1 bad1 58 _ H1a.out.st (by omega) (by omega) (by omega)) ?_
  intro w2 n2 a2 bad2 c2 hn2 hlt2 hle2 hg2 hst2
  have H2 := Lib.hid (H1a.out.next hbw hg2 hst2)
  have C2 := Lib.hid c2
  have hz1 := H1.out.zero.lt
  have X2 := Lib.hid (X1.out.grown hg2 (by intro e; injection e with e; omega))
  obtain ⟨⟨p0, p1, p2⟩, q0, q1, q2⟩ := Blk.c3 H2.out.st
  have hb2 := Blk.lt H2.out.st
  clear hg2 hst2 c2 H1 H1a X1
  obtain ⟨⟨x0, x1, x2, x3, x4⟩, y0, y1, y2, y3, y4⟩ := Blk.c5 X2.out
  obtain ⟨⟨o0, o1, o2, o3, o4⟩, r0, r1, r2, r3, r4⟩ := Blk.c5 H2.out.zero
  have hx2 := X2.out.lt
  have ho2 := H2.out.zero.lt
  dsimp only
  have HQ := Lib.hid (fun h => tmF_short (F := F) C1.out C2.out h)
  cases bad2 with
  | true =>
    go_wp2_with fail
    refine still_whole (by kernel_rfl) (by kernel_rfl) (fun lq Qq HLq HQq => ?_)
    refine StillAt.take' (i := 0) (v := ?_) (a' := ?_) HLq rfl (by rfl) ?_ ?_ ?_
    rotate_left 2
    · go_simp
      all_goals (with_reducible rfl)
    · simp only [Act.put, List.setIfInBounds_toArray, List.set_cons_zero, List.set_cons_succ]
      rfl
    refine StillAt.take' (i := 1) (v := ?_) (a' := ?_) HLq rfl (by rfl) ?_ ?_ ?_
    rotate_left 2
    · go_simp
      all_goals (with_reducible rfl)
    · simp only [Act.put, List.setIfInBounds_toArray, List.set_cons_zero, List.set_cons_succ]
      rfl
    refine StillAt.take' (i := 2) (v := ?_) (a' := ?_) HLq rfl (by rfl) ?_ ?_ ?_
    rotate_left 2
    · go_simp
      all_goals (with_reducible rfl)
    · simp only [Act.put, List.setIfInBounds_toArray, List.set_cons_zero, List.set_cons_succ]
      rfl
    refine StillAt.take' (i := 3) (v := ?_) (a' := ?_) HLq rfl (by rfl) ?_ ?_ ?_
    rotate_left 2
    · go_simp
      all_goals (with_reducible rfl)
    · simp only [Act.put, List.setIfInBounds_toArray, List.set_cons_zero, List.set_cons_succ]
      rfl
    refine StillAt.take' (i := 4) (v := ?_) (a' := ?_) HLq rfl (by rfl) ?_ ?_ ?_
    rotate_left 2
    · go_simp
      all_goals (with_reducible rfl)
    · simp only [Act.put, List.setIfInBounds_toArray, List.set_cons_zero, List.set_cons_succ]
      rfl
    refine StillAt.skip' (i := 5) (a' := ?_) HLq rfl (by rfl) ?_ ?_
    rotate_left 1
    · simp only [Act.put, List.setIfInBounds_toArray, List.set_cons_zero, List.set_cons_succ]
      rfl
    refine StillAt.skip' (i := 6) (a' := ?_) HLq rfl (by rfl) ?_ ?_
    rotate_left 1
    · simp only [Act.put, List.setIfInBounds_toArray, List.set_cons_zero, List.set_cons_succ]
      rfl
    refine StillAt.skip' (i := 7) (a' := ?_) HLq rfl (by rfl) ?_ ?_
    rotate_left 1
    · simp only [Act.put, List.setIfInBounds_toArray, List.set_cons_zero, List.set_cons_succ]
      rfl
    refine StillAt.skip' (i := 8) (a' := ?_) HLq rfl (by rfl) ?_ ?_
    rotate_left 1
    · simp only [Act.put, List.setIfInBounds_toArray, List.set_cons_zero, List.set_cons_succ]
      rfl
    refine StillAt.skip' (i := 9) (a' := ?_) HLq rfl (by rfl) ?_ ?_
    rotate_left 1
    · simp only [Act.put, List.setIfInBounds_toArray, List.set_cons_zero, List.set_cons_succ]
      rfl
    refine StillAt.skip' (i := 10) (a' := ?_) HLq rfl (by rfl) ?_ ?_
    rotate_left 1
    · simp only [Act.put, List.setIfInBounds_toArray, List.set_cons_zero, List.set_cons_succ]
      rfl
    refine StillAt.skip' (i := 11) (a' := ?_) HLq rfl (by rfl) ?_ ?_
    rotate_left 1
    · simp only [Act.put, List.setIfInBounds_toArray, List.set_cons_zero, List.set_cons_succ]
      rfl
    refine StillAt.skip' (i := 12) (a' := ?_) HLq rfl (by rfl) ?_ ?_
    rotate_left 1
    · simp only [Act.put, List.setIfInBounds_toArray, List.set_cons_zero, List.set_cons_succ]
      rfl
    refine StillAt.skip' (i := 13) (a' := ?_) HLq rfl (by rfl) ?_ ?_
    rotate_left 1
    · simp only [Act.put, List.setIfInBounds_toArray, List.set_cons_zero, List.set_cons_succ]
      rfl
    refine StillAt.skip' (i := 14) (a' := ?_) HLq rfl (by rfl) ?_ ?_
    rotate_left 1
    · simp only [Act.put, List.setIfInBounds_toArray, List.set_cons_zero, List.set_cons_succ]
      rfl
    refine StillAt.skip' (i := 15) (a' := ?_) HLq rfl (by rfl) ?_ ?_
    rotate_left 1
    · simp only [Act.put, List.setIfInBounds_toArray, List.set_cons_zero, List.set_cons_succ]
      rfl
    refine StillAt.skip' (i := 16) (a' := ?_) HLq rfl (by rfl) ?_ ?_
    rotate_left 1
    · simp only [Act.put, List.setIfInBounds_toArray, List.set_cons_zero, List.set_cons_succ]
      rfl
    refine StillAt.take' (i := 17) (v := ?_) (a' := ?_) HLq rfl (by rfl) ?_ ?_ ?_
    rotate_left 2
    · go_simp
      all_goals (with_reducible rfl)
    · simp only [Act.put, List.setIfInBounds_toArray, List.set_cons_zero, List.set_cons_succ]
      rfl
    refine StillAt.done' HLq rfl ?_
    refine HQq.out _ ?_
    clear HQq HLq Qq lq
    go_wp2_with fail
    have g1 := grown_set H2.out.hg (p := ⟨b, 2, none⟩) (.inl rfl) (.bool true)
    refine bodyPost_ret (v := .agg #[.int .u8 ((n1 : Int) % 256), .string ⟨#[]⟩, .bool false, .slice none 0 0, .slice none 0 0]) (by simp [results, Tryd.results30, go_sem, o0, o1, o2, o3, o4, r0, r1, r2, r3, r4, ho2]) rfl (RefTermPost.mk' (HQ.out (.inl (by simp))) (us := [.int .u8 ((n1 : Int) % 256), .string ⟨#[]⟩, .bool false, .slice none 0 0, .slice none 0 0]) ?_ ?_ ?_)
    · exact grown_drew (set5_grown g1 (Nat.le_refl _) _ _ _ _ _)
    · exact RSt.own (w := w) (RSt.flag (bad := true) (x := true) H2.out.st) (by omega) _ _ _ _ _
    · exact MadeRow.num _ _ (MadeRow.txt _ (MadeRow.tru _ (MadeRow.cons (ok1 := fun _ => False) (ok2 := fun _ => False) (Made.nil _ _ _ _) (MadeRow.one (Made.nil _ _ _ _)) (fun _ h => h.elim) (fun _ h => h.elim) (fun _ h _ => h))))
  | false =>
    have hrm := rsF_room C2.out
    have e1 : IntKind.i64.wrap ((s.size : Int) - a2) = (s.size : Int) - a2 := wrap_id _ (by omega) (by omega)
    by_cases hsh : s.size < a2 + n2
    · have e2 : decide ((s.size : Int) - a2 < n2) = true := decide_eq_true (by omega)
      go_wp2_with fail
      refine still_whole (by kernel_rfl) (by kernel_rfl) (fun lq Qq HLq HQq => ?_)
      refine StillAt.take' (i := 0) (v := ?_) (a' := ?_) HLq rfl (by rfl) ?_ ?_ ?_
      rotate_left 2
      · go_simp
        all_goals (with_reducible rfl)
      · simp only [Act.put, List.setIfInBounds_toArray, List.set_cons_zero, List.set_cons_succ]
        rfl
      refine StillAt.take' (i := 1) (v := ?_) (a' := ?_) HLq rfl (by rfl) ?_ ?_ ?_
      rotate_left 2
      · go_simp
        all_goals (with_reducible rfl)
      · simp only [Act.put, List.setIfInBounds_toArray, List.set_cons_zero, List.set_cons_succ]
        rfl
      refine StillAt.take' (i := 2) (v := ?_) (a' := ?_) HLq rfl (by rfl) ?_ ?_ ?_
      rotate_left 2
      · go_simp
        all_goals (with_reducible rfl)
      · simp only [Act.put, List.setIfInBounds_toArray, List.set_cons_zero, List.set_cons_succ]
        rfl
      refine StillAt.take' (i := 3) (v := ?_) (a' := ?_) HLq rfl (by rfl) ?_ ?_ ?_
      rotate_left 2
      · go_simp
        all_goals (with_reducible rfl)
      · simp only [Act.put, List.setIfInBounds_toArray, List.set_cons_zero, List.set_cons_succ]
        rfl
      refine StillAt.take' (i := 4) (v := ?_) (a' := ?_) HLq rfl (by rfl) ?_ ?_ ?_
      rotate_left 2
      · go_simp
        all_goals (with_reducible rfl)
      · simp only [Act.put, List.setIfInBounds_toArray, List.set_cons_zero, List.set_cons_succ]
        rfl
      refine StillAt.take' (i := 5) (v := ?_) (a' := ?_) HLq rfl (by rfl) ?_ ?_ ?_
      rotate_left 2
      · go_simp
        all_goals (with_reducible rfl)
      · simp only [Act.put, List.setIfInBounds_toArray, List.set_cons_zero, List.set_cons_succ]
        rfl
      refine StillAt.take' (i := 6) (v := ?_) (a' := ?_) HLq rfl (by rfl) ?_ ?_ ?_
      rotate_left 2
      · go_simp
        all_goals (with_reducible rfl)
      · simp only [Act.put, List.setIfInBounds_toArray, List.set_cons_zero, List.set_cons_succ]
        rfl
      refine StillAt.take' (i := 7) (v := ?_) (a' := ?_) HLq rfl (by rfl) ?_ ?_ ?_
      rotate_left 2
      · go_simp
        all_goals (with_reducible rfl)
      · simp only [Act.put, List.setIfInBounds_toArray, List.set_cons_zero, List.set_cons_succ]
        rfl
      refine StillAt.take' (i := 8) (v := ?_) (a' := ?_) HLq rfl (by rfl) ?_ ?_ ?_
      rotate_left 2
      · go_simp
        all_goals (with_reducible rfl)
      · simp only [Act.put, List.setIfInBounds_toArray, List.set_cons_zero, List.set_cons_succ]
        rfl
      refine StillAt.take' (i := 9) (v := ?_) (a' := ?_) HLq rfl (by rfl) ?_ ?_ ?_
      rotate_left 2
      · go_simp
        all_goals (with_reducible rfl)
      · simp only [Act.put, List.setIfInBounds_toArray, List.set_cons_zero, List.set_cons_succ]
        rfl
      refine StillAt.take' (i := 10) (v := ?_) (a' := ?_) HLq rfl (by rfl) ?_ ?_ ?_
      rotate_left 2
      · go_simp
        all_goals (with_reducible rfl)
      · simp only [Act.put, List.setIfInBounds_toArray, List.set_cons_zero, List.set_cons_succ]
        rfl
      refine StillAt.take' (i := 11) (v := ?_) (a' := ?_) HLq rfl (by rfl) ?_ ?_ ?_
      rotate_left 2
      · go_simp
        all_goals (with_reducible rfl)
      · simp only [Act.put, List.setIfInBounds_toArray, List.set_cons_zero, List.set_cons_succ]
        rfl
      refine StillAt.take' (i := 12) (v := ?_) (a' := ?_) HLq rfl (by rfl) ?_ ?_ ?_
      rotate_left 2
      · go_simp
        all_goals (with_reducible rfl)
      · simp only [Act.put, List.setIfInBounds_toArray, List.set_cons_zero, List.set_cons_succ]
        rfl
      refine StillAt.take' (i := 13) (v := ?_) (a' := ?_) HLq rfl (by rfl) ?_ ?_ ?_
      rotate_left 2
      · go_simp
        all_goals (with_reducible rfl)
      · simp only [Act.put, List.setIfInBounds_toArray, List.set_cons_zero, List.set_cons_succ]
        rfl
      refine StillAt.take' (i := 14) (v := ?_) (a' := ?_) HLq rfl (by rfl) ?_ ?_ ?_
      rotate_left 2
      · go_simp
        all_goals (with_reducible rfl)
      · simp only [Act.put, List.setIfInBounds_toArray, List.set_cons_zero, List.set_cons_succ]
        rfl
      refine StillAt.take' (i := 15) (v := ?_) (a' := ?_) HLq rfl (by rfl) ?_ ?_ ?_
      rotate_left 2
      · go_simp
        all_goals (with_reducible rfl)
      · simp only [Act.put, List.setIfInBounds_toArray, List.set_cons_zero, List.set_cons_succ]
        rfl
      refine StillAt.take' (i := 16) (v := ?_) (a' := ?_) HLq rfl (by rfl) ?_ ?_ ?_
      rotate_left 2
      · go_simp
        all_goals (with_reducible rfl)
      · simp only [Act.put, List.setIfInBounds_toArray, List.set_cons_zero, List.set_cons_succ]
        rfl
      refine StillAt.take' (i := 17) (v := ?_) (a' := ?_) HLq rfl (by rfl) ?_ ?_ ?_
      rotate_left 2
      · go_simp
        all_goals (with_reducible rfl)
      · simp only [Act.put, List.setIfInBounds_toArray, List.set_cons_zero, List.set_cons_succ]
        rfl
      refine StillAt.done' HLq rfl ?_
      refine HQq.out _ ?_
      clear HQq HLq Qq lq
      go_wp2_with fail
      have g1 := grown_set H2.out.hg (p := ⟨b, 2, none⟩) (.inl rfl) (.bool true)
      refine bodyPost_ret (v := .agg #[.int .u8 ((n1 : Int) % 256), .string ⟨#[]⟩, .bool false, .slice none 0 0, .slice none 0 0]) (by simp [results, Tryd.results30, go_sem, o0, o1, o2, o3, o4, r0, r1, r2, r3, r4, ho2]) rfl (RefTermPost.mk' (HQ.out (.inr hsh)) (us := [.int .u8 ((n1 : Int) % 256), .string ⟨#[]⟩, .bool false, .slice none 0 0, .slice none 0 0]) ?_ ?_ ?_)
      · exact grown_drew (set5_grown g1 (Nat.le_refl _) _ _ _ _ _)
      · exact RSt.own (w := w) (RSt.flag (bad := false) (x := true) H2.out.st) (by omega) _ _ _ _ _
      · exact MadeRow.num _ _ (MadeRow.txt _ (MadeRow.tru _ (MadeRow.cons (ok1 := fun _ => False) (ok2 := fun _ => False) (Made.nil _ _ _ _) (MadeRow.one (Made.nil _ _ _ _)) (fun _ h => h.elim) (fun _ h => h.elim) (fun _ h _ => h))))
    · have e2 : decide ((s.size : Int) - a2 < n2) = false := decide_eq_false (by omega)
      have e3 : IntKind.i64.wrap ((a2 : Int) + n2) = (a2 : Int) + n2 := wrap_id _ (by omega) (by omega)
      have e4 : (0 : Int) ≤ (a2 : Int) + n2 := by omega
      have e5 : (a2 : Int) + n2 ≤ s.size := by omega
      have e6 : (a2 : Int) ≤ (a2 : Int) + n2 := by omega
      have e7 : ((a2 : Int) + n2).toNat = a2 + n2 := by omega
      go_wp2_with fail
      refine still_whole (by kernel_rfl) (by kernel_rfl) (fun lq Qq HLq HQq => ?_)
      refine StillAt.take' (i := 0) (v := ?_) (a' := ?_) HLq rfl (by rfl) ?_ ?_ ?_
      rotate_left 2
      · go_simp
        all_goals (with_reducible rfl)
      · simp only [Act.put, List.setIfInBounds_toArray, List.set_cons_zero, List.set_cons_succ]
        rfl
      refine StillAt.take' (i := 1) (v := ?_) (a' := ?_) HLq rfl (by rfl) ?_ ?_ ?_
      rotate_left 2
      · go_simp
        all_goals (with_reducible rfl)
      · simp only [Act.put, List.setIfInBounds_toArray, List.set_cons_zero, List.set_cons_succ]
        rfl
      refine StillAt.take' (i := 2) (v := ?_) (a' := ?_) HLq rfl (by rfl) ?_ ?_ ?_
      rotate_left 2
      · go_simp
        all_goals (with_reducible rfl)
      · simp only [Act.put, List.setIfInBounds_toArray, List.set_cons_zero, List.set_cons_succ]
        rfl
      refine StillAt.take' (i := 3) (v := ?_) (a' := ?_) HLq rfl (by rfl) ?_ ?_ ?_
      rotate_left 2
      · go_simp
        all_goals (with_reducible rfl)
      · simp only [Act.put, List.setIfInBounds_toArray, List.set_cons_zero, List.set_cons_succ]
        rfl
      refine StillAt.take' (i := 4) (v := ?_) (a' := ?_) HLq rfl (by rfl) ?_ ?_ ?_
      rotate_left 2
      · go_simp
        all_goals (with_reducible rfl)
      · simp only [Act.put, List.setIfInBounds_toArray, List.set_cons_zero, List.set_cons_succ]
        rfl
      refine StillAt.take' (i := 5) (v := ?_) (a' := ?_) HLq rfl (by rfl) ?_ ?_ ?_
      rotate_left 2
      · go_simp
        all_goals (with_reducible rfl)
      · simp only [Act.put, List.setIfInBounds_toArray, List.set_cons_zero, List.set_cons_succ]
        rfl
      refine StillAt.take' (i := 6) (v := ?_) (a' := ?_) HLq rfl (by rfl) ?_ ?_ ?_
      rotate_left 2
      · go_simp
        all_goals (with_reducible rfl)
      · simp only [Act.put, List.setIfInBounds_toArray, List.set_cons_zero, List.set_cons_succ]
        rfl
      refine StillAt.take' (i := 7) (v := ?_) (a' := ?_) HLq rfl (by rfl) ?_ ?_ ?_
      rotate_left 2
      · go_simp
        all_goals (with_reducible rfl)
      · simp only [Act.put, List.setIfInBounds_toArray, List.set_cons_zero, List.set_cons_succ]
        rfl
      refine StillAt.take' (i := 8) (v := ?_) (a' := ?_) HLq rfl (by rfl) ?_ ?_ ?_
      rotate_left 2
      · go_simp
        all_goals (with_reducible rfl)
      · simp only [Act.put, List.setIfInBounds_toArray, List.set_cons_zero, List.set_cons_succ]
        rfl
      refine StillAt.take' (i := 9) (v := ?_) (a' := ?_) HLq rfl (by rfl) ?_ ?_ ?_
      rotate_left 2
      · go_simp
        all_goals (with_reducible rfl)
      · simp only [Act.put, List.setIfInBounds_toArray, List.set_cons_zero, List.set_cons_succ]
        rfl
      refine StillAt.take' (i := 10) (v := ?_) (a' := ?_) HLq rfl (by rfl) ?_ ?_ ?_
      rotate_left 2
      · go_simp
        all_goals (with_reducible rfl)
      · simp only [Act.put, List.setIfInBounds_toArray, List.set_cons_zero, List.set_cons_succ]
        rfl
      refine StillAt.take' (i := 11) (v := ?_) (a' := ?_) HLq rfl (by rfl) ?_ ?_ ?_
      rotate_left 2
      · go_simp
        all_goals (with_reducible rfl)
      · simp only [Act.put, List.setIfInBounds_toArray, List.set_cons_zero, List.set_cons_succ]
        rfl
      refine StillAt.take' (i := 12) (v := ?_) (a' := ?_) HLq rfl (by rfl) ?_ ?_ ?_
      rotate_left 2
      · go_simp
        all_goals (with_reducible rfl)
      · simp only [Act.put, List.setIfInBounds_toArray, List.set_cons_zero, List.set_cons_succ]
        rfl
      refine StillAt.take' (i := 13) (v := ?_) (a' := ?_) HLq rfl (by rfl) ?_ ?_ ?_
      rotate_left 2
      · go_simp
        all_goals (with_reducible rfl)
      · simp only [Act.put, List.setIfInBounds_toArray, List.set_cons_zero, List.set_cons_succ]
        rfl
      refine StillAt.take' (i := 14) (v := ?_) (a' := ?_) HLq rfl (by rfl) ?_ ?_ ?_
      rotate_left 2
      · go_simp
        all_goals (with_reducible rfl)
      · simp only [Act.put, List.setIfInBounds_toArray, List.set_cons_zero, List.set_cons_succ]
        rfl
      refine StillAt.take' (i := 15) (v := ?_) (a' := ?_) HLq rfl (by rfl) ?_ ?_ ?_
      rotate_left 2
      · go_simp
        all_goals (with_reducible rfl)
      · simp only [Act.put, List.setIfInBounds_toArray, List.set_cons_zero, List.set_cons_succ]
        rfl
      refine StillAt.take' (i := 16) (v := ?_) (a' := ?_) HLq rfl (by rfl) ?_ ?_ ?_
      rotate_left 2
      · go_simp
        all_goals (with_reducible rfl)
      · simp only [Act.put, List.setIfInBounds_toArray, List.set_cons_zero, List.set_cons_succ]
        rfl
      refine StillAt.take' (i := 17) (v := ?_) (a' := ?_) HLq rfl (by rfl) ?_ ?_ ?_
      rotate_left 2
      · go_simp
        all_goals (with_reducible rfl)
      · simp only [Act.put, List.setIfInBounds_toArray, List.set_cons_zero, List.set_cons_succ]
        rfl
      refine StillAt.done' HLq rfl ?_
      refine HQq.out _ ?_
      clear HQq HLq Qq lq
      go_wp2_with fail
      refine still_begin 15 (by kernel_rfl) (by kernel_rfl) (fun lq Qq HLq HQq => ?_)
      refine StillAt.take' (i := 0) (v := ?_) (a' := ?_) HLq rfl (by rfl) ?_ ?_ ?_
      rotate_left 2
      · go_simp
        all_goals (with_reducible rfl)
      · simp only [Act.put, List.setIfInBounds_toArray, List.set_cons_zero, List.set_cons_succ]
        rfl
      refine StillAt.take' (i := 1) (v := ?_) (a' := ?_) HLq rfl (by rfl) ?_ ?_ ?_
      rotate_left 2
      · go_simp
        all_goals (with_reducible rfl)
      · simp only [Act.put, List.setIfInBounds_toArray, List.set_cons_zero, List.set_cons_succ]
        rfl
      refine StillAt.take' (i := 2) (v := ?_) (a' := ?_) HLq rfl (by rfl) ?_ ?_ ?_
      rotate_left 2
      · go_simp
        all_goals (with_reducible rfl)
      · simp only [Act.put, List.setIfInBounds_toArray, List.set_cons_zero, List.set_cons_succ]
        rfl
      refine StillAt.take' (i := 3) (v := ?_) (a' := ?_) HLq rfl (by rfl) ?_ ?_ ?_
      rotate_left 2
      · go_simp
        all_goals (with_reducible rfl)
      · simp only [Act.put, List.setIfInBounds_toArray, List.set_cons_zero, List.set_cons_succ]
        rfl
      refine StillAt.take' (i := 4) (v := ?_) (a' := ?_) HLq rfl (by rfl) ?_ ?_ ?_
      rotate_left 2
      · go_simp
        all_goals (with_reducible rfl)
      · simp only [Act.put, List.setIfInBounds_toArray, List.set_cons_zero, List.set_cons_succ]
        rfl
      refine StillAt.take' (i := 5) (v := ?_) (a' := ?_) HLq rfl (by rfl) ?_ ?_ ?_
      rotate_left 2
      · go_simp
        all_goals (with_reducible rfl)
      · simp only [Act.put, List.setIfInBounds_toArray, List.set_cons_zero, List.set_cons_succ]
        rfl
      refine StillAt.take' (i := 6) (v := ?_) (a' := ?_) HLq rfl (by rfl) ?_ ?_ ?_
      rotate_left 2
      · go_simp
        all_goals (with_reducible rfl)
      · simp only [Act.put, List.setIfInBounds_toArray, List.set_cons_zero, List.set_cons_succ]
        rfl
      refine StillAt.take' (i := 7) (v := ?_) (a' := ?_) HLq rfl (by rfl) ?_ ?_ ?_
      rotate_left 2
      · go_simp
        all_goals (with_reducible rfl)
      · simp only [Act.put, List.setIfInBounds_toArray, List.set_cons_zero, List.set_cons_succ]
        rfl
      refine StillAt.take' (i := 8) (v := ?_) (a' := ?_) HLq rfl (by rfl) ?_ ?_ ?_
      rotate_left 2
      · go_simp
        all_goals (with_reducible rfl)
      · simp only [Act.put, List.setIfInBounds_toArray, List.set_cons_zero, List.set_cons_succ]
        rfl
      refine StillAt.take' (i := 9) (v := ?_) (a' := ?_) HLq rfl (by rfl) ?_ ?_ ?_
      rotate_left 2
      · go_simp
        all_goals (with_reducible rfl)
      · simp only [Act.put, List.setIfInBounds_toArray, List.set_cons_zero, List.set_cons_succ]
        rfl
      refine StillAt.take' (i := 10) (v := ?_) (a' := ?_) HLq rfl (by rfl) ?_ ?_ ?_
      rotate_left 2
      · go_simp
        all_goals (with_reducible rfl)
      · simp only [Act.put, List.setIfInBounds_toArray, List.set_cons_zero, List.set_cons_succ]
        rfl
      refine StillAt.take' (i := 11) (v := ?_) (a' := ?_) HLq rfl (by rfl) ?_ ?_ ?_
      rotate_left 2
      · go_simp
        all_goals (with_reducible rfl)
      · simp only [Act.put, List.setIfInBounds_toArray, List.set_cons_zero, List.set_cons_succ]
        rfl
      refine StillAt.take' (i := 12) (v := ?_) (a' := ?_) HLq rfl (by rfl) ?_ ?_ ?_
      rotate_left 2
      · go_simp
        all_goals (with_reducible rfl)
      · simp only [Act.put, List.setIfInBounds_toArray, List.set_cons_zero, List.set_cons_succ]
        rfl
      refine StillAt.take' (i := 13) (v := ?_) (a' := ?_) HLq rfl (by rfl) ?_ ?_ ?_
      rotate_left 2
      · go_simp
        all_goals (with_reducible rfl)
      · simp only [Act.put, List.setIfInBounds_toArray, List.set_cons_zero, List.set_cons_succ]
        rfl
      refine StillAt.take' (i := 14) (v := ?_) (a' := ?_) HLq rfl (by rfl) ?_ ?_ ?_
      rotate_left 2
      · go_simp
        all_goals (with_reducible rfl)
      · simp only [Act.put, List.setIfInBounds_toArray, List.set_cons_zero, List.set_cons_succ]
        rfl
      refine StillAt.done' HLq rfl ?_
      refine HQq.out _ ?_
      clear HQq HLq Qq lq
      simp only [List.drop_succ_cons, List.drop_zero]
      go_wp2_with fail
      have hbN : b ≠ w1.heap.size := by omega
      have H3 := Lib.hid (((H2.out.setT (T := w1.heap.size) (by omega) hbw 1 (.string (s.extract a2 (a2 + n2)))).setAt hbw (a2 + n2)).drew.drew)
      have X3 := Lib.hid (show Blk ((((w2.setCell ⟨w1.heap.size, 1, none⟩ (.string (s.extract a2 (a2 + n2)))).setCell ⟨b, 1, none⟩ (.int .i64 ((a2 + n2 : Nat) : Int))).drew).drew) w1.heap.size #[.int .u8 ((n1 : Int) % 256), .string (s.extract a2 (a2 + n2)), .bool false, .slice none 0 0, .slice none 0 0] 28 from by
        have := ((X2.out.set 1 (.string (s.extract a2 (a2 + n2)))).other (p := ⟨b, 1, none⟩) (fun e => hbN e.symm) (.int .i64 ((a2 + n2 : Nat) : Int))).drew.drew
        simpa using this)
      clear HQ H2 X2 p0 p1 p2 q0 q1 q2 x0 x1 x2 x3 x4 y0 y1 y2 y3 y4 o0 o1 o2 o3 o4 r0 r1 r2 r3 r4 e1 e2 e3 e4 e5 e6 e7
      refine (refsign_calls b s (a2 + n2) false 32 _ H3.out.st (by omega) (by omega)).mono ?_
      rintro e w3 ⟨rfl, hg3, hst3⟩
      obtain ⟨b3, hb3⟩ : ∃ b3, b3 = sgnBad s (a2 + n2) 32 := ⟨_, rfl⟩
      rw [Bool.false_or, ← hb3] at hst3
      have hb3' : b3 = false → a2 + n2 < s.size := fun h => sgnBad_lt (hb3 ▸ h)
      have HB3 := Lib.hid hb3
      have H4 := Lib.hid (H3.out.next hbw hg3 hst3)
      have X4 := Lib.hid (X3.out.grown hg3 (by intro e; injection e with e; omega))
      obtain ⟨nm, hnm⟩ : ∃ nm, nm = s.extract a2 (a2 + n2) := ⟨_, rfl⟩
      rw [← hnm] at X4
      have HNM := Lib.hid hnm
      clear hg3 hst3 hb3 hnm H3 X3
      dsimp only
      go_wp2_with fail
      refine (refnext_calls b s (a2 + n2 + 1) b3 45 _ H4.out.st).mono ?_
      rintro e w4 ⟨rfl, rfl⟩
      obtain ⟨⟨p0, p1, p2⟩, q0, q1, q2⟩ := Blk.c3 H4.out.st
      obtain ⟨⟨x0, x1, x2, x3, x4⟩, y0, y1, y2, y3, y4⟩ := Blk.c5 X4.out
      have hb4 := Blk.lt H4.out.st
      have hx4 := X4.out.lt
      have e1 : IntKind.i64.wrap ((a2 : Int) + n2 + 1 + 1) = ((a2 : Int) + n2 + 1 + 1) := wrap_id _ (by omega) (by omega)
      dsimp only
      have hpre : ∃ (ng : Bool) (a4 : Nat) (W : World), Hid (nxtIs s (a2 + n2 + 1) 45 = ng) ∧ Hid (a4 = if ng then a2 + n2 + 2 else a2 + n2 + 1) ∧ a2 + n2 + 1 ≤ a4 ∧ a4 ≤ s.size + 1 ∧ (b3 = false → a4 ≤ s.size) ∧ Hid (TS w W b s a4 b3) ∧ Hid (Blk W w1.heap.size #[.int .u8 ((n1 : Int) % 256), .string nm, .bool ng, .slice none 0 0, .slice none 0 0] 28) ∧
          W = if ng then ((w3.setCell ⟨w1.heap.size, 2, none⟩ (.bool true)).setCell ⟨b, 1, none⟩ (.int .i64 ((a2 : Int) + n2 + 1 + 1))).drew else w3.drew := by
        cases hng : nxtIs s (a2 + n2 + 1) 45 with
        | true =>
          have hlt := nxtIs_lt hng
          refine ⟨true, a2 + n2 + 2, _, Lib.hid rfl, Lib.hid rfl, by omega, by omega, fun _ => by omega, ?_, ?_, rfl⟩
          · exact Lib.hid ((H4.out.setT (T := w1.heap.size) (by omega) hbw 2 (.bool true)).setAt hbw (a2 + n2 + 2)).drew
          · have := ((X4.out.set 2 (.bool true)).other (p := ⟨b, 1, none⟩) (fun e => hbN e.symm) (.int .i64 ((a2 : Int) + n2 + 1 + 1))).drew
            exact Lib.hid (by simpa using this)
        | false => exact ⟨false, a2 + n2 + 1, _, Lib.hid rfl, Lib.hid rfl, by omega, by omega, fun h => by have := hb3' h; omega, Lib.hid H4.out.drew, Lib.hid X4.out.drew, rfl⟩
      obtain ⟨ng, a4, W5, HNG, HA4, ha4, ha4', ha4b, H5, X5, hW5⟩ := hpre
      have hngq := HNG.out
      rw [hngq]
      clear hngq
      obtain ⟨gv, hgv⟩ : ∃ gv, gv = ng := ⟨_, rfl⟩
      rw [← hgv] at X5 HNG HA4
      cases ng
      all_goals
        simp only [if_true, if_false, Bool.false_eq_true] at hW5
        go_wp2_with fail
        rw [← hW5]
        clear hW5 hgv H4 X4 p0 p1 p2 q0 q1 q2 x0 x1 x2 x3 x4 y0 y1 y2 y3 y4 hb4 hx4 e1
        have hab0 : a ≤ a4 := by omega
        go_loopw [] (fun wr => ∃ (ds : List Int) (A : Option Addr) (c F1 a5 : Nat) (bad : Bool), Hid (TS w wr b s a5 bad) ∧ Hid (Blk wr w1.heap.size #[.int .u8 ((n1 : Int) % 256), .string nm, .bool gv, .slice A ds.length c, .slice none 0 0] 28) ∧ Hid (wr.ownsRow (w1.heap.size + 1) 53 1 (.slice A ds.length c) ds.length (ds.map (Value.int .u32))) ∧ a4 ≤ a5 ∧ a5 ≤ s.size + 2 ∧ (bad = false → a5 ≤ s.size) ∧ ds.length ≤ a5 ∧ s.size + 2 ≤ F1 + a5 ∧ Hid (dgF s (s.size + 2) [] a4 b3 = dgF s F1 ds a5 bad)) (fun wr => match wr.cell? ⟨b, 1, none⟩ with | some (.int _ x) => s.size + 3 - x.toNat | _ => 0)
        case atStart => exact ⟨[], none, 0, s.size + 2, a4, b3, H5, X5, World.ownsRow_nil _ _ _ _, Nat.le_refl _, by omega, ha4b, Nat.zero_le _, by omega, Lib.hid rfl⟩
        case round =>
          obtain ⟨ds, A, c, F1, a5, bad, HR, HX, HO, ha5, ha5', hab, hdl, hF1, HDG⟩ := hrel
          rename World => wl
          obtain ⟨⟨p0, p1, p2⟩, q0, q1, q2⟩ := Blk.c3 HR.out.st
          obtain ⟨⟨x0, x1, x2, x3, x4⟩, y0, y1, y2, y3, y4⟩ := Blk.c5 HX.out
          have hbl := Blk.lt HR.out.st
          have hxl := HX.out.lt
          by_cases hend : bad = true ∨ nxtIs s a5 32 = true
          · have HDE := Lib.hid (HDG.out.trans (dgF_stop hend))
            clear HDG
            have hend2 : bad = true ∨ (bad = false ∧ nxtIs s a5 32 = true) := by cases bad <;> simp_all
            clear hend
            rcases hend2 with rfl | ⟨rfl, hnx⟩
            focus
              go_wp2_with fail
              have HRE := HR
              have HXE := HX
              have HOE := HO
            rotate_left
            focus
              go_wp2_with fail
              refine (refnext_calls b s a5 false 32 _ HR.out.st).mono ?_
              rintro e w7 ⟨rfl, rfl⟩
              rw [hnx]
              dsimp only
              go_wp2_with fail
              have HRE := Lib.hid HR.out.drew
              have HXE := Lib.hid HX.out.drew
              have HOE := Lib.hid (ownsRow_mono HO.out (w' := wl.drew) (fun g _ => rfl))
            all_goals
              clear HR HX HO p0 p1 p2 q0 q1 q2 x0 x1 x2 x3 x4 y0 y1 y2 y3 y4 hbl hxl
              refine (refsign_calls b s a5 _ 32 _ HRE.out.st (by omega) (by omega)).mono ?_
              rintro e w8 ⟨rfl, hg8, hst8⟩
              have H8 := Lib.hid (HRE.out.next hbw hg8 hst8)
              have X8 := Lib.hid (HXE.out.grown hg8 (by intro e; injection e with e; omega))
              have O8 := Lib.hid (World.ownsRow.kept HOE.out hg8 (own_ne HOE.out (by omega)))
              clear hg8 hst8 HRE HXE HOE
              obtain ⟨⟨p0, p1, p2⟩, q0, q1, q2⟩ := Blk.c3 H8.out.st
              have hbl := Blk.lt H8.out.st
              dsimp only
              go_wp2_with fail
              refine number_rs (refnumber_calls b s s.size (a5 + 1) _ 59 _ H8.out.st (by omega) (by omega) (by omega)) ?_
              intro w9 m a6 b6 c9 hm hlt9 hle9 hg9 hst9
              have hb6 : b6 = false → a6 ≤ s.size := fun h => (rsF_room (h ▸ c9)).1
              have C9 := Lib.hid c9
              have H9 := Lib.hid (H8.out.next hbw hg9 hst9)
              have X9 := Lib.hid (X8.out.grown hg9 (by intro e; injection e with e; omega))
              have O9 := Lib.hid (World.ownsRow.kept O8.out hg9 (own_ne O8.out (by omega)))
              have D9 := Lib.hid (show Made w9 (fun g => w1.heap.size + 1 ≤ g ∧ g < w9.heap.size) (.ints 53 .u32 ds) (.slice A ds.length c) from (Made.of_row (ok := fun g => w1.heap.size + 1 ≤ g) O9.out (by simp) (MadeCells.ints ds) (fun g hg => (O9.out.lt g hg).1)).keep (fun g hg hl => ⟨⟨hg, hl⟩, rfl⟩))
              clear hg9 hst9 c9 H8 X8 O8 O9 p0 p1 p2 q0 q1 q2 hbl
              have hx9 := X9.out.lt
              have HEND := Lib.hid (fun (ks : List Tm) (a7 : Nat) (b7 : Bool) (h : kdF (tmF s F) m [] a6 b6 = (ks, a7, b7)) => (show tmF s (F + 1) a false = (Tm.mk ((n1 : Int) % 256) nm gv ds ks, a7, b7) from by rw [HNM.out]; exact tmF_long C1.out C2.out (by omega) HNG.out (by rw [← HB3.out, ← HA4.out]; exact HDE.out) C9.out h))
              clear C1 C2 HNG HB3 HA4 HDE C9
              dsimp only
              go_wp2_with fail
              go_loopw [6] (fun i wr => ∃ (j : Nat) (ks : List Tm) (a7 : Nat) (b7 : Bool) (A2 : Option Addr) (c2 : Nat) (xs : List Value), j ≤ m ∧ i = .int .i64 j ∧ ks.length = j ∧ Hid (TS w wr b s a7 b7) ∧ Hid (Blk wr w1.heap.size #[.int .u8 ((n1 : Int) % 256), .string nm, .bool gv, .slice A ds.length c, .slice A2 j c2] 28) ∧ Hid (wr.ownsRow w9.heap.size 28 5 (.slice A2 j c2) j xs) ∧ Hid (MadeCells wr (fun g => w9.heap.size ≤ g ∧ (Value.slice A2 j c2).ownBlock ≠ some g) 5 (Tm.encs ks) xs) ∧ Hid (Made wr (fun g => w1.heap.size + 1 ≤ g ∧ g < w9.heap.size) (.ints 53 .u32 ds) (.slice A ds.length c)) ∧ a6 ≤ a7 ∧ (b7 = false → a7 ≤ s.size) ∧ Hid (kdF (tmF s F) m [] a6 b6 = kdF (tmF s F) (m - j) ks a7 b7) ∧ w9.heap.size ≤ wr.heap.size) (fun i _ => m - (RowKit.intOf i).toNat)
              case atStart => exact ⟨0, [], a6, b6, none, 0, [], Nat.zero_le _, rfl, rfl, H9, X9, World.ownsRow_nil _ _ _ _, MadeCells.nil _ _ _, D9, Nat.le_refl _, hb6, Lib.hid (by simp), Nat.le_refl _⟩
              case round =>
                obtain ⟨j, ks, a7, b7, A2, c2, xs, hj, rfl, hkl, HR, HX, HO, HC, HD, ha7, hb7, HKD, hwz⟩ := hrel
                rename World => wk
                obtain ⟨⟨p0, p1, p2⟩, q0, q1, q2⟩ := Blk.c3 HR.out.st
                obtain ⟨⟨x0, x1, x2, x3, x4⟩, y0, y1, y2, y3, y4⟩ := Blk.c5 HX.out
                have hbk := Blk.lt HR.out.st
                have hxk := HX.out.lt
                by_cases hgo : j < m ∧ b7 = false
                · obtain ⟨hlt, rfl⟩ := hgo
                  have ha7s := hb7 rfl
                  have k1 : (0 : Int) ≤ j := by omega
                  have k2 : (j : Int) < m := by omega
                  obtain ⟨mj, hmj⟩ : ∃ mj, m - j = mj + 1 := ⟨m - j - 1, by omega⟩
                  rcases htq : tmF s F a7 false with ⟨⟨kd2, nm2, ng2, xd2, ls2⟩, a8, b8⟩
                  have hroom : b8 = false → a8 ≤ s.size ∧ a7 ≤ a8 := fun h => by
                    have := tmF_parts (s := s) (by omega) F a7 ha7s (by omega) (by rw [htq]; exact h)
                    rw [htq] at this
                    exact ⟨this.1, this.2.1⟩
                  have ha78 : a7 ≤ a8 := by
                    have := tmF_ge (s := s) F a7 false
                    rw [htq] at this
                    exact this
                  have hkd := HKD.out
                  rw [hmj, kdF_go htq] at hkd
                  have HKD2 := Lib.hid hkd
                  have HTQ := Lib.hid htq
                  clear hkd HKD htq
                  go_wp2_with fail
                  refine (HIH.out b a7 _ ha7s (by omega) HR.out.st).mono ?_
                  rintro e w10 ⟨hg10, hst10, us, rfl, hu10⟩
                  rw [HTQ.out] at hst10 hu10
                  obtain ⟨eA, ec, mA, mc, rfl, _, _⟩ := Tm.open hu10.rd
                  have H10 := Lib.hid (HR.out.next hbw hg10 hst10)
                  have X10 := Lib.hid (HX.out.grown hg10 (by intro e; injection e with e; omega))
                  have O10 := Lib.hid (World.ownsRow.kept HO.out hg10 (own_ne HO.out (by omega)))
                  have HG10 := Lib.hid hg10
                  have HU10 := Lib.hid hu10
                  have z10 := hg10.size
                  clear hg10 hst10 hu10 p0 p1 p2 q0 q1 q2 x0 x1 x2 x3 x4 y0 y1 y2 y3 y4
                  obtain ⟨⟨x0, x1, x2, x3, x4⟩, y0, y1, y2, y3, y4⟩ := Blk.c5 X10.out
                  have hx10 := X10.out.lt
                  dsimp only
                  go_wp2_with (at_builtin; go_loud (refine list_append rfl (.tmp 124) (.tmp 126) rfl Tryd.underlying26 infoTerm rfl (by decide) (by decide) w9.heap.size (.slice A2 j c2) j xs rfl (ownsRow_mono O10.out (fun g hg => ((ext_alloc (ext_alloc (Below.refl _ _) _) _)).block g (O10.out.lt g hg).2)) (w10.heap.size + 1) #[.int .u8 kd2, .string nm2, .bool ng2, .slice eA xd2.length ec, .slice mA ls2.length mc] rfl (Blk.new' _ _ _ (by simp)) rfl (by simp [Value.oneCell']) (by omega) (by simp; omega) ?_; intro A3 c3 wa3 ho3 hg3 hat3; have HO3 := Lib.hid ho3; have HG3 := Lib.hid hg3; have HAT3 := Lib.hid hat3; have X11 := Lib.hid (((X10.out.alloc _).alloc _).grown hg3 (own_ne' O10.out (by omega))); obtain ⟨⟨s0, s1, s2, s3, s4⟩, t0, t1, t2, t3, t4⟩ := Blk.c5 X11.out; have hx11 := X11.out.lt; have hz3 := hg3.size; clear ho3 hg3 hat3))
                  go_roundw
                  case rel =>
                    refine ⟨j + 1, ks ++ [.mk kd2 nm2 ng2 xd2 ls2], a8, b8, A3, c3, _, by omega, by go_num, by simp [hkl], Lib.hid ?_, Lib.hid ?_, Lib.hid (ownsRow_setCell_below HO3.out (a := ⟨w1.heap.size, 3 + 1, none⟩) (by show w1.heap.size < w9.heap.size; omega) _), Lib.hid ?_, Lib.hid ?_, by omega, fun h => (hroom h).1, Lib.hid (by rw [HKD2.out]; congr 1; omega), ?_⟩
                    · refine TS.setT (TS.row ((H10.out.alloc _).alloc _) HG3.out (fun g hg => ?_) hbw) (by omega) hbw _ _
                      have := (O10.out.lt g hg).1
                      omega
                    · simpa using X11.out.set 4 (.slice A3 (j + 1) c3)
                    · rw [Tm.encs_append]
                      have := MadeCells.next2 HG10.out (by omega) (ext_alloc (ext_alloc (Below.refl _ _) _) _) HG3.out HO.out HAT3.out HC.out rfl (HU10.out.imp (fun g hg => hg)) (by omega)
                      exact this.keep (fun g hg _ => ⟨hg, Below.heap_setCell _ _ _ _ (by show g ≠ w1.heap.size; omega)⟩)
                    · refine HD.out.keep (fun g hg hl => ⟨hg, ?_⟩)
                      rw [Below.heap_setCell _ _ _ _ (by show g ≠ w1.heap.size; omega), HG3.out.block g (by simp; omega) (fun e => by have := (O10.out.lt g e.symm).1; omega), Below.heap_alloc _ _ _ (by simp; omega), Below.heap_alloc _ _ _ (by omega), HG10.out.block g hl (by intro e; injection e with e; omega)]
                    · show w9.heap.size ≤ (World.setCell _ _ _).heap.size
                      simp [World.setCell]
                      have := HG3.out.size
                      simp at this
                      omega
                  case measure => simp [RowKit.intOf]; omega
                · have hres : kdF (tmF s F) m [] a6 b6 = (ks, a7, b7) := by
                    rw [HKD.out]
                    by_cases hjm : j < m
                    · have : b7 = true := by cases b7 <;> simp_all
                      subst this
                      exact kdF_stop
                    · rw [show m - j = 0 by omega]
                      rfl
                  have HRES := Lib.hid (HEND.out _ _ _ hres)
                  obtain ⟨⟨l0, l1, l2, l3, l4⟩, f0, f1, f2, f3, f4⟩ := Blk.c5 HR.out.zero
                  have hzl := HR.out.zero.lt
                  have HL5 := Lib.hid (set5_blk (a := .int .u8 ((n1 : Int) % 256)) (b := .string nm) (c := .bool gv) (d := .slice A ds.length c) (e := .slice A2 j c2) HR.out.zero)
                  clear hres HKD HEND
                  by_cases hjm : j < m
                  · obtain rfl : b7 = true := by cases b7 <;> simp_all
                    have k1 : (0 : Int) ≤ j := by omega
                    have k2 : (j : Int) < m := by omega
                    go_wp2_with fail
                    refine bodyPost_ret (v := .agg #[.int .u8 ((n1 : Int) % 256), .string nm, .bool gv, .slice A ds.length c, .slice A2 j c2]) (by have hl := Blk.c5 HL5.out; unfold set5 at hl; obtain ⟨⟨m0, m1, m2, m3, m4⟩, _⟩ := hl; simp [results, Tryd.results30, go_sem, m0, m1, m2, m3, m4]) rfl (RefTermPost.mk' HRES.out (us := [_, _, _, _, _]) (set5_grown HR.out.hg (Nat.le_refl _) _ _ _ _ _) (Blk.keep HR.out.st (set5_keep (by omega))) (refterm_made HD.out HO.out HC.out hkl hwz (by omega)))
                  · have hjm' : j = m := by omega
                    subst hjm'
                    go_wp2_with fail
                    refine bodyPost_ret (v := .agg #[.int .u8 ((n1 : Int) % 256), .string nm, .bool gv, .slice A ds.length c, .slice A2 j c2]) (by have hl := Blk.c5 HL5.out; unfold set5 at hl; obtain ⟨⟨m0, m1, m2, m3, m4⟩, _⟩ := hl; simp [results, Tryd.results30, go_sem, m0, m1, m2, m3, m4]) rfl (RefTermPost.mk' HRES.out (us := [_, _, _, _, _]) (set5_grown HR.out.hg (Nat.le_refl _) _ _ _ _ _) (Blk.keep HR.out.st (set5_keep (by omega))) (refterm_made HD.out HO.out HC.out hkl hwz (by omega)))
          · obtain ⟨rfl, hnx⟩ : bad = false ∧ nxtIs s a5 32 = false := by cases bad <;> simp_all
            clear hend
            have ha5s := hab rfl
            obtain ⟨F2, rfl⟩ : ∃ F2, F1 = F2 + 1 := ⟨F1 - 1, by omega⟩
            go_wp2_with fail
            refine (refnext_calls b s a5 false 32 _ HR.out.st).mono ?_
            rintro e w7 ⟨rfl, rfl⟩
            rw [hnx]
            dsimp only
            go_wp2_with fail
            refine number_rs (refnumber_calls b s 4294967295 a5 false 46 _ (Blk.drew HR.out.st) (by omega) (by omega) (by omega)) ?_
            intro w8 n8 a8 b8 c8 hn8 hlt8 hle8 hg8 hst8
            have hb8 : b8 = false → a8 ≤ s.size := fun h => (rsF_room (h ▸ c8)).1
            have hwu : IntKind.u32.wrap (n8 : Int) = (n8 : Int) % 4294967296 := by rw [IntKind.wrap_u32]
            have HDG2 := Lib.hid (HDG.out.trans (dgF_go hnx c8))
            have H8 := Lib.hid (HR.out.drew.next hbw hg8 hst8)
            have X8 := Lib.hid (HX.out.drew.grown hg8 (by intro e; injection e with e; omega))
            have O8 := Lib.hid (World.ownsRow.kept (ownsRow_mono HO.out (w' := wl.drew) (fun g _ => rfl)) hg8 (own_ne HO.out (by omega)))
            clear hg8 hst8 c8 p0 p1 p2 q0 q1 q2 x0 x1 x2 x3 x4 y0 y1 y2 y3 y4 HDG
            obtain ⟨⟨x0, x1, x2, x3, x4⟩, y0, y1, y2, y3, y4⟩ := Blk.c5 X8.out
            have hx8 := X8.out.lt
            dsimp only
            go_wp2_with (at_builtin; go_loud (refine list_append rfl (.tmp 93) (.tmp 96) rfl Tryd.underlying23 infoU32 rfl (by decide) (by decide) (w1.heap.size + 1) (.slice A ds.length c) ds.length (ds.map (Value.int .u32)) rfl (ownsRow_mono O8.out (fun g hg => (ext_alloc (Below.refl _ _) _).block g (O8.out.lt g hg).2)) w8.heap.size #[.int .u32 ((n8 : Int) % 4294967296)] rfl (Blk.new _ _ _) rfl (by simp [Value.oneCell']) (by omega) (by simp; omega) ?_; intro A3 c3 wa3 ho3 hg3 hat3; have HO3 := Lib.hid ho3; have HG3 := Lib.hid hg3; have X11 := Lib.hid ((X8.out.alloc _).grown hg3 (own_ne' O8.out (by omega))); obtain ⟨⟨s0, s1, s2, s3, s4⟩, t0, t1, t2, t3, t4⟩ := Blk.c5 X11.out; have hx11 := X11.out.lt; clear ho3 hg3 hat3))
            go_roundw
            case rel =>
              refine ⟨ds ++ [((n8 : Int) % 4294967296)], A3, c3, F2, a8, b8, Lib.hid ?_, Lib.hid ?_, Lib.hid ?_, by omega, by omega, hb8, by simp; omega, by omega, HDG2⟩
              · refine TS.setT (TS.row (H8.out.alloc _) HG3.out (fun g hg => ?_) hbw) (by omega) hbw _ _
                have := (O8.out.lt g hg).1
                omega
              · simpa using X11.out.set 3 (.slice A3 (ds.length + 1) c3)
              · have := ownsRow_setCell_below HO3.out (a := ⟨w1.heap.size, 3, none⟩) (by show w1.heap.size < w1.heap.size + 1; omega) (.slice A3 (ds.length + 1) c3)
                simpa using this
            case measure =>
              have m1 := (Blk.c3 HR.out.st).1.2.1
              have m2 := (Blk.c3 (TS.setT (TS.row (H8.out.alloc _) HG3.out (fun g hg => by have := (O8.out.lt g hg).1; omega) hbw) (T := w1.heap.size) (by omega) hbw 3 (.slice A3 (ds.length + 1) c3)).st).1.2.1
              rw [m1, m2]
              simp only [Int.toNat_natCast]
              omega
theorem refterm_all (s : ByteArray) (hs : s.size ≤ 1000000) : ∀ F, RefTermAt s F
  | 0 => fun b a w ha hF h => absurd hF (by omega)
  | F + 1 => refterm_step s hs F (refterm_all s hs F)
end Wh
