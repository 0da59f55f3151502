import Derived.Test.YtlacfgnjljjdiaaDoorT48
import Derived.Test.YtlacfgnjljjdiaaDoorT48Q
set_option linter.unusedVariables false
set_option linter.unusedSimpArgs false
open Go Go.RowKit Go.Proofs
namespace Wh
/-! ### the reference's Of answers as term.Of does -/
theorem refOf_is {s : ByteArray} (hs : s.size ≤ 900000) {t : Tm} {a : Nat} {bad : Bool} (ht : tmF s (s.size + 1) 0 false = (t, a, bad)) :
    t.wf ∧ (bad = false → t.key.length ≤ 90000000) ∧ (bad = true → ofS s = none) ∧ (bad = false → t.key = s.data.toList → ofS s = some t) ∧ (t.key ≠ s.data.toList → ofS s = none) := by
  have h1 := tmF_wf (s := s) (s.size + 1) 0 false
  have h2 := tmF_key (s := s) hs
  have h3 := refOf_eq s (by omega)
  unfold refOfS at h3
  rw [ht] at h1 h2 h3
  refine ⟨h1, h2, fun h => ?_, fun h k => ?_, fun k => ?_⟩
  · rw [← h3, h, if_neg (by simp)]
  · rw [← h3, if_pos ⟨h, k⟩]
  · rw [← h3, if_neg (fun hh => k hh.2)]
set_option maxHeartbeats 1000000 in
set_option maxRecDepth 100000 in
theorem refOf_reads (B : Nat) (s : ByteArray) (w : World) (hs : s.size ≤ 900000) (henv : Env2 B w) (hB : B ≤ w.heap.size) : Calls Tryd.prog 10 #[.string s] w (TermPost w (ofS s)) := by
  rcases ht : tmF s (s.size + 1) 0 false with ⟨t, a, bad⟩
  obtain ⟨hwf, hkl, hb0, hb1, hb2⟩ := refOf_is hs ht
  have hcall := refterm_all s (by omega) (s.size + 1) (w.heap.size + 1) 0 ((w.alloc (.cells #[.int .u8 0, .string ⟨#[]⟩, .bool false, .slice none 0 0, .slice none 0 0] 28)).alloc (.cells #[.string s, .int .i64 (0 : Nat), .bool false] 74)) (by omega) (by omega) (Blk.new' _ _ _ (by simp))
  rw [ht] at hcall
  obtain ⟨kd, nm, ng, xd, ls⟩ := t
  generalize hT : Tm.mk kd nm ng xd ls = t at *
  have HT := Lib.hid hT
  have HC := Lib.hid hcall
  have HE := Lib.hid henv
  have HWF := Lib.hid hwf
  have HKL := Lib.hid hkl
  have HB0 := Lib.hid hb0
  have HB1 := Lib.hid hb1
  have HB2 := Lib.hid hb2
  clear hcall henv hwf hkl hb0 hb1 hb2 ht hT
  go_enter Tryd.func10, Tryd.ntmps10
  go_wp2_with fail
  refine HC.out.mono ?_
  rintro e w2 ⟨hg2, hst2, us, rfl, hm2⟩
  have z2 := hg2.size
  simp at z2
  have hus := hm2.rd
  rw [← HT.out] at hus
  obtain ⟨dA, dc, lA, lc, rfl, _, _⟩ := Tm.open hus
  have HM := Lib.hid hm2
  have HA2 := Lib.hid (((Blk.new w #[.int .u8 0, .string ⟨#[]⟩, .bool false, .slice none 0 0, .slice none 0 0] 28).alloc (.cells #[.string s, .int .i64 (0 : Nat), .bool false] 74)).grown hg2 (by simp))
  have HL2 := Lib.hid (Below.grown (ext_alloc (ext_alloc (Below.refl w.heap.size w) (.cells #[.int .u8 0, .string ⟨#[]⟩, .bool false, .slice none 0 0, .slice none 0 0] 28)) (.cells #[.string s, .int .i64 (0 : Nat), .bool false] 74)) hg2 (by simp; omega) (fun k hk => by cases hk; omega))
  obtain ⟨⟨p0, p1, p2⟩, q0, q1, q2⟩ := Blk.c3 hst2
  obtain ⟨⟨o0, o1, o2, o3, o4⟩, r0, r1, r2, r3, r4⟩ := Blk.c5 HA2.out
  have ho2 := HA2.out.lt
  have hb2 := Blk.lt hst2
  clear hst2 hm2 hus hg2
  dsimp only at p2
  dsimp only
  cases bad with
  | true =>
    go_wp2_with fail
    refine bodyPost_ret (v := .tuple #[.agg #[.int .u8 0, .string ⟨#[]⟩, .bool false, .slice none 0 0, .slice none 0 0], .bool false]) (by simp [results, Tryd.results10, go_sem, o0, o1, o2, o3, o4, r0, r1, r2, r3, r4, ho2]) rfl (TermPost.bad (HB0.out (by simp)) ?_)
    exact ext_alloc (set5_below HL2.out (Nat.le_refl _) _ _ _ _ _) _
  | false =>
    have HKY : Hid (Calls Tryd.prog 31 #[.agg #[.int .u8 kd, .string nm, .bool ng, .slice dA xd.length dc, .slice lA ls.length lc]] (w2.alloc (.cells #[.int .u8 kd, .string nm, .bool ng, .slice dA xd.length dc, .slice lA ls.length lc] 28)) fun e w' => e = .returned (.string ⟨t.key.toArray⟩) ∧ Below (w2.alloc (.cells #[.int .u8 kd, .string nm, .bool ng, .slice dA xd.length dc, .slice lA ls.length lc] 28)).heap.size (w2.alloc (.cells #[.int .u8 kd, .string nm, .bool ng, .slice dA xd.length dc, .slice lA ls.length lc] 28)) w') :=
      Lib.hid (refKey_calls t B _ (fun g => (w.alloc (.cells #[.int .u8 0, .string ⟨#[]⟩, .bool false, .slice none 0 0, .slice none 0 0] 28) |>.alloc (.cells #[.string s, .int .i64 (0 : Nat), .bool false] 74)).heap.size ≤ g) _ (D.rdRow_ext HM.out.rd (ext_alloc (Below.refl _ _) _)) (HE.out.ext (ext_alloc HL2.out _)).env HWF.out (by have := HKL.out (by simp); omega))
    go_wp2_with fail
    refine HKY.out.mono ?_
    rintro e w3 ⟨rfl, hb3⟩
    have X3 := Lib.hid ((Blk.new w2 #[.int .u8 kd, .string nm, .bool ng, .slice dA xd.length dc, .slice lA ls.length lc] 28).ext hb3)
    have A3 := Lib.hid ((HA2.out.alloc (.cells #[.int .u8 kd, .string nm, .bool ng, .slice dA xd.length dc, .slice lA ls.length lc] 28)).ext hb3)
    have M3 := Lib.hid ((HM.out.ext (ext_alloc (Below.refl _ _) (.cells #[.int .u8 kd, .string nm, .bool ng, .slice dA xd.length dc, .slice lA ls.length lc] 28))).ext hb3)
    have L3 := Lib.hid (show Below w.heap.size w w3 from Below.trans (ext_alloc HL2.out _) (hb3.mono (by simp; omega)))
    clear hb3 HKY o0 o1 o2 o3 o4 r0 r1 r2 r3 r4 ho2 HA2 HM HL2 p0 p1 p2 q0 q1 q2 hb2
    obtain ⟨⟨o0, o1, o2, o3, o4⟩, r0, r1, r2, r3, r4⟩ := Blk.c5 A3.out
    have ho3 := A3.out.lt
    obtain ⟨⟨x0, x1, x2, x3, x4⟩, y0, y1, y2, y3, y4⟩ := Blk.c5 X3.out
    have hx3 := X3.out.lt
    dsimp only
    by_cases hk : t.key = s.data.toList
    · have hks : (⟨t.key.toArray⟩ : ByteArray) = s := by rw [hk]
      have e1 : ((⟨t.key.toArray⟩ : ByteArray).toList == s.toList) = true := str_yes hks
      have HOF := Lib.hid (HB1.out (by simp) hk)
      rw [hks] at e1 ⊢
      clear hks hk
      go_wp2_with fail
      refine bodyPost_ret (v := .tuple #[.agg #[.int .u8 kd, .string nm, .bool ng, .slice dA xd.length dc, .slice lA ls.length lc], .bool true]) (by simp [results, Tryd.results10, go_sem, o0, o1, o2, o3, o4, r0, r1, r2, r3, r4, ho3]) rfl (TermPost.good HOF.out (us := [.int .u8 kd, .string nm, .bool ng, .slice dA xd.length dc, .slice lA ls.length lc]) ?_ ?_)
      · exact set5_below L3.out (Nat.le_refl _) _ _ _ _ _
      · exact MadeRow.keep M3.out (fun g hg hl => ⟨by simp at hg; omega, set5_keep (by simp at hg; omega)⟩)
    · have hne : (⟨t.key.toArray⟩ : ByteArray) ≠ s := fun h => hk (by rw [← h])
      have e1 : ((⟨t.key.toArray⟩ : ByteArray).toList == s.toList) = false := str_no hne
      have HOF := Lib.hid (HB2.out hk)
      clear hne hk
      generalize (⟨t.key.toArray⟩ : ByteArray) = K at e1 ⊢
      go_wp2_with fail
      refine bodyPost_ret (v := .tuple #[.agg #[.int .u8 0, .string ⟨#[]⟩, .bool false, .slice none 0 0, .slice none 0 0], .bool false]) (by simp [results, Tryd.results10, go_sem, o0, o1, o2, o3, o4, r0, r1, r2, r3, r4, ho3]) rfl (TermPost.bad HOF.out ?_)
      exact set5_below L3.out (Nat.le_refl _) _ _ _ _ _
end Wh
