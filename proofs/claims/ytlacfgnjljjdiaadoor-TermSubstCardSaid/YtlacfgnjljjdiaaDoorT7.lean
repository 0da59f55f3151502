import Derived.Test.YtlacfgnjljjdiaaDoorT6
set_option linter.unusedVariables false
set_option linter.unusedSimpArgs false
open Go Go.RowKit Go.Proofs
namespace Wh
/-- What a making leaves, where nobody asks how much was made. -/
def MadePost (w : World) (row : Option Nat) (t : Tm) (e : Ending) (w' : World) : Prop :=
  w.grownBy w' row ∧ ((t.size ≤ 20000 ∧ ∃ us, e = .returned (.agg us.toArray) ∧ MadeRow w' (fun g => w.heap.size ≤ g) t.enc us) ∨ (20000 < t.size ∧ e = .panicked (thrown 34)))
set_option maxHeartbeats 1000000 in
set_option maxRecDepth 100000 in
theorem subst1_calls (t : Tm) (w : World) (ok : Nat → Prop) (us : List Value) (bp bx bm bn bl bt : Nat) (l : List ByteArray) (ts : List Tm) (hts : Tm.fitss ts) (hf : t.fits) (hp : Blk w bp #[.pointer (some ⟨bm, 0, none⟩)] 77) (hx : Blk w bx us.toArray 28) (hr : D.rdRow w ok t.enc us) (hok : ∀ g, ok g → g ≠ bm)
    (hm : Blk w bm #[.int .i64 0, putFn bn bl bt] 109) (he : PutEnv w bm bn bl bt l ts) :
    Calls Tryd.prog 35 #[.pointer (some ⟨bp, 0, none⟩), .pointer (some ⟨bx, 0, none⟩)] w (MadePost w (some bm) (t.subst l ts)) := by
  have hcall : ∀ W, w.grownBy W (some bm) → Blk W bm #[.int .i64 0, putFn bn bl bt] 109 → Calls Tryd.prog 36 #[.pointer (some ⟨bm, 0, none⟩), .agg us.toArray] W (MakePost W bm 0 (putFn bn bl bt) (t.subst l ts)) := by
    intro W hg hb
    exact of_calls _ bn bl bt l ts hts t W ok us bm 0 (Nat.le_refl _) hf (D.rdRow_grown (row := some bm) hr hg (fun g hg' => by simpa using hok g hg')) hok hb (he.keep hg) (by omega) (by omega)
  have HC := Lib.hid hcall
  obtain ⟨kind, name, neg, ds, ks⟩ := t
  obtain ⟨dA, dc, kA, kc, rfl, hd, hk⟩ := Tm.open hr
  have HM := Lib.hid hm
  have hbm := hm.lt
  have hbp := hp.lt
  have hbx := hx.lt
  obtain ⟨p1, p2⟩ := Blk.c1 hp
  obtain ⟨⟨x0, x1, x2, x3, x4⟩, y0, y1, y2, y3, y4⟩ := Blk.c5 hx
  clear hcall he hr hd hk hok hf hts hm hp hx
  generalize hT : (Tm.mk kind name neg ds ks).subst l ts = T at HC
  clear hT
  obtain ⟨kd, nm, ng, xd, ls⟩ := T
  go_enter Tryd.func35, Tryd.ntmps35
  go_wp2_with fail
  refine make_call (HC.out _ (grown_alloc (grown_refl _ _) _) (Blk.alloc HM.out _)) ?_ ?_
  · intro w2 hlt hg2
    exact ⟨rfl, grown_by (grown_alloc (grown_refl _ _) _) hg2 (fun k hk => .inl hk.symm), .inr ⟨by omega, rfl⟩⟩
  intro w2 eA ec lA lc hle hg2 hb2 hu2
  have z2 := hg2.size
  simp at z2
  have z3 : w.heap.size < w2.heap.size := by omega
  have HG := Lib.hid hg2
  have hb := with_blk' hg2 (Blk.new' _ _ _ rfl) (fun k hk => by cases hk; omega)
  obtain ⟨⟨q0, q1, q2, q3, q4⟩, r0, r1, r2, r3, r4⟩ := Blk.c5 hb
  have HU := Lib.hid hu2
  have HX := Lib.hid hb
  clear hu2 hb2 hg2 hb
  dsimp only
  go_wp2
  refine bodyPost_ret (v := .agg #[.int .u8 kd, .string nm, .bool ng, .slice eA xd.length ec, .slice lA ls.length lc]) (by simp [results, Tryd.results35, go_sem, q0, q1, q2, q3, q4, r0, r1, r2, r3, r4]) rfl ⟨?_, .inl ⟨by omega, _, rfl, ?_⟩⟩
  · exact set5_grown (grown_by (grown_alloc (grown_refl _ _) _) HG.out (fun k hk => .inl hk.symm)) (Nat.le_refl _) _ _ _ _ _
  · exact MadeRow.keep HU.out (fun g hg _ => ⟨by simp at hg; omega, set5_keep (by simp at hg; omega)⟩)
/-- The term that says nothing. -/
def Tm.zero : Tm := .mk 0 ⟨#[]⟩ false [] []
/-- What 'term.Subst' tells. -/
def SubstPost (w : World) (x : Tm) (e : Ending) (w' : World) : Prop :=
  Below w.heap.size w w' ∧ ((x.size ≤ 20000 ∧ ∃ us, e = .returned (.tuple #[.agg us.toArray, .int .i64 0]) ∧ MadeRow w' (fun g => w.heap.size ≤ g) x.enc us) ∨
    (20000 < x.size ∧ e = .returned (.tuple #[.agg #[.int .u8 0, .string ⟨#[]⟩, .bool false, .slice none 0 0, .slice none 0 0], .int .i64 34])))
theorem made_shape {w : World} {row : Option Nat} {t : Tm} {e : Ending} {w' : World} (h : MadePost w row t e w') : w.grownBy w' row ∧ ((∃ k n ng dA dn dc kA kn kc, e = .returned (.agg #[.int .u8 k, .string n, .bool ng, .slice dA dn dc, .slice kA kn kc])) ∨ ∃ n, e = .panicked (thrown n)) := by
  obtain ⟨hg, (⟨_, us, rfl, hu⟩ | ⟨_, rfl⟩)⟩ := h
  · obtain ⟨kd, nm, ng, xd, ls⟩ := t
    obtain ⟨dA, dc, lA, lc, rfl, _, _⟩ := Tm.open hu.rd
    exact ⟨hg, .inl ⟨_, _, _, _, _, _, _, _, _, rfl⟩⟩
  · exact ⟨hg, .inr ⟨_, rfl⟩⟩
theorem thrown_inj {n m : Int} (h : thrown n = thrown m) : n = m := by
  simpa [thrown] using h
set_option maxHeartbeats 1000000 in
set_option maxRecDepth 100000 in
theorem subst_calls (t : Tm) (w : World) (us : List Value) (l : List ByteArray) (ts : List Tm) (lA tA : Option Addr) (lc tc : Nat) (hts : Tm.fitss ts) (hf : t.fits) (hr : D.rdRow w (fun _ => True) t.enc us) (hl : D.rd w (fun _ => True) (.strs 9 l) (.slice lA l.length lc)) (ht : D.rd w (fun _ => True) (.row 28 5 (Tm.encs ts)) (.slice tA ts.length tc)) :
    Calls Tryd.prog 12 #[.agg us.toArray, .slice lA l.length lc, .slice tA ts.length tc] w (SubstPost w (t.subst l ts)) := by
  have hmf : ∀ (fn : Fn) (first cap : Array Value) (w : World), (Instr.makeFunc fn first cap).run Tryd.prog w = .ok (.func fn first cap) w := fun _ _ _ _ => rfl
  have HR := Lib.hid hr
  have HL := Lib.hid hl
  have HT := Lib.hid ht
  generalize hX : t.subst l ts = X
  obtain ⟨kind, name, neg, ds, ks⟩ := t
  obtain ⟨dA, dc, kA, kc, rfl, hd, hk⟩ := Tm.open hr
  clear hr hl ht hd hk
  go_enter Tryd.func12, Tryd.ntmps12
  go_wp2_with fail
  refine (names_calls _ l ts lA tA lc tc (D.rd_ext HL.out (ext_alloc (ext_alloc (Below.refl _ _) _) _)) (D.rd_ext HT.out (ext_alloc (ext_alloc (Below.refl _ _) _) _))).mono ?_
  rintro e w2 ⟨bm, bn, bl, bt, rfl, hbm, hm, henv, hb2⟩
  have z1 := hb2.size
  have z2 := hm.lt
  simp at z1 hbm hb2
  have z3 : w.heap.size < w2.heap.size := by omega
  have z4 : w.heap.size + 1 < w2.heap.size := by omega
  have hA := Blk.below (Blk.alloc (Blk.new w (#[.int .u8 kind, .string name, .bool neg, .slice dA ds.length dc, .slice kA ks.length kc]) 28) (.cells #[.int .u8 0, .string ⟨#[]⟩, .bool false, .slice none 0 0, .slice none 0 0] 28)) hb2 (by omega)
  have hZ := Blk.below (Blk.new' (w.alloc (.cells #[.int .u8 kind, .string name, .bool neg, .slice dA ds.length dc, .slice kA ks.length kc] 28)) (#[.int .u8 0, .string ⟨#[]⟩, .bool false, .slice none 0 0, .slice none 0 0]) 28 (n := w.heap.size + 1) (by simp)) hb2 (by omega)
  have hbw : Below w.heap.size w w2 := Below.trans (ext_alloc (ext_alloc (Below.refl _ _) _) _) (hb2.mono (by omega))
  have HA := Lib.hid hA
  have HZ := Lib.hid hZ
  have HM := Lib.hid hm
  have HE := Lib.hid henv
  have HB := Lib.hid hbw
  clear hm henv hb2 hA hZ hbw
  dsimp only
  go_wp2_with fail
  have hcall := subst1_calls (.mk kind name neg ds ks) (triedW (w2.alloc (.cells #[.pointer (some ⟨bm, 0, none⟩)] 77))) (fun g => g < w.heap.size) _ w2.heap.size w.heap.size bm bn bl bt l ts hts hf ((Blk.new _ _ _).alloc _ |>.alloc _) (((HA.out.alloc _).alloc _).alloc _)
    (D.rdRow_keep HR.out (fun g _ hg => ⟨hg, (ext_alloc (ext_alloc (ext_alloc (Below.refl w2.heap.size w2) _) _) _).block g (by omega) |>.trans (HB.out.block g hg)⟩)) (fun g hg => by omega) (((HM.out.alloc _).alloc _).alloc _) (HE.out.keep (grown_alloc (grown_alloc (grown_alloc (grown_refl _ _) _) _) _))
  rw [hX] at hcall
  refine (tried_calls (row := some bm) (fun k hk => by cases hk; simp; omega) (fun args w => by kernel_rfl) hcall (fun _ _ h => made_shape h)).mono ?_
  clear hcall
  rintro e w3 ⟨w4, hg3, hs3, hk3, h3⟩
  have z5 := hg3.size
  simp at z5
  have hA3 : Blk w3 (w.heap.size + 1) _ 28 := (HZ.out.alloc _).grown hg3 (by simp; omega)
  obtain ⟨⟨q0, q1, q2, q3, q4⟩, r0, r1, r2, r3, r4⟩ := Blk.c5 hA3
  have z6 : w.heap.size + 1 < w3.heap.size := by omega
  have z7 : w.heap.size < w3.heap.size := by omega
  have HX3 := Lib.hid hA3
  have HG3 := Lib.hid hg3
  have HK3 := Lib.hid hk3
  clear hA3 hg3 hk3
  have hbel : Below w.heap.size w w3 := Below.grown (HB.out.alloc (by omega) _) HG3.out (by simp; omega) (fun k hk => by cases hk; omega)
  have HBL := Lib.hid hbel
  clear hbel
  rcases h3 with ⟨k, n, ng, eA, en, ec, lA, ln, lc, hS, rfl⟩ | ⟨n, hS, rfl⟩
  · obtain ⟨_, (⟨hle, us, he, hu⟩ | ⟨_, he⟩)⟩ := hS
    · have hus : us = [.int .u8 k, .string n, .bool ng, .slice eA en ec, .slice lA ln lc] := by
        injection he with he
        injection he with he
        have := congrArg Array.toList he
        simpa using this.symm
      subst hus
      have HU := Lib.hid hu
      clear hu he
      dsimp only
      go_wp2_with fail
      refine bodyPost_ret (v := .tuple #[.agg #[.int .u8 k, .string n, .bool ng, .slice eA en ec, .slice lA ln lc], .int .i64 0]) (by simp [results, Tryd.results12, go_sem, q0, q1, q2, q3, q4, r0, r1, r2, r3, r4, z6]) rfl ⟨?_, .inl ⟨by omega, _, rfl, ?_⟩⟩
      · exact ((((HBL.out.setCell (by simp) _).setCell (by simp) _).setCell (by simp) _).setCell (by simp) _).setCell (by simp) _
      · refine MadeRow.keep HU.out (fun g hg hl => ⟨by simp [triedW] at hg; omega, ?_⟩)
        simp [triedW] at hg
        exact (set5_keep (by omega)).trans (HK3.out g hl (by simp; omega) (by simp; omega))
    · simp at he
  · obtain ⟨_, (⟨hle, us, he, hu⟩ | ⟨hlt, he⟩)⟩ := hS
    · simp at he
    · injection he with he
      have hn := thrown_inj he
      subst hn
      clear he
      dsimp only
      go_wp2_with fail
      refine bodyPost_ret (v := .tuple #[.agg #[.int .u8 0, .string ⟨#[]⟩, .bool false, .slice none 0 0, .slice none 0 0], .int .i64 34]) (by simp [results, Tryd.results12, go_sem, q0, q1, q2, q3, q4, r0, r1, r2, r3, r4, z6]) rfl ⟨?_, .inr ⟨by omega, rfl⟩⟩
      exact ((((HBL.out.setCell (by simp) _).setCell (by simp) _).setCell (by simp) _).setCell (by simp) _).setCell (by simp) _
end Wh
