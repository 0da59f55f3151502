import Derived.Test.YtlacfgnjljjdiaaDoorT33
import Derived.Test.YtlacfgnjljjdiaaDoorT7
import Derived.Test.YtlacfgnjljjdiaaDoorT29
set_option linter.unusedVariables false
set_option linter.unusedSimpArgs false
open Go Go.RowKit Go.Proofs
namespace Wh
/-- What 'term.Of' reads. -/
def ofS (s : ByteArray) : Option Tm := (rdTerm (s.size + 1) s).bind fun p => if p.2.size = 0 then some p.1 else none
def Of1Post (w : World) (b : Nat) (r : Option Tm) (e : Ending) (w' : World) : Prop := w.grownBy w' (some b) ∧ match r with
  | some t => ∃ us, e = .returned (.agg us.toArray) ∧ MadeRow w' (fun g => w.heap.size ≤ g) t.enc us
  | none => e = .panicked (thrown 4)
theorem Of1Post.bad {w w' : World} {b : Nat} {r : Option Tm} (h : r = none) (hg : w.grownBy w' (some b)) : Of1Post w b r (.panicked (thrown 4)) w' := by subst h; exact ⟨hg, rfl⟩
theorem Of1Post.good {w w' : World} {b : Nat} {r : Option Tm} {t : Tm} {us : List Value} (h : r = some t) (hg : w.grownBy w' (some b)) (hu : MadeRow w' (fun g => w.heap.size ≤ g) t.enc us) : Of1Post w b r (.returned (.agg us.toArray)) w' := by subst h; exact ⟨hg, us, rfl, hu⟩
theorem of1_shape {w : World} {b : Nat} {r : Option Tm} {e : Ending} {w' : World} (h : Of1Post w b r e w') : w.grownBy w' (some b) ∧ ((∃ k n ng dA dn dc kA kn kc, e = .returned (.agg #[.int .u8 k, .string n, .bool ng, .slice dA dn dc, .slice kA kn kc])) ∨ ∃ n, e = .panicked (thrown n)) := by
  obtain ⟨hg, hm⟩ := h
  cases r with
  | none => exact ⟨hg, .inr ⟨_, hm⟩⟩
  | some t =>
    obtain ⟨us, rfl, hu⟩ := hm
    obtain ⟨kd, nm, ng, xd, ls⟩ := t
    obtain ⟨dA, dc, lA, lc, rfl, _, _⟩ := Tm.open hu.rd
    exact ⟨hg, .inl ⟨_, _, _, _, _, _, _, _, _, rfl⟩⟩
set_option maxRecDepth 100000 in
theorem of1_calls (B : Nat) (s : ByteArray) (w : World) (bp b : Nat) (hs : s.size ≤ 900000) (hp : Blk w bp #[.pointer (some ⟨b, 0, none⟩)] 66) (hr : Rd w b s) (henv : Env2 B w) (hBb : B ≤ b) (hBp : B ≤ bp) (hne : bp ≠ b) :
    Calls Tryd.prog 27 #[.pointer (some ⟨bp, 0, none⟩)] w (Of1Post w b (ofS s)) := by
  have HC := Lib.hid (rterm_calls (s.size + 1) B s (w.alloc (.cells #[.int .u8 0, .string ⟨#[]⟩, .bool false, .slice none 0 0, .slice none 0 0] 28)) b (by omega) hs (Blk.alloc hr _) (henv.ext (ext_alloc (Below.refl _ _) _)) hBb)
  have hbp := hp.lt
  have hb := Blk.lt hr
  have HP := Lib.hid hp
  obtain ⟨p1, p2⟩ := Blk.c1 hp
  clear henv hp hr
  go_enter Tryd.func27, Tryd.ntmps27
  go_wp2_with fail
  refine rterm_call HC.out ?_ ?_
  · intro w' hn hg
    exact ⟨rfl, Of1Post.bad (by simp [ofS, hn]) (grown_by (grown_alloc (grown_refl _ _) _) hg (fun k hk => .inl hk.symm))⟩
  intro w2 kd nm ng xd ls rest dA dc lA lc hr2 hg2 hrd2 hu2
  have z2 := hg2.size
  simp at z2
  have z3 : w.heap.size < w2.heap.size := by omega
  have HG := Lib.hid hg2
  have hP2 := with_blk' hg2 (Blk.alloc HP.out _) (fun k hk => by cases hk; omega)
  have hb2 := with_blk' hg2 (Blk.new' _ _ _ rfl) (fun k hk => by cases hk; omega)
  have HU := Lib.hid hu2
  have HX := Lib.hid hb2
  have HP2 := Lib.hid hP2
  have HR2 := Lib.hid hr2
  have HRD := Lib.hid hrd2
  obtain ⟨t1, t2⟩ := Blk.c1 hP2
  obtain ⟨v1, v2⟩ := Blk.c1 hrd2
  have hl2 := hP2.lt
  have hl3 := Blk.lt hrd2
  obtain ⟨⟨q0, q1, q2, q3, q4⟩, r0, r1, r2, r3, r4⟩ := Blk.c5 hb2
  clear hu2 hb2 hg2 hP2 hr2 hrd2
  dsimp only
  by_cases h0 : rest.size = 0
  · have h0' : (rest.toList == []) = true := by
      rw [beq_iff_eq, ByteArray.toList_eq]
      exact List.length_eq_zero_iff.1 (by simpa using h0)
    go_wp2_with (go_at_call 29; with_reducible refine Calls.mono (must_true _ _) ?_; rintro e w' ⟨rfl, rfl⟩)
    refine bodyPost_ret (v := .agg #[.int .u8 kd, .string nm, .bool ng, .slice dA xd.length dc, .slice lA ls.length lc]) (by simp [results, Tryd.results27, go_sem, q0, q1, q2, q3, q4, r0, r1, r2, r3, r4, z3]) rfl ?_
    refine Of1Post.good (t := .mk kd nm ng xd ls) (by simp only [ofS, HR2.out, Option.bind_some, h0, if_true]) ?_ (us := [.int .u8 kd, .string nm, .bool ng, .slice dA xd.length dc, .slice lA ls.length lc]) ?_
    · exact grown_alloc (set5_grown (grown_by (grown_alloc (grown_refl _ _) _) HG.out (fun k hk => .inl hk.symm)) (Nat.le_refl _) _ _ _ _ _) _
    · exact MadeRow.keep HU.out (fun g hg hl => ⟨by simp at hg; omega, (Below.heap_alloc _ _ _ (by simpa [set5] using hl)).trans (set5_keep (by simp at hg; omega))⟩)
  · have he := empty_no h0
    go_wp2_with (go_at_call 29; with_reducible refine Calls.mono (must_false _ _) ?_; rintro e w' ⟨rfl, rfl⟩)
    exact ⟨rfl, Of1Post.bad (by simp only [ofS, HR2.out, Option.bind_some, h0, if_false]) (grown_alloc (grown_by (grown_alloc (grown_refl _ _) _) HG.out (fun k hk => .inl hk.symm)) _)⟩
theorem set5_below {n : Nat} {w w3 : World} (h : Below n w w3) {b : Nat} (hb : n ≤ b) (v1 v2 v3 v4 v5 : Value) : Below n w (set5 w3 b v1 v2 v3 v4 v5) := Below.setCell (Below.setCell (Below.setCell (Below.setCell (Below.setCell h hb v1) hb v2) hb v3) hb v4) hb v5
def TermPost (w : World) (r : Option Tm) (e : Ending) (w' : World) : Prop := Below w.heap.size w w' ∧ match r with
  | some t => ∃ us, e = .returned (.tuple #[.agg us.toArray, .bool true]) ∧ MadeRow w' (fun g => w.heap.size ≤ g) t.enc us
  | none => e = .returned (.tuple #[.agg #[.int .u8 0, .string ⟨#[]⟩, .bool false, .slice none 0 0, .slice none 0 0], .bool false])
theorem TermPost.bad {w w' : World} {r : Option Tm} (h : r = none) (hg : Below w.heap.size w w') : TermPost w r (.returned (.tuple #[.agg #[.int .u8 0, .string ⟨#[]⟩, .bool false, .slice none 0 0, .slice none 0 0], .bool false])) w' := by subst h; exact ⟨hg, rfl⟩
theorem TermPost.good {w w' : World} {r : Option Tm} {t : Tm} {us : List Value} (h : r = some t) (hg : Below w.heap.size w w') (hu : MadeRow w' (fun g => w.heap.size ≤ g) t.enc us) : TermPost w r (.returned (.tuple #[.agg us.toArray, .bool true])) w' := by subst h; exact ⟨hg, us, rfl, hu⟩
set_option maxHeartbeats 1000000 in
set_option maxRecDepth 100000 in
theorem termOf_reads (B : Nat) (s : ByteArray) (w : World) (hs : s.size ≤ 900000) (henv : Env2 B w) (hB : B ≤ w.heap.size) : Calls Tryd.prog 9 #[.string s] w (TermPost w (ofS s)) := by
  have hmf : ∀ (fn : Fn) (first cap : Array Value) (w : World), (Instr.makeFunc fn first cap).run Tryd.prog w = .ok (.func fn first cap) w := fun _ _ _ _ => rfl
  have HE := Lib.hid henv
  clear henv
  go_enter Tryd.func9, Tryd.ntmps9
  go_wp2_with fail
  have hcall := of1_calls B s (triedW (((w.alloc (.cells #[.int .u8 0, .string ⟨#[]⟩, .bool false, .slice none 0 0, .slice none 0 0] 28)).alloc (.cells #[.string s] 68)).alloc (.cells #[.pointer (some ⟨w.heap.size + 1, 0, none⟩)] 66))) (w.heap.size + 2) (w.heap.size + 1) hs
    (((Blk.new' _ _ _ (by simp)).alloc _).alloc _) ((((Blk.new' _ _ _ (by simp)).alloc _).alloc _).alloc _)
    (HE.out.ext (ext_alloc (ext_alloc (ext_alloc (ext_alloc (ext_alloc (Below.refl _ _) _) _) _) _) _)) (by omega) (by omega) (by omega)
  refine (tried_calls (row := some (w.heap.size + 1)) (fun k hk => by cases hk; simp) (fun args w => by kernel_rfl) hcall (fun _ _ h => of1_shape h)).mono ?_
  clear hcall
  rintro e w3 ⟨w4, hg3, hs3, hk3, h3⟩
  have z5 := hg3.size
  simp at z5
  have hA3 : Blk w3 w.heap.size #[.int .u8 0, .string ⟨#[]⟩, .bool false, .slice none 0 0, .slice none 0 0] 28 := (((Blk.new _ _ _).alloc _).alloc _).grown hg3 (by simp)
  obtain ⟨⟨q0, q1, q2, q3, q4⟩, r0, r1, r2, r3, r4⟩ := Blk.c5 hA3
  have z6 : w.heap.size < w3.heap.size := by omega
  have HG3 := Lib.hid hg3
  have HK3 := Lib.hid hk3
  clear hA3 hg3 hk3
  have hbel : Below w.heap.size w w3 := Below.grown (ext_alloc (ext_alloc (ext_alloc (Below.refl _ _) _) _) _) HG3.out (by simp; omega) (fun k hk => by cases hk; omega)
  have HBL := Lib.hid hbel
  clear hbel
  generalize hr : ofS s = r at h3
  have HR := Lib.hid hr
  clear hr
  rcases h3 with ⟨k, n, ng, eA, en, ec, lA, ln, lc, hS, rfl⟩ | ⟨n, hS, rfl⟩
  · obtain ⟨_, hS⟩ := hS
    cases r with
    | none => simp at hS
    | some t =>
      obtain ⟨us, he, hu⟩ := hS
      have hus : us = [.int .u8 k, .string n, .bool ng, .slice eA en ec, .slice lA ln lc] := by
        injection he with he
        injection he with he
        have := congrArg Array.toList he
        simpa using this.symm
      subst hus
      have HU := Lib.hid hu
      clear hu he
      dsimp only
      go_wp2_with fail
      refine bodyPost_ret (v := .tuple #[.agg #[.int .u8 k, .string n, .bool ng, .slice eA en ec, .slice lA ln lc], .bool true]) (by simp [results, Tryd.results9, go_sem, q0, q1, q2, q3, q4, r0, r1, r2, r3, r4, z6]) rfl (TermPost.good (t := t) HR.out (us := [.int .u8 k, .string n, .bool ng, .slice eA en ec, .slice lA ln lc]) ?_ ?_)
      · exact ext_alloc (set5_below HBL.out (Nat.le_refl _) _ _ _ _ _) _
      · refine MadeRow.keep HU.out (fun g hg hl => ⟨by simp [triedW] at hg; omega, ?_⟩)
        simp [triedW] at hg
        exact (Below.heap_alloc _ _ _ (by simpa [set5] using Nat.lt_of_lt_of_le hl hs3)).trans ((set5_keep (by omega)).trans (HK3.out g hl (by simp; omega) (by simp; omega)))
  · obtain ⟨_, hS⟩ := hS
    cases r with
    | some t =>
      obtain ⟨us, he, hu⟩ := hS
      simp at he
    | none =>
      injection hS with he
      have hn := thrown_inj he
      subst hn
      clear he
      dsimp only
      go_wp2_with fail
      refine bodyPost_ret (v := .tuple #[.agg #[.int .u8 0, .string ⟨#[]⟩, .bool false, .slice none 0 0, .slice none 0 0], .bool false]) (by simp [results, Tryd.results9, go_sem, q0, q1, q2, q3, q4, r0, r1, r2, r3, r4, z6]) rfl (TermPost.bad HR.out ?_)
      exact ext_alloc (set5_below HBL.out (Nat.le_refl _) _ _ _ _ _) _
end Wh
