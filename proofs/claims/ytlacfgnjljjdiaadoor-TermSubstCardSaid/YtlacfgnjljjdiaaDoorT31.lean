import Derived.Test.YtlacfgnjljjdiaaDoorT30
import Derived.Lib.SmallJoins
set_option linter.unusedVariables false
set_option linter.unusedSimpArgs false
open Go Go.RowKit Go.Proofs
namespace Wh
theorem var_below {B : Nat} {w w' : World} (hb : Below B w w') {nm : String} {g : Nat} (hg : Tryd.prog.globalNamed nm = some g) (hB : g < B) : w'.var? Tryd.prog nm = w.var? Tryd.prog nm := by
  unfold World.var?
  rw [hg]
  simp only [Option.bind_some]
  rw [hb.block g hB]
theorem gSyn : ∃ g, Tryd.prog.globalNamed "strconv.ErrSyntax" = some g := Option.isSome_iff_exists.1 (by kernel_rfl)
theorem gRng : ∃ g, Tryd.prog.globalNamed "strconv.ErrRange" = some g := Option.isSome_iff_exists.1 (by kernel_rfl)
/-- The library's variables. -/
structure Env2 (B : Nat) (w : World) : Prop where
  env : Env B w
  syn : ∃ tp p, w.var? Tryd.prog "strconv.ErrSyntax" = some #[.iface tp p]
  rng : ∃ tp p, w.var? Tryd.prog "strconv.ErrRange" = some #[.iface tp p]
  synB : ∀ g, Tryd.prog.globalNamed "strconv.ErrSyntax" = some g → g < B
  rngB : ∀ g, Tryd.prog.globalNamed "strconv.ErrRange" = some g → g < B
theorem Env2.below {B : Nat} {w w' : World} (h : Env2 B w) (hb : Below B w w') : Env2 B w' := by
  obtain ⟨h1, h2, h3, h4, h5⟩ := h
  obtain ⟨g, hg⟩ := gSyn
  obtain ⟨k, hk⟩ := gRng
  exact ⟨h1.below hb, by rw [var_below hb hg (h4 g hg)]; exact h2, by rw [var_below hb hk (h5 k hk)]; exact h3, h4, h5⟩
theorem Env2.ext {B : Nat} {w w' : World} (h : Env2 B w) (hb : Below w.heap.size w w') : Env2 B w' := h.below (hb.mono h.env.1)
/-- The number that a text spells, at most so great. -/
def numOf (s : List UInt8) (most : Nat) : Option Nat := match Lib.parseUintB 64 s with
  | .ok u => if u ≤ most ∧ Lib.decDigits u = s then some u else none
  | _ => none
def NumPost (w : World) (r : Option Nat) (e : Ending) (w' : World) : Prop := Below w.heap.size w w' ∧ match r with
  | some n => e = .returned (.int .i64 n)
  | none => e = .panicked (thrown 4)
theorem NumPost.mk_none {w w' : World} {r : Option Nat} (h : Below w.heap.size w w') (hr : r = none) : NumPost w r (.panicked (thrown 4)) w' := by subst hr; exact ⟨h, rfl⟩
theorem NumPost.mk_some {w w' : World} {r : Option Nat} {n : Nat} (h : Below w.heap.size w w') (hr : r = some n) : NumPost w r (.returned (.int .i64 n)) w' := by subst hr; exact ⟨h, rfl⟩
theorem bytes_eq {s : ByteArray} {l : List UInt8} : (⟨l.toArray⟩ : ByteArray) = s ↔ l = s.data.toList := by
  constructor
  · rintro rfl
    simp
  · rintro rfl
    simp
set_option maxHeartbeats 1000000 in
set_option maxRecDepth 100000 in
theorem number_calls (B : Nat) (s : ByteArray) (most : Nat) (hm : most ≤ 4294967295) (hs : s.size ≤ 281474976710656) (w : World) (henv : Env2 B w) :
    Calls Tryd.prog 46 #[.string s, .int .u64 (most : Int)] w (NumPost w (numOf s.data.toList most)) := by
  obtain ⟨tp, p, hsyn⟩ := henv.syn
  obtain ⟨tq, q, hrng⟩ := henv.rng
  have HE := Lib.hid henv
  clear henv
  rcases hp : Lib.parseUintB 64 s.data.toList with u | _ | _
  · have hc := Tryd.strconv_ParseUint_10_at64_ok s (by omega) u hp w
    have hc2 : Calls Tryd.prog 65 #[.string s, .int .i64 10, .int .i64 64] w fun e w' => e = .returned (.tuple #[.int .u64 u, .nilIface]) ∧ Below w.heap.size w w' := by
      refine hc.mono ?_
      rintro e w' ⟨rfl, rfl | rfl⟩
      · exact ⟨rfl, Below.refl _ _⟩
      · exact ⟨rfl, Go.Joins.below_bytesWorld _ _ _ _ (Nat.le_refl _)⟩
    have HC := Lib.hid hc2
    clear hc hc2 hsyn hrng
    by_cases hle : u ≤ most
    · have hle2 : (u : Int) ≤ most := by omega
      have hd1 : decide (u ≤ most) = true := decide_eq_true hle
      have hfu : ∀ W, Below w.heap.size w W → Calls Tryd.prog 66 #[.int .u64 (u : Int), .int .i64 10] W fun e w' => e = .returned (.string ⟨(Lib.decDigits u).toArray⟩) ∧ Below W.heap.size W w' := fun W hb => formatUint_calls B u (by omega) W (HE.out.ext hb).env
      have HFU := Lib.hid hfu
      have hw : IntKind.i64.wrap (u : Int) = u := wrap_id _ (by omega) (by omega)
      clear hfu
      by_cases heq : Lib.decDigits u = s.data.toList
      · have hr : numOf s.data.toList most = some u := by simp [numOf, hp, hle, heq]
        rw [bytes_eq.2 heq] at HFU
        have HR := Lib.hid hr
        clear hp hr heq
        go_enter Tryd.func46, Tryd.ntmps46
        go_wp2_with (first
          | (go_at_call 65; refine HC.out.mono ?_; rintro e w2 ⟨rfl, hb⟩; have HB := Lib.hid hb; have z2 := hb.size; clear hb)
          | (go_at_call 66; refine (HFU.out _ HB.out).mono ?_; rintro e w3 ⟨rfl, hb⟩; have HB3 := Lib.hid hb; clear hb)
          | (go_at_call 29; with_reducible refine Calls.mono (must_true _ _) ?_; rintro e w' ⟨rfl, rfl⟩))
        go_ret
        exact NumPost.mk_some (Below.trans HB.out (HB3.out.mono z2)) HR.out
      · have hr : numOf s.data.toList most = none := by simp [numOf, hp, heq]
        have hst := str_no (fun h => heq (bytes_eq.1 h))
        have HR := Lib.hid hr
        clear hp hr heq
        generalize (⟨(Lib.decDigits u).toArray⟩ : ByteArray) = x at *
        go_enter Tryd.func46, Tryd.ntmps46
        go_wp2_with (first
          | (go_at_call 65; refine HC.out.mono ?_; rintro e w2 ⟨rfl, hb⟩; have HB := Lib.hid hb; have z2 := hb.size; clear hb)
          | (go_at_call 66; refine (HFU.out _ HB.out).mono ?_; rintro e w3 ⟨rfl, hb⟩; have HB3 := Lib.hid hb; clear hb)
          | (go_at_call 29; with_reducible refine Calls.mono (must_false _ _) ?_; rintro e w' ⟨rfl, rfl⟩))
        exact ⟨rfl, NumPost.mk_none (Below.trans HB.out (HB3.out.mono z2)) HR.out⟩
    · have hr : numOf s.data.toList most = none := by simp [numOf, hp, hle]
      have hle2 : (most : Int) < u := by omega
      have hd1 : decide (u ≤ most) = false := decide_eq_false hle
      have HR := Lib.hid hr
      clear hp hr
      go_enter Tryd.func46, Tryd.ntmps46
      go_wp2_with (first
        | (go_at_call 65; refine HC.out.mono ?_; rintro e w2 ⟨rfl, hb⟩; have HB := Lib.hid hb; clear hb)
        | (go_at_call 29; with_reducible refine Calls.mono (must_false _ _) ?_; rintro e w' ⟨rfl, rfl⟩))
      exact ⟨rfl, NumPost.mk_none HB.out HR.out⟩
  · have hr : numOf s.data.toList most = none := by simp [numOf, hp]
    have hc := Tryd.strconv_ParseUint_10_at64_syntax_var s hs hp tp p w hsyn
    have HC := Lib.hid hc
    have HR := Lib.hid hr
    clear hp hc hr hsyn hrng
    go_enter Tryd.func46, Tryd.ntmps46
    go_wp2_with (first
      | (go_at_call 65; refine HC.out.mono ?_; rintro e w' ⟨N, rfl, _, _, hb⟩; have HB := Lib.hid hb; clear hb)
      | (go_at_call 29; refine (must_false _ _).mono ?_; rintro e w' ⟨rfl, rfl⟩))
    exact ⟨rfl, NumPost.mk_none HB.out HR.out⟩
  · have hr : numOf s.data.toList most = none := by simp [numOf, hp]
    have hc := Tryd.strconv_ParseUint_10_at64_range_var s hs hp tq q w hrng
    have HC := Lib.hid hc
    have HR := Lib.hid hr
    clear hp hc hr hsyn hrng
    go_enter Tryd.func46, Tryd.ntmps46
    go_wp2_with (first
      | (go_at_call 65; refine HC.out.mono ?_; rintro e w' ⟨N, rfl, _, _, hb⟩; have HB := Lib.hid hb; clear hb)
      | (go_at_call 29; refine (must_false _ _).mono ?_; rintro e w' ⟨rfl, rfl⟩))
    exact ⟨rfl, NumPost.mk_none HB.out HR.out⟩
/-! ### the reader -/
/-- A reader that has s before it. -/
def Rd (w : World) (b : Nat) (s : ByteArray) : Prop := Blk w b #[.string s] 68
def UntilPost (w : World) (b : Nat) (s : ByteArray) (c : UInt8) (e : Ending) (w' : World) : Prop := w.grownBy w' (some b) ∧ ((cutS s c).2.2 = true ∧ e = .returned (.string (cutS s c).1) ∧ Rd w' b (cutS s c).2.1 ∨ (cutS s c).2.2 = false ∧ e = .panicked (thrown 4))
theorem UntilPost.good {w w' : World} {b : Nat} {s : ByteArray} {c : UInt8} {x y : ByteArray} (h : cutS s c = (x, y, true)) (hg : w.grownBy w' (some b)) (hr : Rd w' b y) : UntilPost w b s c (.returned (.string x)) w' := ⟨hg, .inl (by rw [h]; exact ⟨rfl, rfl, hr⟩)⟩
theorem UntilPost.bad {w w' : World} {b : Nat} {s : ByteArray} {c : UInt8} {x y : ByteArray} (h : cutS s c = (x, y, false)) (hg : w.grownBy w' (some b)) : UntilPost w b s c (.panicked (thrown 4)) w' := ⟨hg, .inr (by rw [h]; exact ⟨rfl, rfl⟩)⟩
set_option maxHeartbeats 1000000 in
theorem until_calls (b : Nat) (s : ByteArray) (c : UInt8) (w : World) (h : Rd w b s) (hs : s.size ≤ 4611686018427387904) :
    Calls Tryd.prog 45 #[.pointer (some ⟨b, 0, none⟩), .string ⟨#[c]⟩] w (UntilPost w b s c) := by
  have hc := fun W => strCut_calls s c W hs
  obtain ⟨k0, f0⟩ := Blk.c1 h
  have hb := h.lt
  have H := Lib.hid h
  have HC := Lib.hid hc
  clear h hc hs
  obtain ⟨x, y, f, hr⟩ : ∃ x y f, cutS s c = (x, y, f) := ⟨_, _, _, rfl⟩
  rw [hr] at HC
  have HR := Lib.hid hr
  clear hr
  dsimp only at HC
  cases f
  · go_enter Tryd.func45, Tryd.ntmps45
    go_wp2_with (first
      | (go_at_call 49; refine (HC.out _).mono ?_; rintro e w2 ⟨rfl, n, rfl⟩)
      | (go_at_call 29; with_reducible refine Calls.mono (must_false _ _) ?_; rintro e w' ⟨rfl, rfl⟩))
    exact ⟨rfl, UntilPost.bad HR.out (grown_drewN (grown_refl _ _) _)⟩
  · go_enter Tryd.func45, Tryd.ntmps45
    go_wp2_with (first
      | (go_at_call 49; refine (HC.out _).mono ?_; rintro e w2 ⟨rfl, n, rfl⟩)
      | (go_at_call 29; with_reducible refine Calls.mono (must_true _ _) ?_; rintro e w' ⟨rfl, rfl⟩))
    go_ret
    exact UntilPost.good HR.out (grown_set (grown_drewN (grown_refl _ _) _) (.inl rfl) _) ((Blk.drewN H.out).set 0 _)
theorem byte_at (s : ByteArray) (n : Nat) (h : n < s.size) : s.data.toList[n]? = some s[n] := by rw [List.getElem?_eq_getElem (by simpa using h)]; rfl
/-- What 'name' makes of a text: so many bytes, behind which a space stands. -/
def NamePost (w : World) (b : Nat) (s : ByteArray) (n : Nat) (e : Ending) (w' : World) : Prop := w.grownBy w' (some b) ∧ (s.data.toList[n]? = some 32 ∧ e = .returned (.string (s.extract 0 n)) ∧ Rd w' b (s.extract (n + 1) s.size) ∨ s.data.toList[n]? ≠ some 32 ∧ e = .panicked (thrown 4))
theorem NamePost.good {w w' : World} {b : Nat} {s : ByteArray} {n : Nat} (h : s.data.toList[n]? = some 32) (hg : w.grownBy w' (some b)) (hr : Rd w' b (s.extract (n + 1) s.size)) : NamePost w b s n (.returned (.string (s.extract 0 n))) w' := ⟨hg, .inl ⟨h, rfl, hr⟩⟩
theorem NamePost.bad {w w' : World} {b : Nat} {s : ByteArray} {n : Nat} (h : s.data.toList[n]? ≠ some 32) (hg : w.grownBy w' (some b)) : NamePost w b s n (.panicked (thrown 4)) w' := ⟨hg, .inr ⟨h, rfl⟩⟩
set_option maxHeartbeats 1000000 in
theorem rname_calls (b : Nat) (s : ByteArray) (n : Nat) (w : World) (h : Rd w b s) (hs : s.size ≤ 4611686018427387904) :
    Calls Tryd.prog 47 #[.pointer (some ⟨b, 0, none⟩), .int .i64 (n : Int)] w (NamePost w b s n) := by
  obtain ⟨k0, f0⟩ := Blk.c1 h
  have hb := h.lt
  have H := Lib.hid h
  clear h
  by_cases hn : n < s.size
  · have d1 : decide (n < s.size) = true := decide_eq_true hn
    have hn2 : (n : Int) < s.size := by omega
    have hn3 : (0 : Int) ≤ n := by omega
    by_cases h32 : s[n] = 32
    · have hgd : s.data.toList[n]? = some 32 := by rw [byte_at s n hn, h32]
      have HG := Lib.hid hgd
      have e1 : (s[n].toNat : Int) = 32 := by rw [h32]; rfl
      have w1 : IntKind.i64.wrap ((n : Int) + 1) = (n : Int) + 1 := wrap_id _ (by omega) (by omega)
      clear hgd h32
      go_enter Tryd.func47, Tryd.ntmps47
      go_wp2_with (go_at_call 29; with_reducible refine Calls.mono (must_true _ _) ?_; rintro e w' ⟨rfl, rfl⟩)
      go_ret
      exact NamePost.good HG.out (grown_set (grown_refl _ _) (.inl rfl) _) (H.out.set 0 _)
    · have hgd : s.data.toList[n]? ≠ some 32 := by rw [byte_at s n hn]; exact fun h => h32 (by injection h)
      have HG := Lib.hid hgd
      have e1 : ((s[n].toNat : Int) == 32) = false := by rw [beq_eq_false_iff_ne]; exact fun h => h32 (by rw [← UInt8.toNat_inj]; exact Int.ofNat.inj h)
      clear hgd h32
      go_enter Tryd.func47, Tryd.ntmps47
      go_wp2_with (go_at_call 29; with_reducible refine Calls.mono (must_false _ _) ?_; rintro e w' ⟨rfl, rfl⟩)
      exact ⟨rfl, NamePost.bad HG.out (grown_refl _ _)⟩
  · have d1 : decide (n < s.size) = false := decide_eq_false hn
    have hgd : s.data.toList[n]? ≠ some 32 := by rw [List.getElem?_eq_none (by simpa using hn)]; simp
    have HG := Lib.hid hgd
    clear hgd
    go_enter Tryd.func47, Tryd.ntmps47
    go_wp2_with (go_at_call 29; with_reducible refine Calls.mono (must_false _ _) ?_; rintro e w' ⟨rfl, rfl⟩)
    exact ⟨rfl, NamePost.bad HG.out (grown_refl _ _)⟩
end Wh
