import Derived.Test.YtlacfgnjljjdiaaDoorT2
import Derived.Deep.QuietTactic
import Derived.BigQuiet
import Derived.Outline
set_option linter.unusedVariables false
set_option linter.unusedSimpArgs false
open Go Go.RowKit Go.Proofs
namespace Wh
/-- What a function that only looks hands back: the world has at most drawn orders, and new blocks. -/
def Tells (w : World) (v : Value) (e : Ending) (w' : World) : Prop := e = .returned v ∧ Below w.heap.size w w'
theorem below_drewN {a w : World} {B : Nat} (h : Below B a w) (n : Nat) : Below B a (w.drewN n) := ⟨h.os, h.tape, h.output, h.size, h.block⟩
set_option maxHeartbeats 400000 in
theorem sameLimbs_calls (w : World) (ok1 ok2 : Nat → Prop) (xs ys : List Int) (a b : Value)
   (ha : D.rd w ok1 (.ints 53 .u32 xs) a) (hb : D.rd w ok2 (.ints 53 .u32 ys) b) :
   Calls Tryd.prog 53 #[a, b] w (Tells w (.bool (decide (xs = ys)))) := by
  obtain ⟨A, c, rfl, hl, _, hA⟩ := D.rd_ints ha
  obtain ⟨B, c', rfl, hl', _, hB⟩ := D.rd_ints hb
  clear ha hb
  by_cases hlen : xs.length = ys.length
  · have h1 : ((xs.length : Int) != (ys.length : Int)) = false := by simp [hlen]
    have HL := Lib.hid hlen
    have HA := Lib.hid hA
    have HB := Lib.hid hB
    clear hlen hA hB
    go_enter Tryd.func53, Tryd.ntmps53
    go_wp2_with fail
    go_loopw [5] (fun i wr => ∃ k n : Nat, k ≤ xs.length ∧ i = .int .i64 k ∧ wr = w.drewN n ∧ xs.take k = ys.take k) (fun i _ => xs.length - (intOf i).toNat)
    case atStart => exact ⟨0, 0, Nat.zero_le _, rfl, rfl, rfl⟩
    case round =>
      obtain ⟨k, n, hk, rfl, rfl, ht⟩ := hrel
      have HT := Lib.hid ht
      clear ht
      by_cases hlt : k < xs.length
      · obtain ⟨g, o, x, rfl, _, hx, hc⟩ := HA.out k hlt
        obtain ⟨g', o', y, rfl, _, hy, hc'⟩ := HB.out k (HL.out ▸ hlt)
        have hlt2 : k < ys.length := HL.out ▸ hlt
        have HX := Lib.hid hx
        have HY := Lib.hid hy
        clear hx hy HA HB
        have b1 : (0 : Int) ≤ k := by omega
        have b2 : (k : Int) < xs.length := by omega
        have b3 : (k : Int) < ys.length := by omega
        by_cases he : x = y
        · have he1 : (x != y) = false := by simp [he]
          have HE := Lib.hid he
          clear he
          go_wp2_with fail
          go_quiet (fail)
          go_wp2_with fail
          go_roundw
          case rel => exact ⟨k + 1, _, by omega, by go_num, rfl, take_eq_succ HT.out HX.out HY.out HE.out⟩
          case measure => simp [intOf]; omega
        · have he1 : (x != y) = true := by simpa using he
          have HE := Lib.hid he
          clear he
          go_wp2_with fail
          go_quiet (fail)
          go_wp2_with fail
          go_ret
          exact ⟨ret_ndec (take_ne HX.out HY.out HE.out), below_drewN (below_drewN (Below.refl _ _) _) _⟩
      · go_wp2_with fail
        go_ret
        exact ⟨ret_dec (take_all HL.out hlt HT.out), below_drewN (Below.refl _ _) _⟩
  · have h1 : ((xs.length : Int) != (ys.length : Int)) = true := by simp; omega
    have hne : xs ≠ ys := fun h => hlen (by rw [h])
    have HN := Lib.hid hne
    clear hne hlen
    go_enter Tryd.func53, Tryd.ntmps53
    go_wp2_with fail
    go_ret
    exact ⟨ret_ndec HN.out, Below.refl _ _⟩
theorem sameInt_calls (w : World) (ok1 ok2 : Nat → Prop) (n m : Bool) (xs ys : List Int) (a b : Value)
   (ha : D.rd w ok1 (.ints 53 .u32 xs) a) (hb : D.rd w ok2 (.ints 53 .u32 ys) b) :
   Calls Tryd.prog 32 #[.agg #[.bool n, a], .agg #[.bool m, b]] w (Tells w (.bool (n == m && decide (xs = ys)))) := by
  obtain ⟨A, c, rfl, _⟩ := D.rd_ints ha
  obtain ⟨B, c', rfl, _⟩ := D.rd_ints hb
  have hcall : ∀ W, Below w.heap.size w W → Calls Tryd.prog 53 #[.slice A xs.length c, .slice B ys.length c'] W (Tells W (.bool (decide (xs = ys)))) := fun W h => sameLimbs_calls W ok1 ok2 xs ys _ _ (D.rd_ext ha h) (D.rd_ext hb h)
  have HC := Lib.hid hcall
  clear ha hb hcall
  cases n <;> cases m
  all_goals
    go_enter Tryd.func32, Tryd.ntmps32
    go_wp2_with (go_at_call 53; refine (HC.out _ (ext_alloc (ext_alloc (Below.refl _ _) _) _)).mono ?_; rintro e w2 ⟨rfl, hb2⟩; have HB2 := Lib.hid hb2; clear hb2)
    go_ret
  · exact ⟨by simp, Below.trans (ext_alloc (ext_alloc (Below.refl _ _) _) _) (HB2.out.mono (by simp; omega))⟩
  · exact ⟨by simp, (ext_alloc (ext_alloc (Below.refl _ _) _) _)⟩
  · exact ⟨by simp, (ext_alloc (ext_alloc (Below.refl _ _) _) _)⟩
  · exact ⟨by simp, Below.trans (ext_alloc (ext_alloc (Below.refl _ _) _) _) (HB2.out.mono (by simp; omega))⟩
noncomputable instance instDecTm : DecidableEq Tm := fun a b => Classical.propDecidable (a = b)
theorem Tells.mono {w w1 : World} {v : Value} {e : Ending} {w2 : World} (h : Tells w1 v e w2) (hb : Below w.heap.size w w1) : Tells w v e w2 := ⟨h.1, Below.trans hb (h.2.mono hb.size)⟩
/-- SameTerm's contract at one term. -/
def SameAt (t : Tm) : Prop := ∀ (u : Tm) (w : World) (ok1 ok2 : Nat → Prop) (us vs : List Value), D.rdRow w ok1 t.enc us → D.rdRow w ok2 u.enc vs → Calls Tryd.prog 11 #[.agg us.toArray, .agg vs.toArray] w (Tells w (.bool (decide (t = u))))
set_option maxHeartbeats 1000000 in
set_option maxRecDepth 100000 in
theorem sameTerm_step (kind : Int) (name : ByteArray) (neg : Bool) (ds : List Int) (ks : List Tm)
   (hks : ∀ (us : List Tm) (w : World) (ok1 ok2 : Nat → Prop) (a b : Value), D.rd w ok1 (.row 28 5 (Tm.encs ks)) a → D.rd w ok2 (.row 28 5 (Tm.encs us)) b → Calls Tryd.prog 33 #[a, b] w (Tells w (.bool (decide (ks = us))))) : SameAt (.mk kind name neg ds ks) := by
  rintro ⟨kind2, name2, neg2, ds2, ks2⟩ w ok1 ok2 us vs hr hr2
  obtain ⟨dA, dc, kA, kc, rfl, hd, hk⟩ := Tm.open hr
  obtain ⟨eA, ec, lA, lc, rfl, he, hl⟩ := Tm.open hr2
  have hint : ∀ W, Below w.heap.size w W → Calls Tryd.prog 32 #[.agg #[.bool neg, .slice dA ds.length dc], .agg #[.bool neg2, .slice eA ds2.length ec]] W (Tells W (.bool (neg == neg2 && decide (ds = ds2)))) := fun W h => sameInt_calls W ok1 ok2 neg neg2 ds ds2 _ _ (D.rd_ext hd h) (D.rd_ext he h)
  have hkid : ∀ W, Below w.heap.size w W → Calls Tryd.prog 33 #[.slice kA ks.length kc, .slice lA ks2.length lc] W (Tells W (.bool (decide (ks = ks2)))) := fun W h => hks ks2 W ok1 ok2 _ _ (D.rd_ext hk h) (D.rd_ext hl h)
  have HI := Lib.hid hint
  have HK := Lib.hid hkid
  clear hr hr2 hd hk he hl hint hkid hks
  by_cases h1 : kind = kind2
  · have g1 : (kind == kind2) = true := by simp [h1]
    by_cases h2 : name = name2
    · have g2 := str_yes h2
      by_cases h3 : neg = neg2 ∧ ds = ds2
      · have g3 : (neg == neg2 && decide (ds = ds2)) = true := by simp [h3]
        rw [g3] at HI
        have E : decide (Tm.mk kind name neg ds ks = Tm.mk kind2 name2 neg2 ds2 ks2) = decide (ks = ks2) := by simp [h1, h2, h3]
        rw [E]
        clear h1 h2 h3 g3 E
        go_enter Tryd.func11, Tryd.ntmps11
        go_wp2_with (first | (go_at_call 32; refine (HI.out _ (ext_alloc (ext_alloc (Below.refl _ _) _) _)).mono ?_; rintro e w2 ⟨rfl, hb2⟩; have hb3 := Below.trans (ext_alloc (ext_alloc (Below.refl w.heap.size w) _) _) (hb2.mono (by simp; omega)); have hz := hb2.size; simp at hz; have hp := Blk.below (Blk.alloc (Blk.new w (#[.int .u8 kind, .string name, .bool neg, .slice dA ds.length dc, .slice kA ks.length kc]) 28) _) hb2 (by simp; omega); have hq := Blk.below (Blk.new' (w.alloc (.cells #[.int .u8 kind, .string name, .bool neg, .slice dA ds.length dc, .slice kA ks.length kc] 28)) (#[.int .u8 kind2, .string name2, .bool neg2, .slice eA ds2.length ec, .slice lA ks2.length lc]) 28 (n := w.heap.size + 1) (by simp)) hb2 (by simp); obtain ⟨⟨_, _, _, _, p4⟩, _⟩ := Blk.c5 hp; obtain ⟨⟨_, _, _, _, q4⟩, _⟩ := Blk.c5 hq; have HB2 := Lib.hid hb2; have HB3 := Lib.hid hb3; clear hb2 hb3 hp hq) | (go_at_call 33; refine (HK.out _ HB3.out).mono ?_; rintro e w3 ⟨rfl, hb4⟩; have HB4 := Lib.hid hb4; clear hb4))
        go_ret
        exact ⟨by simp, Below.trans HB3.out (HB4.out.mono (by omega))⟩
      · have g3 : (neg == neg2 && decide (ds = ds2)) = false := by
          rw [Bool.eq_false_iff]
          intro h
          simp at h
          exact h3 h
        rw [g3] at HI
        have E : decide (Tm.mk kind name neg ds ks = Tm.mk kind2 name2 neg2 ds2 ks2) = false := decide_eq_false (by
          intro h
          injection h with _ _ h4 h5
          exact h3 ⟨h4, h5⟩)
        rw [E]
        clear h1 h2 h3 g3 E
        go_enter Tryd.func11, Tryd.ntmps11
        go_wp2_with (first | (go_at_call 32; refine (HI.out _ (ext_alloc (ext_alloc (Below.refl _ _) _) _)).mono ?_; rintro e w2 ⟨rfl, hb2⟩; have hb3 := Below.trans (ext_alloc (ext_alloc (Below.refl w.heap.size w) _) _) (hb2.mono (by simp; omega)); have hz := hb2.size; simp at hz; have hp := Blk.below (Blk.alloc (Blk.new w (#[.int .u8 kind, .string name, .bool neg, .slice dA ds.length dc, .slice kA ks.length kc]) 28) _) hb2 (by simp; omega); have hq := Blk.below (Blk.new' (w.alloc (.cells #[.int .u8 kind, .string name, .bool neg, .slice dA ds.length dc, .slice kA ks.length kc] 28)) (#[.int .u8 kind2, .string name2, .bool neg2, .slice eA ds2.length ec, .slice lA ks2.length lc]) 28 (n := w.heap.size + 1) (by simp)) hb2 (by simp); obtain ⟨⟨_, _, _, _, p4⟩, _⟩ := Blk.c5 hp; obtain ⟨⟨_, _, _, _, q4⟩, _⟩ := Blk.c5 hq; have HB2 := Lib.hid hb2; have HB3 := Lib.hid hb3; clear hb2 hb3 hp hq) | (go_at_call 33; refine (HK.out _ HB3.out).mono ?_; rintro e w3 ⟨rfl, hb4⟩; have HB4 := Lib.hid hb4; clear hb4))
        go_ret
        exact ⟨by simp, HB3.out⟩
    · have g2 := str_no h2
      have E : decide (Tm.mk kind name neg ds ks = Tm.mk kind2 name2 neg2 ds2 ks2) = false := decide_eq_false (by
        intro h
        injection h with _ h4
        exact h2 h4)
      rw [E]
      clear h1 h2 E
      go_enter Tryd.func11, Tryd.ntmps11
      go_wp2_with fail
      go_ret
      exact ⟨by simp, ext_alloc (ext_alloc (Below.refl _ _) _) _⟩
  · have g1 : (kind == kind2) = false := by simpa using h1
    have E : decide (Tm.mk kind name neg ds ks = Tm.mk kind2 name2 neg2 ds2 ks2) = false := decide_eq_false (by
      intro h
      injection h with h4
      exact h1 h4)
    rw [E]
    clear h1 E
    go_enter Tryd.func11, Tryd.ntmps11
    go_wp2_with fail
    go_ret
    exact ⟨by simp, ext_alloc (ext_alloc (Below.refl _ _) _) _⟩
theorem encs_len (ks : List Tm) : (Tm.encs ks).length = ks.length := by simp [Tm.encs_eq]
theorem rd_terms_A {w : World} {ok : Nat → Prop} {ks : List Tm} {v : Value} (h : D.rd w ok (.row 28 5 (Tm.encs ks)) v) : ∃ A c, v = .slice A ks.length c ∧ ks.length ≤ 9223372036854775807 := by
  obtain ⟨A, c, h1, h2, _⟩ := D.rd_slice h
  rw [encs_len] at h1 h2
  exact ⟨A, c, h1, h2⟩
set_option maxHeartbeats 1000000 in
set_option maxRecDepth 100000 in
theorem sameTerms_step (xs : List Tm) (ih : ∀ t ∈ xs, SameAt t) (ys : List Tm) (w : World) (ok1 ok2 : Nat → Prop) (a b : Value) (ha : D.rd w ok1 (.row 28 5 (Tm.encs xs)) a) (hb : D.rd w ok2 (.row 28 5 (Tm.encs ys)) b) :
    Calls Tryd.prog 33 #[a, b] w (Tells w (.bool (decide (xs = ys)))) := by
  obtain ⟨A, c, rfl, hl⟩ := rd_terms_A ha
  obtain ⟨B, c', rfl, hl'⟩ := rd_terms_A hb
  by_cases hlen : xs.length = ys.length
  · have h1 : ((xs.length : Int) != (ys.length : Int)) = false := by simp [hlen]
    have HL := Lib.hid hlen
    have HA := Lib.hid ha
    have HB := Lib.hid hb
    have HI := Lib.hid ih
    clear hlen ha hb ih
    go_enter Tryd.func33, Tryd.ntmps33
    go_wp2_with fail
    go_loopw [5] (fun i wr => ∃ k : Nat, k ≤ xs.length ∧ i = .int .i64 k ∧ Below w.heap.size w wr ∧ xs.take k = ys.take k) (fun i _ => xs.length - (intOf i).toNat)
    case atStart => exact ⟨0, Nat.zero_le _, rfl, Below.refl _ _, rfl⟩
    case round =>
      obtain ⟨k, hk, rfl, hbw, ht⟩ := hrel
      have HT := Lib.hid ht
      have HBW := Lib.hid hbw
      have hsz := hbw.size
      clear ht hbw
      by_cases hlt : k < xs.length
      · have hlt2 : k < ys.length := HL.out ▸ hlt
        obtain ⟨g, o, kd, nm, ng, xd, ls, dA, dc, lA, lc, rfl, _, hg, hkk, hr, c0, c1, c2, c3, c4⟩ := Tm.kid (D.rd_ext HA.out HBW.out) k hlt
        obtain ⟨g', o', kd', nm', ng', xd', ls', dA', dc', lA', lc', rfl, _, hg', hkk', hr', d0, d1, d2, d3, d4⟩ := Tm.kid (D.rd_ext HB.out HBW.out) k hlt2
        have HK1 := Lib.hid hkk
        have HK2 := Lib.hid hkk'
        have HR1 := Lib.hid hr
        have HR2 := Lib.hid hr'
        clear hkk hkk' hr hr'
        have b1 : (0 : Int) ≤ k := by omega
        have b2 : (k : Int) < xs.length := by omega
        have b3 : (k : Int) < ys.length := by omega
        have hcall := HI.out (xs[k]) (List.getElem_mem hlt)
        rw [HK1.out] at hcall
        have HC := Lib.hid hcall
        clear hcall
        by_cases he : xs[k] = ys[k]
        · have E : decide (Tm.mk kd nm ng xd ls = Tm.mk kd' nm' ng' xd' ls') = true := decide_eq_true (by rw [← HK1.out, ← HK2.out, he])
          have HE := Lib.hid he
          clear he
          go_wp2_with fail
          go_region_law (refine step_call 11 rfl (by go_simp; rfl) ?_; refine (HC.out _ _ ok1 ok2 _ _ (D.rdRow_ext HR1.out (by repeat (first | (with_reducible refine Below.drew ?_) | (with_reducible exact Below.refl _ _)))) (D.rdRow_ext HR2.out (by repeat (first | (with_reducible refine Below.drew ?_) | (with_reducible exact Below.refl _ _))))).mono ?_; rintro e w2 ⟨rfl, hb2⟩; have hz := hb2.size; have hz' : w.heap.size ≤ wr.drew.heap.size := hsz; have HB2 := Lib.hid hb2; clear hb2; rw [E])
          all_goals
            go_wp2_with fail
            go_roundw
            case rel => exact ⟨k + 1, by omega, by go_num, Below.trans HBW.out.drew (HB2.out.mono hz'), take_eq_succ HT.out (List.getElem?_eq_getElem hlt) (List.getElem?_eq_getElem hlt2) HE.out⟩
            case measure => simp [intOf]; omega
        · have E : decide (Tm.mk kd nm ng xd ls = Tm.mk kd' nm' ng' xd' ls') = false := decide_eq_false (by rw [← HK1.out, ← HK2.out]; exact he)
          have HE := Lib.hid he
          clear he
          go_wp2_with fail
          go_region_law (refine step_call 11 rfl (by go_simp; rfl) ?_; refine (HC.out _ _ ok1 ok2 _ _ (D.rdRow_ext HR1.out (by repeat (first | (with_reducible refine Below.drew ?_) | (with_reducible exact Below.refl _ _)))) (D.rdRow_ext HR2.out (by repeat (first | (with_reducible refine Below.drew ?_) | (with_reducible exact Below.refl _ _))))).mono ?_; rintro e w2 ⟨rfl, hb2⟩; have hz := hb2.size; have hz' : w.heap.size ≤ wr.drew.heap.size := hsz; have HB2 := Lib.hid hb2; clear hb2; rw [E])
          all_goals
            go_wp2_with fail
            go_ret
            exact ⟨ret_ndec (take_ne (List.getElem?_eq_getElem hlt) (List.getElem?_eq_getElem hlt2) HE.out), Below.trans HBW.out.drew (HB2.out.mono hz')⟩
      · go_wp2_with fail
        go_ret
        exact ⟨ret_dec (take_all HL.out hlt HT.out), HBW.out⟩
  · have h1 : ((xs.length : Int) != (ys.length : Int)) = true := by simp; omega
    have hne : xs ≠ ys := fun h => hlen (by rw [h])
    have HN := Lib.hid hne
    clear hne hlen
    go_enter Tryd.func33, Tryd.ntmps33
    go_wp2_with fail
    go_ret
    exact ⟨ret_ndec HN.out, Below.refl _ _⟩
mutual
theorem sameTerm_calls : ∀ t : Tm, SameAt t
  | .mk kind name neg ds ks => sameTerm_step kind name neg ds ks (fun us w ok1 ok2 a b ha hb => sameTerms_step ks (sameTerm_all ks) us w ok1 ok2 a b ha hb)
theorem sameTerm_all : ∀ l : List Tm, ∀ t ∈ l, SameAt t
  | [], t, h => by simp at h
  | x :: xs, t, h => by
    rcases List.mem_cons.1 h with h | h
    · rw [h]
      exact sameTerm_calls x
    · exact sameTerm_all xs t h
end
theorem sameTerms_calls (xs ys : List Tm) (w : World) (ok1 ok2 : Nat → Prop) (a b : Value) (ha : D.rd w ok1 (.row 28 5 (Tm.encs xs)) a) (hb : D.rd w ok2 (.row 28 5 (Tm.encs ys)) b) :
    Calls Tryd.prog 33 #[a, b] w (Tells w (.bool (decide (xs = ys)))) := sameTerms_step xs (sameTerm_all xs) ys w ok1 ok2 a b ha hb
end Wh
