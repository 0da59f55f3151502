import Derived.Test.YtlacfgnjljjdiaaDoorS2
set_option linter.unusedVariables false
set_option linter.unusedSimpArgs false
open Go Go.RowKit Go.Proofs
namespace Wh
/-! ### kids, Right, all, app -/
def kidsOf (k : Int) : Option Int :=
  if k = 1 ∨ k = 2 ∨ k = 3 ∨ k = 4 then some 0 else if k = 6 ∨ k = 7 ∨ k = 10 then some 1 else if k = 8 ∨ k = 9 ∨ k = 13 then some 2 else if k = 5 ∨ k = 11 ∨ k = 12 then some (-1) else none
def KidsPost (w : World) (r : Option Int) (e : Ending) (w' : World) : Prop := w' = w ∧ match r with
  | some m => e = .returned (.int .i64 m)
  | none => e = .panicked (thrown 23)
set_option maxRecDepth 100000 in
theorem kids_calls (k : Int) (w : World) (hk : 0 ≤ k ∧ k ≤ 255) : Calls Tryd.prog 82 #[.int .u8 k] w (KidsPost w (kidsOf k)) := by
  by_cases h : (1 ≤ k ∧ k ≤ 13)
  · have : k = 1 ∨ k = 2 ∨ k = 3 ∨ k = 4 ∨ k = 5 ∨ k = 6 ∨ k = 7 ∨ k = 8 ∨ k = 9 ∨ k = 10 ∨ k = 11 ∨ k = 12 ∨ k = 13 := by omega
    clear h hk
    rcases this with rfl | rfl | rfl | rfl | rfl | rfl | rfl | rfl | rfl | rfl | rfl | rfl | rfl
    all_goals
      go_enter Tryd.func82, Tryd.ntmps82
      go_wp2_with fail
      go_ret
      exact ⟨rfl, by simp [kidsOf]⟩
  · have hr : kidsOf k = none := by
      unfold kidsOf
      rw [if_neg (by omega), if_neg (by omega), if_neg (by omega), if_neg (by omega)]
    rw [hr]
    have h1 : (k == 1) = false := beq_eq_false_iff_ne.2 (by omega)
    have h2 : (k == 2) = false := beq_eq_false_iff_ne.2 (by omega)
    have h3 : (k == 3) = false := beq_eq_false_iff_ne.2 (by omega)
    have h4 : (k == 4) = false := beq_eq_false_iff_ne.2 (by omega)
    have h5 : (k == 5) = false := beq_eq_false_iff_ne.2 (by omega)
    have h6 : (k == 6) = false := beq_eq_false_iff_ne.2 (by omega)
    have h7 : (k == 7) = false := beq_eq_false_iff_ne.2 (by omega)
    have h8 : (k == 8) = false := beq_eq_false_iff_ne.2 (by omega)
    have h9 : (k == 9) = false := beq_eq_false_iff_ne.2 (by omega)
    have h10 : (k == 10) = false := beq_eq_false_iff_ne.2 (by omega)
    have h11 : (k == 11) = false := beq_eq_false_iff_ne.2 (by omega)
    have h12 : (k == 12) = false := beq_eq_false_iff_ne.2 (by omega)
    have h13 : (k == 13) = false := beq_eq_false_iff_ne.2 (by omega)
    clear h hk hr
    go_enter Tryd.func82, Tryd.ntmps82
    go_wp2_with fail
    exact ⟨rfl, rfl, rfl⟩
/-! ### Right -/
def rightN (ds : List Int) : Bool := (ds.all fun d => decide (d < 1000000000)) && (decide (ds.length = 0) || decide (ds.getLast? ≠ some 0))
def rightI (g : Bool) (ds : List Int) : Bool := rightN ds && (!g || decide (0 < ds.length))
set_option maxHeartbeats 1000000 in
set_option maxRecDepth 100000 in
theorem natRight_calls (xs : List Int) (w : World) (ok : Nat → Prop) (a : Value) (ha : D.rd w ok (.ints 53 .u32 xs) a) : Calls Tryd.prog 100 #[a] w (Tells w (.bool (rightN xs))) := by
  obtain ⟨A, c, rfl⟩ := rd_ints_A ha
  have HA := Lib.hid ha
  have hlc := (D.rd_cap (by simpa [D.ints] using ha)).2
  obtain ⟨r, hrr⟩ : ∃ r, r = rightN xs := ⟨_, rfl⟩
  rw [← hrr]
  have HRR := Lib.hid hrr
  clear ha hrr
  go_enter Tryd.func100, Tryd.ntmps100
  go_wp2_with fail
  go_loopw [7] (fun i wr => ∃ k : Nat, k ≤ xs.length ∧ i = .int .i64 k ∧ wr = w ∧ Hid (∀ j (hj : j < xs.length), j < k → xs[j] < 1000000000)) (fun i _ => xs.length - (RowKit.intOf i).toNat)
  case atStart => exact ⟨0, Nat.zero_le _, rfl, rfl, Lib.hid (fun j hj h => absurd h (by omega))⟩
  case round =>
    obtain ⟨k, hk, rfl, rfl, HN⟩ := hrel
    by_cases hlt : k < xs.length
    · have b1 : (0 : Int) ≤ k := by omega
      have b2 : (k : Int) < xs.length := by omega
      obtain ⟨g, o, x, rfl, _, hg, hx, hc⟩ := D.ints_at HA.out k hlt
      have hxe : xs[k] = x := by
        rw [List.getElem?_eq_getElem hlt] at hx
        exact Option.some.inj hx
      have HXE := Lib.hid hxe
      clear hx hxe
      by_cases hbig : 1000000000 ≤ x
      · have hno : rightN xs = false := by
          have : (xs.all fun d => decide (d < 1000000000)) = false := by
            rw [List.all_eq_false]
            exact ⟨x, by rw [← HXE.out]; exact List.getElem_mem hlt, by simp; omega⟩
          simp [rightN, this]
        have HI := Lib.hid (show false = r by rw [HRR.out, hno])
        clear hno
        go_wp2_with fail
        go_ret
        exact ⟨ret_bool HI.out, Below.refl _ _⟩
      · have HK := Lib.hid (show ∀ j (hj : j < xs.length), j < k + 1 → xs[j] < 1000000000 from fun j hj h => by
          by_cases hjk : j = k
          · subst hjk
            rw [HXE.out]
            omega
          · exact HN.out j hj (by omega))
        go_wp2_with fail
        go_roundw
        case rel => exact ⟨k + 1, by omega, by go_num, by first | rfl | trivial, HK⟩
        case measure => simp [RowKit.intOf]; omega
    · have hall : (xs.all fun d => decide (d < 1000000000)) = true := by
        rw [List.all_eq_true]
        intro d hd
        obtain ⟨j, hj, rfl⟩ := List.getElem_of_mem hd
        simpa using HN.out j hj (by omega)
      by_cases h0 : xs.length = 0
      · have hr : rightN xs = true := by simp [rightN, hall, h0]
        have e0 : ((xs.length : Int) == 0) = true := by simp; exact List.length_eq_zero_iff.1 h0
        have HI := Lib.hid (show true = r by rw [HRR.out, hr])
        clear hr hall
        go_wp2_with fail
        go_ret
        exact ⟨ret_bool HI.out, Below.refl _ _⟩
      · have e0 : ((xs.length : Int) == 0) = false := beq_eq_false_iff_ne.2 (by omega)
        have hl1 : xs.length - 1 < xs.length := by omega
        obtain ⟨g, o, x, rfl, _, hg, hx, hc⟩ := D.ints_at HA.out (xs.length - 1) hl1
        have hlast : xs.getLast? = some x := by rw [List.getLast?_eq_getElem?]; exact hx
        have hr : rightN xs = decide (x ≠ 0) := by
          have h0' : decide (xs.length = 0) = false := decide_eq_false h0
          simp only [rightN, hall, h0', hlast, Bool.true_and, Bool.false_or]
          simp
        have e1 : IntKind.i64.wrap ((xs.length : Int) - 1) = (xs.length : Int) - 1 := wrap_id _ (by omega) (by omega)
        have e2 : (0 : Int) ≤ (xs.length : Int) - 1 := by omega
        have e3 : (xs.length : Int) - 1 < xs.length := by omega
        have e4 : ((xs.length : Int) - 1).toNat = xs.length - 1 := by omega
        have HI := Lib.hid (show decide (x ≠ 0) = r by rw [HRR.out, hr])
        clear hr hall hx hlast
        by_cases hz : x = 0
        · subst hz
          go_wp2_with fail
          go_ret
          exact ⟨ret_bool (by rw [← HI.out]; rfl), Below.refl _ _⟩
        · have e5 : (x != 0) = true := by simp [hz]
          go_wp2_with fail
          go_ret
          exact ⟨ret_bool (by rw [← HI.out, decide_eq_true hz]), Below.refl _ _⟩
theorem FX_room (k : Nat) : FX.room k := fun d hd => by cases hd
theorem numRight_calls (g : Bool) (xs : List Int) (w : World) (ok : Nat → Prop) (a : Value) (ha : D.rd w ok (.ints 53 .u32 xs) a) : Calls Tryd.prog 83 #[.agg #[.bool g, a]] w (Tells w (.bool (rightI g xs))) := by
  have HC := Lib.hid (natRight_calls xs (w.alloc (.cells #[.bool g, a] 25)) ok a (D.rd_ext ha (ext_alloc (Below.refl _ _) _)))
  obtain ⟨A, c, rfl⟩ := rd_ints_A ha
  clear ha
  obtain ⟨r, hrr⟩ : ∃ r, r = rightI g xs := ⟨_, rfl⟩
  rw [← hrr]
  have HRR := Lib.hid hrr
  clear hrr
  go_enter Tryd.func83, Tryd.ntmps83
  go_wp2_with fail
  refine HC.out.mono ?_
  rintro e w2 ⟨rfl, hb2⟩
  have HX := Lib.hid ((Blk.new w #[.bool g, .slice A xs.length c] 25).ext hb2)
  have HB := Lib.hid (Below.trans (ext_alloc (Below.refl w.heap.size w) (.cells #[.bool g, .slice A xs.length c] 25)) (hb2.mono (by simp)))
  obtain ⟨c0, c1, f0, f1⟩ := Blk.c2 HX.out
  have hx := HX.out.lt
  clear hb2 HC
  dsimp only
  cases hr : rightN xs with
  | false =>
    have HI := Lib.hid (show false = r by rw [HRR.out]; simp [rightI, hr])
    go_wp2_with fail
    go_ret
    exact ⟨ret_bool HI.out, HB.out⟩
  | true =>
    cases g with
    | false =>
      have HI := Lib.hid (show true = r by rw [HRR.out]; simp [rightI, hr])
      go_wp2_with fail
      go_ret
      exact ⟨ret_bool HI.out, HB.out⟩
    | true =>
      by_cases h0 : 0 < xs.length
      · have e0 : (0 : Int) < xs.length := by omega
        have HI := Lib.hid (show true = r by rw [HRR.out]; simp only [rightI, hr, decide_eq_true h0]; rfl)
        go_wp2_with fail
        go_ret
        exact ⟨ret_bool HI.out, HB.out⟩
      · have e0 : ¬ (0 : Int) < xs.length := by omega
        have HI := Lib.hid (show false = r by rw [HRR.out]; simp only [rightI, hr, decide_eq_false h0]; rfl)
        go_wp2_with fail
        go_ret
        exact ⟨ret_bool HI.out, HB.out⟩
/-! ### all -/
def AllPost (w : World) (r : Bool) (e : Ending) (w' : World) : Prop := Below w.heap.size w w' ∧ match r with
  | true => e = .returned (.tuple #[])
  | false => e = .panicked (thrown 23)
theorem AllPost.no {w w' : World} {r : Bool} (h : r = false) (hb : Below w.heap.size w w') : AllPost w r (.panicked (thrown 23)) w' := by subst h; exact ⟨hb, rfl⟩
theorem AllPost.yes {w w' : World} {r : Bool} (h : r = true) (hb : Below w.heap.size w w') : AllPost w r (.returned (.tuple #[])) w' := by subst h; exact ⟨hb, rfl⟩
def allIs (s : ByteArray) (l : List ByteArray) : Bool := l.all fun x => decide (x = s)
set_option maxHeartbeats 1000000 in
set_option maxRecDepth 100000 in
theorem all_calls (s : ByteArray) (xs : List ByteArray) (w : World) (ok : Nat → Prop) (a : Value) (ha : D.rd w ok (.strs 9 xs) a) : Calls Tryd.prog 85 #[.string s, a] w (AllPost w (allIs s xs)) := by
  obtain ⟨A, c, rfl, hl, _, hA⟩ := D.rd_strs ha
  have HA := Lib.hid ha
  clear ha hA
  go_enter Tryd.func85, Tryd.ntmps85
  go_wp2_with fail
  go_loopw [8] (fun i wr => ∃ k : Nat, k ≤ xs.length ∧ i = .int .i64 k ∧ Below w.heap.size w wr ∧ Hid (∀ j (hj : j < xs.length), j < k → xs[j] = s)) (fun i _ => xs.length - (RowKit.intOf i).toNat)
  case atStart => exact ⟨0, Nat.zero_le _, rfl, Below.refl _ _, Lib.hid (fun j hj h => absurd h (by omega))⟩
  case round =>
    obtain ⟨k, hk, rfl, hbw, HN⟩ := hrel
    rename World => wl
    have HBW := Lib.hid hbw
    clear hbw
    by_cases hlt : k < xs.length
    · have b1 : (0 : Int) ≤ k := by omega
      have b2 : (k : Int) < xs.length := by omega
      obtain ⟨g, o, x, rfl, _, hg, hx, hc⟩ := D.strs_at (D.rd_ext HA.out HBW.out) k hlt
      have hxe : xs[k] = x := by
        rw [List.getElem?_eq_getElem hlt] at hx
        exact Option.some.inj hx
      have HXE := Lib.hid hxe
      clear hx hxe
      by_cases he : x = s
      · have e1 : (x.toList == s.toList) = true := str_yes he
        have HK := Lib.hid (show ∀ j (hj : j < xs.length), j < k + 1 → xs[j] = s from fun j hj h => by
          by_cases hjk : j = k
          · subst hjk
            rw [HXE.out]
            exact he
          · exact HN.out j hj (by omega))
        clear he
        go_wp2_with (go_at_call 29; (with_reducible refine Calls.mono (must_true _ _) ?_); rintro e w' ⟨rfl, rfl⟩)
        go_roundw
        case rel => exact ⟨k + 1, by omega, by go_num, HBW.out, HK⟩
        case measure => simp [RowKit.intOf]; omega
      · have e1 : (x.toList == s.toList) = false := str_no he
        have hno : allIs s xs = false := by
          unfold allIs
          rw [List.all_eq_false]
          exact ⟨x, by rw [← HXE.out]; exact List.getElem_mem hlt, by simpa using he⟩
        have HNO := Lib.hid hno
        clear he hno
        go_wp2_with (go_at_call 29; (with_reducible refine Calls.mono (must_false _ _) ?_); rintro e w' ⟨rfl, rfl⟩)
        exact ⟨rfl, AllPost.no HNO.out HBW.out⟩
    · have hyes : allIs s xs = true := by
        unfold allIs
        rw [List.all_eq_true]
        intro d hd
        obtain ⟨j, hj, rfl⟩ := List.getElem_of_mem hd
        simpa using HN.out j hj (by omega)
      have HY := Lib.hid hyes
      clear hyes
      go_wp2_with fail
      go_end0
      exact AllPost.yes HY.out HBW.out
/-! ### app -/
def appOf (ds : List Dt) (name kid : ByteArray) : Option ByteArray := match funOf ds name with
  | some (f, t) => if isData ds kid = true ∧ (name = txTag ∨ f = kid) ∧ isBase ds t = true then some t else none
  | none => none
def StrPost (w : World) (r : Option ByteArray) (e : Ending) (w' : World) : Prop := Below w.heap.size w w' ∧ match r with
  | some s => e = .returned (.string s)
  | none => ∃ n, n ≠ 0 ∧ e = .panicked (thrown n)
theorem StrPost.no {w w' : World} {r : Option ByteArray} {n : Int} (h : r = none) (hn : n ≠ 0) (hb : Below w.heap.size w w') : StrPost w r (.panicked (thrown n)) w' := by subst h; exact ⟨hb, n, hn, rfl⟩
theorem StrPost.yes {w w' : World} {r : Option ByteArray} {s : ByteArray} (h : r = some s) (hb : Below w.heap.size w w') : StrPost w r (.returned (.string s)) w' := by subst h; exact ⟨hb, rfl⟩
theorem data_calls (l : List Dt) (s : ByteArray) (sb : Nat) (w : World) (ok : Nat → Prop) (a v : Value) (ha : D.rd w ok (.row 86 2 (l.map Dt.enc)) a) (hb : Blk w sb #[a, v] 115) : Calls Tryd.prog 103 #[.pointer (some ⟨sb, 0, none⟩), .string s] w (Tells w (.bool (isData l s))) := (data_calls_in 9 l s sb w ok a v ha hb).calls FX_room
theorem base_calls (l : List Dt) (s : ByteArray) (sb : Nat) (w : World) (ok : Nat → Prop) (a v : Value) (ha : D.rd w ok (.row 86 2 (l.map Dt.enc)) a) (hb : Blk w sb #[a, v] 115) : Calls Tryd.prog 102 #[.pointer (some ⟨sb, 0, none⟩), .string s] w (Tells w (.bool (isBase l s))) := (base_calls_in 9 l s sb w ok a v ha hb).calls FX_room
set_option maxHeartbeats 2000000 in
set_option maxRecDepth 100000 in
theorem app_calls (ds : List Dt) (name kid : ByteArray) (sb : Nat) (w : World) (ok : Nat → Prop) (dv sv : Value) (hd : D.rd w ok (.row 86 2 (ds.map Dt.enc)) dv) (hs : Blk w sb #[dv, sv] 115) (hn : name.size ≤ 4611686018427387904) :
    Calls Tryd.prog 86 #[.pointer (some ⟨sb, 0, none⟩), .string name, .string kid] w (StrPost w (appOf ds name kid)) := by
  have HF := Lib.hid (function_calls ds name w ok dv hd hn)
  have HD : Hid (∀ W, Below w.heap.size w W → Calls Tryd.prog 103 #[.pointer (some ⟨sb, 0, none⟩), .string kid] W (Tells W (.bool (isData ds kid)))) := Lib.hid fun W hb => data_calls ds kid sb W ok dv sv (D.rd_ext hd hb) (hs.ext hb)
  have HB : Hid (∀ W t, Below w.heap.size w W → Calls Tryd.prog 102 #[.pointer (some ⟨sb, 0, none⟩), .string t] W (Tells W (.bool (isBase ds t)))) := Lib.hid fun W t hb => base_calls ds t sb W ok dv sv (D.rd_ext hd hb) (hs.ext hb)
  obtain ⟨c0, c1, f0, f1⟩ := Blk.c2 hs
  have hlt := hs.lt
  clear hd hs hn
  go_enter Tryd.func86, Tryd.ntmps86
  go_wp2_with fail
  refine HF.out.mono ?_
  rintro e w1 ⟨hb1, hm⟩
  have HB1 := Lib.hid hb1
  clear hb1 HF
  cases hfun : funOf ds name with
  | none =>
    rw [hfun] at hm
    subst hm
    have HNO := Lib.hid (show appOf ds name kid = none by simp [appOf, hfun])
    clear hfun
    dsimp only
    go_wp2_with (go_at_call 29; (with_reducible refine Calls.mono (must_false _ _) ?_); rintro e w' ⟨rfl, rfl⟩)
    exact ⟨rfl, StrPost.no HNO.out (by decide) HB1.out⟩
  | some p =>
    obtain ⟨f, t⟩ := p
    rw [hfun] at hm
    subst hm
    have happ : appOf ds name kid = if isData ds kid = true ∧ (name = txTag ∨ f = kid) ∧ isBase ds t = true then some t else none := by simp [appOf, hfun]
    have HA := Lib.hid happ
    clear hfun happ
    dsimp only
    have hnt : ∀ b : Bool, decide (name = txTag) = b → (name.toList == [116, 97, 103]) = b := by
      intro b hb
      cases b with
      | true => exact str_lit_yes (y := txTag) (by simp [txTag, ByteArray.toList_eq]) (of_decide_eq_true hb)
      | false => exact str_lit_no (y := txTag) (by simp [txTag, ByteArray.toList_eq]) (of_decide_eq_false hb)
    have hfk : ∀ b : Bool, decide (f = kid) = b → (f.toList == kid.toList) = b := by
      intro b hb
      cases b with
      | true => exact str_yes (of_decide_eq_true hb)
      | false => exact str_no (of_decide_eq_false hb)
    cases hk : isData ds kid with
    | false =>
      have HNO := Lib.hid (show appOf ds name kid = none by rw [HA.out, hk]; simp)
      rw [hk] at HD
      clear hk hnt hfk HA
      go_wp2_with (first
        | (go_at_call 103; (with_reducible refine Calls.mono (HD.out _ HB1.out) ?_); rintro e w2 ⟨rfl, hb2⟩; have HB2 := Lib.hid (Below.trans HB1.out (hb2.mono HB1.out.size)); clear hb2)
        | (go_at_call 29; (with_reducible refine Calls.mono (must_false _ _) ?_); rintro e w' ⟨rfl, rfl⟩))
      exact ⟨rfl, StrPost.no HNO.out (by decide) HB2.out⟩
    | true =>
      rw [hk] at HD
      have hnt2 := hnt _ rfl
      have hfk2 := hfk _ rfl
      cases htag : decide (name = txTag) with
      | true =>
        rw [htag] at hnt2
        cases hb : isBase ds t with
        | true =>
          have HYES := Lib.hid (show appOf ds name kid = some t by rw [HA.out, hk, hb, if_pos ⟨rfl, .inl (of_decide_eq_true htag), rfl⟩])
          clear hnt hfk hfk2 htag HA
          go_wp2_with (first
            | (go_at_call 103; (with_reducible refine Calls.mono (HD.out _ HB1.out) ?_); rintro e w2 ⟨rfl, hb2⟩; have HB2 := Lib.hid (Below.trans HB1.out (hb2.mono HB1.out.size)); clear hb2)
            | (go_at_call 102; (with_reducible refine Calls.mono (HB.out _ _ HB2.out) ?_); rintro e w3 ⟨rfl, hb3⟩; rw [hb]; have HB3 := Lib.hid (Below.trans HB2.out (hb3.mono HB2.out.size)); clear hb3)
            | (go_at_call 29; (with_reducible refine Calls.mono (must_true _ _) ?_); rintro e w' ⟨rfl, rfl⟩))
          go_ret
          exact StrPost.yes HYES.out HB3.out
        | false =>
          have HNO := Lib.hid (show appOf ds name kid = none by rw [HA.out, hb]; simp)
          clear hnt hfk hfk2 htag HA
          go_wp2_with (first
            | (go_at_call 103; (with_reducible refine Calls.mono (HD.out _ HB1.out) ?_); rintro e w2 ⟨rfl, hb2⟩; have HB2 := Lib.hid (Below.trans HB1.out (hb2.mono HB1.out.size)); clear hb2)
            | (go_at_call 102; (with_reducible refine Calls.mono (HB.out _ _ HB2.out) ?_); rintro e w3 ⟨rfl, hb3⟩; rw [hb]; have HB3 := Lib.hid (Below.trans HB2.out (hb3.mono HB2.out.size)); clear hb3)
            | (go_at_call 29; (with_reducible refine Calls.mono (must_false _ _) ?_); rintro e w' ⟨rfl, rfl⟩))
          exact ⟨rfl, StrPost.no HNO.out (by decide) HB3.out⟩
      | false =>
        rw [htag] at hnt2
        cases hfk3 : decide (f = kid) with
        | true =>
          rw [hfk3] at hfk2
          cases hb : isBase ds t with
          | true =>
            have HYES := Lib.hid (show appOf ds name kid = some t by rw [HA.out, hk, hb, if_pos ⟨rfl, .inr (of_decide_eq_true hfk3), rfl⟩])
            clear hnt hfk hfk3 htag HA
            go_wp2_with (first
              | (go_at_call 103; (with_reducible refine Calls.mono (HD.out _ HB1.out) ?_); rintro e w2 ⟨rfl, hb2⟩; have HB2 := Lib.hid (Below.trans HB1.out (hb2.mono HB1.out.size)); clear hb2)
              | (go_at_call 102; (with_reducible refine Calls.mono (HB.out _ _ HB2.out) ?_); rintro e w3 ⟨rfl, hb3⟩; rw [hb]; have HB3 := Lib.hid (Below.trans HB2.out (hb3.mono HB2.out.size)); clear hb3)
              | (go_at_call 29; (with_reducible refine Calls.mono (must_true _ _) ?_); rintro e w' ⟨rfl, rfl⟩))
            go_ret
            exact StrPost.yes HYES.out HB3.out
          | false =>
            have HNO := Lib.hid (show appOf ds name kid = none by rw [HA.out, hb]; simp)
            clear hnt hfk hfk3 htag HA
            go_wp2_with (first
              | (go_at_call 103; (with_reducible refine Calls.mono (HD.out _ HB1.out) ?_); rintro e w2 ⟨rfl, hb2⟩; have HB2 := Lib.hid (Below.trans HB1.out (hb2.mono HB1.out.size)); clear hb2)
              | (go_at_call 102; (with_reducible refine Calls.mono (HB.out _ _ HB2.out) ?_); rintro e w3 ⟨rfl, hb3⟩; rw [hb]; have HB3 := Lib.hid (Below.trans HB2.out (hb3.mono HB2.out.size)); clear hb3)
              | (go_at_call 29; (with_reducible refine Calls.mono (must_false _ _) ?_); rintro e w' ⟨rfl, rfl⟩))
            exact ⟨rfl, StrPost.no HNO.out (by decide) HB3.out⟩
        | false =>
          rw [hfk3] at hfk2
          have HNO := Lib.hid (show appOf ds name kid = none by
            rw [HA.out, if_neg]
            rintro ⟨_, h2, _⟩
            rcases h2 with h2 | h2
            · exact of_decide_eq_false htag h2
            · exact of_decide_eq_false hfk3 h2)
          clear hnt hfk hfk3 htag HA
          go_wp2_with (first
            | (go_at_call 103; (with_reducible refine Calls.mono (HD.out _ HB1.out) ?_); rintro e w2 ⟨rfl, hb2⟩; have HB2 := Lib.hid (Below.trans HB1.out (hb2.mono HB1.out.size)); clear hb2)
            | (go_at_call 29; (with_reducible refine Calls.mono (must_false _ _) ?_); rintro e w' ⟨rfl, rfl⟩))
          exact ⟨rfl, StrPost.no HNO.out (by decide) HB2.out⟩
end Wh
