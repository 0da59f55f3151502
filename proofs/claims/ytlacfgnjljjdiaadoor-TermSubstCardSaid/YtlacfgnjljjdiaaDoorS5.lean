import Derived.Test.YtlacfgnjljjdiaaDoorS3
import Derived.Test.YtlacfgnjljjdiaaDoorT29
import Derived.Test.YtlacfgnjljjdiaaDoorT14
import Derived.Test.YtlacfgnjljjdiaaDoorW2
import Derived.Deep.DeepCutAuto
set_option linter.unusedVariables false
set_option linter.unusedSimpArgs false
open Go Go.RowKit Go.Proofs
namespace Wh
/-! ### the sorter: a term's sort -/
def topOf (ds : List Dt) (k : Int) (n : ByteArray) (l : List ByteArray) : Option ByteArray :=
  if k = 2 then some txInt
  else if k = 5 ∨ k = 6 then (if allIs txInt l = true then some txInt else none)
  else if k = 7 then (match l with | x :: _ => appOf ds n x | [] => none)
  else if k = 8 then (match l with | x :: y :: _ => if x = y ∧ x ≠ txBool then some txBool else none | _ => none)
  else if k = 9 then (if allIs txInt l = true then some txBool else none)
  else (if allIs txBool l = true then some txBool else none)
def manyOk (k : Int) (m : Nat) : Bool := match kidsOf k with
  | some j => decide (j < 0) || decide (j = (m : Int))
  | none => false
def numOk (k : Int) (g : Bool) (xs : List Int) : Bool := (decide (k ≠ 2) && decide (k ≠ 6)) || rightI g xs
mutual
def sortOf (ds : List Dt) (sc : List Sd) : Tm → Option ByteArray
  | .mk k n g xs ks => if (manyOk k ks.length && numOk k g xs) = true then (if k = 1 then varOf ds sc n else (match sortsOf ds sc ks with | some l => topOf ds k n l | none => none)) else none
def sortsOf (ds : List Dt) (sc : List Sd) : List Tm → Option (List ByteArray)
  | [] => some []
  | t :: ts => match sortOf ds sc t with
    | some s => (match sortsOf ds sc ts with | some l => some (s :: l) | none => none)
    | none => none
end
theorem sortOf_some {ds : List Dt} {sc : List Sd} {k : Int} {n : ByteArray} {g : Bool} {xs : List Int} {ks : List Tm} {s : ByteArray} (h : sortOf ds sc (.mk k n g xs ks) = some s) :
    manyOk k ks.length = true ∧ numOk k g xs = true ∧ (if k = 1 then varOf ds sc n else (match sortsOf ds sc ks with | some l => topOf ds k n l | none => none)) = some s := by
  rw [sortOf] at h
  by_cases hh : (manyOk k ks.length && numOk k g xs) = true
  · rw [if_pos hh] at h
    rw [Bool.and_eq_true] at hh
    exact ⟨hh.1, hh.2, h⟩
  · rw [if_neg hh] at h
    cases h
theorem sortOf_mk {ds : List Dt} {sc : List Sd} {k : Int} {n : ByteArray} {g : Bool} {xs : List Int} {ks : List Tm} {s : ByteArray} (hm : manyOk k ks.length = true) (hn : numOk k g xs = true) (h : (if k = 1 then varOf ds sc n else (match sortsOf ds sc ks with | some l => topOf ds k n l | none => none)) = some s) :
    sortOf ds sc (.mk k n g xs ks) = some s := by
  rw [sortOf, if_pos (by rw [hm, hn]; rfl)]
  exact h
theorem sortsOf_length {ds : List Dt} {sc : List Sd} : ∀ (ks : List Tm) (l : List ByteArray), sortsOf ds sc ks = some l → l.length = ks.length
  | [], l, h => by
    simp only [sortsOf, Option.some.injEq] at h
    subst h
    rfl
  | t :: ts, l, h => by
    rw [sortsOf] at h
    cases h1 : sortOf ds sc t with
    | none => simp [h1] at h
    | some s =>
      cases h2 : sortsOf ds sc ts with
      | none => simp [h1, h2] at h
      | some q =>
        simp only [h1, h2, Option.some.injEq] at h
        subst h
        simp [sortsOf_length ts q h2]
theorem sortsOf_append {ds : List Dt} {sc : List Sd} : ∀ (ks : List Tm) (u : List Tm) (l : List ByteArray), sortsOf ds sc ks = some l → sortsOf ds sc (ks ++ u) = (match sortsOf ds sc u with | some r => some (l ++ r) | none => none)
  | [], u, l, h => by
    simp only [sortsOf, Option.some.injEq] at h
    subst h
    cases h3 : sortsOf ds sc u <;> simp [h3]
  | t :: ts, u, l, h => by
    rw [sortsOf] at h
    cases h1 : sortOf ds sc t with
    | none => simp [h1] at h
    | some s =>
      cases h2 : sortsOf ds sc ts with
      | none => simp [h1, h2] at h
      | some q =>
        simp only [h1, h2, Option.some.injEq] at h
        subst h
        have := sortsOf_append ts u q h2
        rw [List.cons_append, sortsOf, h1, this]
        cases h3 : sortsOf ds sc u <;> simp
theorem sortsOf_none {ds : List Dt} {sc : List Sd} : ∀ (ks : List Tm) (j : Nat) (h : j < ks.length), sortOf ds sc ks[j] = none → sortsOf ds sc ks = none
  | t :: ts, 0, _, hn => by
    rw [List.getElem_cons_zero] at hn
    rw [sortsOf, hn]
  | t :: ts, j + 1, h, hn => by
    rw [List.getElem_cons_succ] at hn
    have := sortsOf_none ts j (by simpa using h) hn
    rw [sortsOf, this]
    cases sortOf ds sc t <;> rfl
structure SK (w : World) (ds : List Dt) (sc : List Sd) (sb : Nat) (dv sv : Value) (us : List Value) (t : Tm) (W : World) : Prop where
  low : Below w.heap.size w W
  box : Blk W w.heap.size us.toArray 28
  sbl : sb < w.heap.size
  rd : D.rdRow W (fun g => g < w.heap.size) t.enc us
  sor : Blk W sb #[dv, sv] 115
  dts : D.rd W (fun g => g < w.heap.size) (.row 86 2 (ds.map Dt.enc)) dv
  scp : D.rd W (fun g => g < w.heap.size) (.row 156 2 (sc.map Sd.enc)) sv
theorem SK.below {w : World} {ds : List Dt} {sc : List Sd} {sb : Nat} {dv sv : Value} {us : List Value} {t : Tm} {W W' : World} (h : SK w ds sc sb dv sv us t W) (hb : Below (w.heap.size + 1) W W') : SK w ds sc sb dv sv us t W' :=
  ⟨h.low.trans (hb.mono (by omega)), h.box.below hb (by omega), h.sbl, D.rdRow_mono (fun g hg => ⟨hg, hb.block g (by omega)⟩) _ _ h.rd, h.sor.below hb (by have := h.sbl; omega), D.rd_mono (fun g hg => ⟨hg, hb.block g (by omega)⟩) _ _ h.dts, D.rd_mono (fun g hg => ⟨hg, hb.block g (by omega)⟩) _ _ h.scp⟩
theorem SK.ext {w : World} {ds : List Dt} {sc : List Sd} {sb : Nat} {dv sv : Value} {us : List Value} {t : Tm} {W W' : World} (h : SK w ds sc sb dv sv us t W) (hb : Below W.heap.size W W') : SK w ds sc sb dv sv us t W' :=
  h.below (hb.mono (by have := h.box.lt; omega))
def SortAt (ds : List Dt) (sc : List Sd) (t : Tm) : Prop := ∀ (w : World) (us : List Value) (sb : Nat) (dv sv : Value), D.rdRow w (fun _ => True) t.enc us → Blk w sb #[dv, sv] 115 → D.rd w (fun _ => True) (.row 86 2 (ds.map Dt.enc)) dv → D.rd w (fun _ => True) (.row 156 2 (sc.map Sd.enc)) sv →
  t.wf → t.low → t.fits → Calls Tryd.prog 62 #[.pointer (some ⟨sb, 0, none⟩), .agg us.toArray] w (StrPost w (sortOf ds sc t))
theorem infoS : (Tryd.prog.info? 9).map (fun i => (i.zero, i.size, i.bytes)) = some (some (.string ⟨#[]⟩), 1, 16) := by kernel_rfl
set_option maxHeartbeats 4000000 in
set_option maxRecDepth 100000 in
theorem sort_step (ds : List Dt) (sc : List Sd) (kind : Int) (name : ByteArray) (neg : Bool) (xs : List Int) (ks : List Tm) (ih : ∀ t ∈ ks, SortAt ds sc t) : SortAt ds sc (.mk kind name neg xs ks) := by
  intro w us sb dv sv hr hs hd hc hwf hlow hfit
  have hE := ext_alloc (Below.refl w.heap.size w) (.cells us.toArray 28)
  have HK0 : Hid (SK w ds sc sb dv sv us (.mk kind name neg xs ks) (w.alloc (.cells us.toArray 28))) := Lib.hid ⟨hE, Blk.new _ _ _, hs.lt, D.rdRow_ext (D.rdRow_old hr) hE, hs.ext hE, D.rd_ext (D.rd_old hd) hE, D.rd_ext (D.rd_old hc) hE⟩
  obtain ⟨dA, dc, kA, kc, rfl, hd0, hk0⟩ := Tm.open hr
  obtain ⟨k0, k1, _, hks⟩ := hwf
  obtain ⟨l1, l2, l3, l4⟩ := hlow
  obtain ⟨f1, f2, f3⟩ := hfit
  have HI := Lib.hid ih
  have HKS := Lib.hid hks
  have HKL := Lib.hid l4
  have HKT := Lib.hid f3
  clear hr hd0 hk0 ih hks l4 hs hd hc hE f3
  obtain ⟨K, hKd⟩ : ∃ K : World → Prop, K = SK w ds sc sb dv sv [.int .u8 kind, .string name, .bool neg, .slice dA xs.length dc, .slice kA ks.length kc] (.mk kind name neg xs ks) := ⟨_, rfl⟩
  have HK : Hid (K (w.alloc (.cells #[.int .u8 kind, .string name, .bool neg, .slice dA xs.length dc, .slice kA ks.length kc] 28))) := Lib.hid (hKd ▸ HK0.out)
  have HKX : Hid (∀ W W', K W → Below W.heap.size W W' → K W') := Lib.hid (by subst hKd; exact fun W W' h hb => h.ext hb)
  have HKW : Hid (∀ W W', K W → Below (w.heap.size + 1) W W' → K W') := Lib.hid (by subst hKd; exact fun W W' h hb => h.below hb)
  have HKB : Hid (∀ W, K W → Below w.heap.size w W) := Lib.hid (by subst hKd; exact fun W h => h.low)
  have HKF : Hid (∀ W, K W → (W.cell? ⟨w.heap.size, 0, none⟩ = some (.int .u8 kind) ∧ W.cell? ⟨w.heap.size, 1, none⟩ = some (.string name) ∧ W.cell? ⟨w.heap.size, 2, none⟩ = some (.bool neg) ∧ W.cell? ⟨w.heap.size, 3, none⟩ = some (.slice dA xs.length dc) ∧ W.cell? ⟨w.heap.size, 4, none⟩ = some (.slice kA ks.length kc)) ∧ w.heap.size < W.heap.size) := Lib.hid (by subst hKd; exact fun W h => ⟨(Blk.c5 h.box).1, h.box.lt⟩)
  have HKR : Hid (∀ W, K W → D.rd W (fun _ => True) (.row 28 5 (Tm.encs ks)) (.slice kA ks.length kc)) := Lib.hid (by
    subst hKd
    intro W h
    obtain ⟨_, _, _, _, he, _, hk⟩ := Tm.open h.rd
    simp only [List.cons.injEq, Value.slice.injEq, and_true, true_and] at he
    obtain ⟨_, rfl, rfl⟩ := he
    exact D.rd_imp hk (fun _ _ => trivial))
  have HNR : Hid (∀ W, K W → Calls Tryd.prog 83 #[.agg #[.bool neg, .slice dA xs.length dc]] W (Tells W (.bool (rightI neg xs)))) := Lib.hid (by
    subst hKd
    intro W h
    obtain ⟨_, _, _, _, he, hd, _⟩ := Tm.open h.rd
    simp only [List.cons.injEq, Value.slice.injEq, and_true, true_and] at he
    obtain ⟨⟨rfl, rfl⟩, _⟩ := he
    exact numRight_calls neg xs W _ _ hd)
  have HVR : Hid (∀ W, K W → Calls Tryd.prog 84 #[.pointer (some ⟨sb, 0, none⟩), .string name] W (StrPost W (varOf ds sc name))) := Lib.hid (by subst hKd; exact fun W h => variable_calls ds sc name sb W dv sv h.sor (D.rd_imp h.dts (fun _ _ => trivial)) (D.rd_imp h.scp (fun _ _ => trivial)))
  have HAP : Hid (∀ W kid, K W → Calls Tryd.prog 86 #[.pointer (some ⟨sb, 0, none⟩), .string name, .string kid] W (StrPost W (appOf ds name kid))) := Lib.hid (by subst hKd; exact fun W kid h => app_calls ds name kid sb W _ dv sv h.dts h.sor (by omega))
  have HSO : Hid (∀ W, K W → Blk W sb #[dv, sv] 115 ∧ D.rd W (fun _ => True) (.row 86 2 (ds.map Dt.enc)) dv ∧ D.rd W (fun _ => True) (.row 156 2 (sc.map Sd.enc)) sv) := Lib.hid (by subst hKd; exact fun W h => ⟨h.sor, D.rd_imp h.dts (fun _ _ => trivial), D.rd_imp h.scp (fun _ _ => trivial)⟩)
  clear HK0 hKd
  obtain ⟨⟨a0, a1, a2, a3, a4⟩, za⟩ := HKF.out _ HK.out
  go_enter Tryd.func62, Tryd.ntmps62
  go_wp2_with fail
  refine (kids_calls kind _ ⟨k0, k1⟩).mono ?_
  rintro e w1 ⟨rfl, hkd⟩
  cases hkid : kidsOf kind with
  | none =>
    rw [hkid] at hkd
    subst hkd
    have hno : sortOf ds sc (.mk kind name neg xs ks) = none := by simp [sortOf, manyOk, hkid]
    exact ⟨rfl, StrPost.no hno (by decide) (HKB.out _ HK.out)⟩
  | some m =>
    rw [hkid] at hkd
    subst hkd
    dsimp only
    have hmk : manyOk kind ks.length = (decide (m < 0) || decide (m = (ks.length : Int))) := by simp [manyOk, hkid]
    have HMK := Lib.hid hmk
    clear hmk
    go_upto_region 2 with fail
    go_cut [] (fun wx => K wx ∧ Hid (manyOk kind ks.length = true))
    case first =>
      by_cases hm0 : m < 0
      · have HM := Lib.hid (show manyOk kind ks.length = true by rw [HMK.out]; simp [hm0])
        go_wp2_with (go_at_call 29; (with_reducible refine Calls.mono (must_true _ _) ?_); rintro e w' ⟨rfl, rfl⟩)
        go_meet
        case rel => exact ⟨HK.out, HM⟩
      · by_cases hml : m = ks.length
        · have e1 : (m == (ks.length : Int)) = true := by rw [hml]; simp
          have HM := Lib.hid (show manyOk kind ks.length = true by rw [HMK.out, decide_eq_true hml]; simp)
          clear hml
          go_wp2_with (go_at_call 29; (with_reducible refine Calls.mono (must_true _ _) ?_); rintro e w' ⟨rfl, rfl⟩)
          go_meet
          case rel => exact ⟨HK.out, HM⟩
        · have e1 : (m == (ks.length : Int)) = false := beq_eq_false_iff_ne.2 hml
          have HNO := Lib.hid (show sortOf ds sc (.mk kind name neg xs ks) = none by rw [sortOf, HMK.out]; simp [hm0, hml])
          clear hml
          go_wp2_with (go_at_call 29; (with_reducible refine Calls.mono (must_false _ _) ?_); rintro e w' ⟨rfl, rfl⟩)
          exact ⟨rfl, StrPost.no HNO.out (by decide) (HKB.out _ HK.out)⟩
    case rest =>
      obtain ⟨hK1, HM⟩ := hcut
      have HK1 := Lib.hid hK1
      clear hK1 HK a0 a1 a2 a3 a4 za HMK hkid
      obtain ⟨⟨a0, a1, a2, a3, a4⟩, za⟩ := HKF.out _ HK1.out
      go_upto_region 3 with fail
      go_cut [] (fun wx => K wx ∧ Hid (numOk kind neg xs = true))
      case first =>
        by_cases h2 : kind = 2
        · have e1 : (kind != 2) = false := by simp [h2]
          have H2 := Lib.hid h2
          clear h2
          cases hr : rightI neg xs with
          | true =>
            have HN := Lib.hid (show numOk kind neg xs = true by simp [numOk, hr])
            go_wp2_with (first | (go_at_call 83; (with_reducible refine Calls.mono (HNR.out _ HK1.out) ?_); rintro e w2 ⟨rfl, hb2⟩; rw [hr]; have HK2 := Lib.hid (HKX.out _ _ HK1.out hb2); clear hb2) | (go_at_call 29; (with_reducible refine Calls.mono (must_true _ _) ?_); rintro e w' ⟨rfl, rfl⟩))
            go_meet
            case rel => exact ⟨HK2.out, HN⟩
          | false =>
            have HNO := Lib.hid (show sortOf ds sc (.mk kind name neg xs ks) = none by rw [sortOf]; simp [numOk, hr, H2.out])
            go_wp2_with (first | (go_at_call 83; (with_reducible refine Calls.mono (HNR.out _ HK1.out) ?_); rintro e w2 ⟨rfl, hb2⟩; rw [hr]; have HK2 := Lib.hid (HKX.out _ _ HK1.out hb2); clear hb2) | (go_at_call 29; (with_reducible refine Calls.mono (must_false _ _) ?_); rintro e w' ⟨rfl, rfl⟩))
            exact ⟨rfl, StrPost.no HNO.out (by decide) (HKB.out _ HK2.out)⟩
        · have e1 : (kind != 2) = true := by simp [h2]
          by_cases h6 : kind = 6
          · have e2 : (kind != 6) = false := by simp [h6]
            have H6 := Lib.hid h6
            clear h6
            cases hr : rightI neg xs with
            | true =>
              have HN := Lib.hid (show numOk kind neg xs = true by simp [numOk, hr])
              go_wp2_with (first | (go_at_call 83; (with_reducible refine Calls.mono (HNR.out _ HK1.out) ?_); rintro e w2 ⟨rfl, hb2⟩; rw [hr]; have HK2 := Lib.hid (HKX.out _ _ HK1.out hb2); clear hb2) | (go_at_call 29; (with_reducible refine Calls.mono (must_true _ _) ?_); rintro e w' ⟨rfl, rfl⟩))
              go_meet
              case rel => exact ⟨HK2.out, HN⟩
            | false =>
              have HNO := Lib.hid (show sortOf ds sc (.mk kind name neg xs ks) = none by rw [sortOf]; simp [numOk, hr, H6.out])
              go_wp2_with (first | (go_at_call 83; (with_reducible refine Calls.mono (HNR.out _ HK1.out) ?_); rintro e w2 ⟨rfl, hb2⟩; rw [hr]; have HK2 := Lib.hid (HKX.out _ _ HK1.out hb2); clear hb2) | (go_at_call 29; (with_reducible refine Calls.mono (must_false _ _) ?_); rintro e w' ⟨rfl, rfl⟩))
              exact ⟨rfl, StrPost.no HNO.out (by decide) (HKB.out _ HK2.out)⟩
          · have e2 : (kind != 6) = true := by simp [h6]
            have HN := Lib.hid (show numOk kind neg xs = true by simp [numOk, h2, h6])
            go_wp2_with (go_at_call 29; (with_reducible refine Calls.mono (must_true _ _) ?_); rintro e w' ⟨rfl, rfl⟩)
            go_meet
            case rel => exact ⟨HK1.out, HN⟩
      case rest =>
        obtain ⟨hK2, HN⟩ := hcut
        have HK2 := Lib.hid hK2
        clear hK2 HK1 a0 a1 a2 a3 a4 za
        obtain ⟨⟨a0, a1, a2, a3, a4⟩, za⟩ := HKF.out _ HK2.out
        have hso : sortOf ds sc (.mk kind name neg xs ks) = if kind = 1 then varOf ds sc name else (match sortsOf ds sc ks with | some l => topOf ds kind name l | none => none) := by rw [sortOf, if_pos (by rw [HM.out, HN.out]; rfl)]
        by_cases h1 : kind = 1
        · have e1 : (kind == 1) = true := by simp [h1]
          rw [if_pos h1] at hso
          have HSO2 := Lib.hid hso
          clear hso h1
          go_wp2_with fail
          refine (HVR.out _ HK2.out).mono ?_
          rintro e w3 ⟨hb3, hm⟩
          have HK3 := Lib.hid (HKX.out _ _ HK2.out hb3)
          clear hb3
          cases hv : varOf ds sc name with
          | none =>
            rw [hv] at hm
            obtain ⟨z, hz, rfl⟩ := hm
            exact ⟨rfl, StrPost.no (by rw [HSO2.out, hv]) hz (HKB.out _ HK3.out)⟩
          | some v =>
            rw [hv] at hm
            subst hm
            have HV := Lib.hid (HSO2.out.trans hv)
            clear hv
            dsimp only
            go_wp2_with fail
            go_ret
            exact StrPost.yes HV.out (HKB.out _ HK3.out)
        · have e1 : (kind == 1) = false := beq_eq_false_iff_ne.2 h1
          rw [if_neg h1] at hso
          have HSO2 := Lib.hid hso
          have HK1N := Lib.hid h1
          clear hso
          rename World => wb
          go_wp2_with fail
          go_loopw [6, 46] (fun v i wr => ∃ (j : Nat) (q : List ByteArray) (A : Option Addr) (c : Nat), j ≤ ks.length ∧ v = .slice A j c ∧ i = .int .i64 j ∧ q.length = j ∧ Hid (K wr) ∧ Hid (wr.ownsRow wb.heap.size 9 1 (.slice A j c) j (q.map Value.string)) ∧ wb.heap.size ≤ wr.heap.size ∧ Hid (sortsOf ds sc (ks.take j) = some q)) (fun _ i _ => ks.length - (RowKit.intOf i).toNat)
          case atStart => exact ⟨0, [], none, 0, Nat.zero_le _, rfl, rfl, rfl, HK2, World.ownsRow_nil _ _ _ _, Nat.le_refl _, Lib.hid (by simp [sortsOf])⟩
          case round =>
            obtain ⟨j, q, A, c, hj, rfl, rfl, hq, HKr, HO, hwz, HQ⟩ := hrel
            rename World => wl
            by_cases hlt : j < ks.length
            · obtain ⟨g, o, kd, nm, ng, yd, ls, dA', dc', lA', lc', rfl, _, hg, hkk, hr, c0, c1, c2, c3, c4⟩ := Tm.kid (HKR.out _ HKr.out) j hlt
              have b1 : (0 : Int) ≤ j := by omega
              have b2 : (j : Int) < ks.length := by omega
              obtain ⟨hs2, hd2, hc2⟩ := HSO.out _ (HKX.out _ _ HKr.out (ext_alloc (Below.refl wl.heap.size wl) (.cells #[.int .u8 kd, .string nm, .bool ng, .slice dA' yd.length dc', .slice lA' ls.length lc'] 28)))
              have hcall := HI.out (ks[j]) (List.getElem_mem hlt) (wl.alloc (.cells #[.int .u8 kd, .string nm, .bool ng, .slice dA' yd.length dc', .slice lA' ls.length lc'] 28)) _ sb dv sv (by rw [hkk]; exact D.rdRow_ext hr (ext_alloc (Below.refl _ _) _)) hs2 hd2 hc2 (Tm.wfs_get ks HKS.out j hlt) (Tm.lows_get ks HKL.out j hlt) (Tm.fitss_get ks HKT.out j hlt)
              have HC := Lib.hid hcall
              have hq1 : sortsOf ds sc (ks.take (j + 1)) = (match sortOf ds sc ks[j] with | some s => some (q ++ [s]) | none => none) := by
                have : ks.take (j + 1) = ks.take j ++ [ks[j]] := by rw [List.take_succ_eq_append_getElem hlt]
                rw [this, sortsOf_append _ _ _ HQ.out]
                simp only [sortsOf]
                cases sortOf ds sc ks[j] <;> rfl
              have hq2 : sortOf ds sc ks[j] = none → sortsOf ds sc ks = none := fun h => sortsOf_none ks j hlt h
              have HQ1 := Lib.hid hq1
              have HQ2 := Lib.hid hq2
              clear hq1 hq2 hcall hs2 hd2 hc2 hkk hr
              cases hs : sortOf ds sc ks[j] with
              | none =>
                have HNO := Lib.hid (show sortOf ds sc (.mk kind name neg xs ks) = none by rw [HSO2.out, HQ2.out hs])
                rw [hs] at HC
                clear hs HQ1 HQ2
                go_wp2_with (go_at_call 62; (with_reducible refine Calls.mono HC.out ?_); rintro e w2 ⟨hb2, z, hz, rfl⟩; have HB2 := Lib.hid (HKX.out _ _ (HKX.out _ _ HKr.out (ext_alloc (Below.refl wl.heap.size wl) _)) hb2); clear hb2)
                exact ⟨rfl, StrPost.no HNO.out hz (HKB.out _ HB2.out)⟩
              | some s =>
                rw [hs] at HC
                have HQ3 := Lib.hid (show sortsOf ds sc (ks.take (j + 1)) = some (q ++ [s]) by rw [HQ1.out, hs])
                clear hs HQ1 HQ2
                go_wp2_with (first
                  | (go_at_call 62; (with_reducible refine Calls.mono HC.out ?_); rintro e w2 ⟨hb2, rfl⟩; have HK3 := Lib.hid (HKX.out _ _ (HKX.out _ _ HKr.out (ext_alloc (Below.refl wl.heap.size wl) (.cells #[.int .u8 kd, .string nm, .bool ng, .slice dA' yd.length dc', .slice lA' ls.length lc'] 28))) hb2); have HB2 := Lib.hid (Below.trans (ext_alloc (Below.refl wl.heap.size wl) (.cells #[.int .u8 kd, .string nm, .bool ng, .slice dA' yd.length dc', .slice lA' ls.length lc'] 28)) (hb2.mono (by simp))); have hz2 := hb2.size; clear hb2)
                  | (at_builtin; go_loud (refine list_append rfl (.tmp 50) (.tmp 54) rfl Tryd.underlying34 infoS rfl (by decide) (by decide) wb.heap.size (.slice A j c) j (q.map Value.string) rfl (ownsRow_mono HO.out (fun g hg => (ext_alloc HB2.out _).block g (HO.out.lt g hg).2)) w2.heap.size #[.string s] rfl (Blk.new _ _ _) rfl (by simp [Value.oneCell']) (by omega) (by simp at hz2 ⊢; omega) ?_; intro A3 c3 w3 ho3 hg3 hat3; have HO3 := Lib.hid ho3; have HG3 := Lib.hid hg3; have hz3 := hg3.size; clear ho3 hg3 hat3)))
                go_roundw
                case rel =>
                  refine ⟨j + 1, q ++ [s], A3, c3, by omega, rfl, by go_num, by simp [hq], Lib.hid ?_, Lib.hid (by simpa using HO3.out), by simp at hz2 hz3; omega, HQ3⟩
                  refine HKW.out _ _ (HKX.out _ _ HK3.out (ext_alloc (Below.refl _ _) (.cells #[.string s] 9))) ?_
                  exact (Below.refl _ _).grown HG3.out (by simp at hz2 hz3 ⊢; have := (HKF.out _ HK2.out).2; omega) (fun k hk => by have := (HO.out.lt k hk).1; have := (HKF.out _ HK2.out).2; omega)
                case measure => simp [RowKit.intOf]; omega
            · obtain rfl : j = ks.length := by omega
              have hqa : sortsOf ds sc ks = some q := by
                have := HQ.out
                rwa [List.take_length] at this
              have HTOP := Lib.hid (show sortOf ds sc (.mk kind name neg xs ks) = topOf ds kind name q by rw [HSO2.out, hqa])
              have hrow : D.rd wl (fun _ => True) (.strs 9 q) (.slice A ks.length c) := by
                have := D.rd_of_own HO.out (es := q.map fun x => [.txt x]) (by simp [hq]) (cells_strs q) (ok := fun _ => True) (fun _ _ => trivial)
                simpa [D.strs] using this
              have HROW := Lib.hid hrow
              clear hrow hqa HO HQ HSO2 HI HNR HVR
              have k1 : ¬ (ks.length : Int) < ks.length := by omega
              have HKD : Hid (∀ W, K W → K W.drew) := Lib.hid fun W h => HKX.out _ _ h (Below.refl _ _).drew
              obtain ⟨⟨a0, a1, a2, a3, a4⟩, za⟩ := HKF.out _ HKr.out
              by_cases g2 : kind = 2
              · have e2 : (kind == 2) = true := by simp [g2]
                have HYES := Lib.hid (show sortOf ds sc (.mk kind name neg xs ks) = some txInt by rw [HTOP.out, topOf.eq_def, if_pos g2])
                clear g2
                go_wp2_with fail
                go_ret
                exact StrPost.yes HYES.out (HKB.out _ HKr.out)
              have e2 : (kind == 2) = false := beq_eq_false_iff_ne.2 g2
              by_cases g5 : kind = 5
              · have e5 : (kind == 5) = true := by simp [g5]
                have G := Lib.hid g5
                clear g5
                go_wp2_with fail
                refine (all_calls ⟨#[105, 110, 116]⟩ q _ _ _ HROW.out).mono ?_
                rintro e w3 ⟨hb3, hm⟩
                have HK3 := Lib.hid (HKX.out _ _ HKr.out hb3)
                clear hb3
                cases ha : allIs txInt q with
                | false =>
                  have HNO := Lib.hid (show sortOf ds sc (.mk kind name neg xs ks) = none by rw [HTOP.out, topOf.eq_def]; rw [if_neg g2, if_pos (.inl G.out), ha]; simp)
                  rw [show allIs ⟨#[105, 110, 116]⟩ q = false from ha] at hm
                  subst hm
                  exact ⟨rfl, StrPost.no HNO.out (by decide) (HKB.out _ HK3.out)⟩
                | true =>
                  have HYES := Lib.hid (show sortOf ds sc (.mk kind name neg xs ks) = some txInt by rw [HTOP.out, topOf.eq_def]; rw [if_neg g2, if_pos (.inl G.out), ha]; simp)
                  rw [show allIs ⟨#[105, 110, 116]⟩ q = true from ha] at hm
                  subst hm
                  clear ha
                  dsimp only
                  go_wp2_with fail
                  go_ret
                  exact StrPost.yes HYES.out (HKB.out _ HK3.out)
              have e5 : (kind == 5) = false := beq_eq_false_iff_ne.2 g5
              by_cases g6 : kind = 6
              · have e6 : (kind == 6) = true := by simp [g6]
                have G := Lib.hid g6
                clear g6
                go_wp2_with fail
                refine (all_calls ⟨#[105, 110, 116]⟩ q _ _ _ HROW.out).mono ?_
                rintro e w3 ⟨hb3, hm⟩
                have HK3 := Lib.hid (HKX.out _ _ HKr.out hb3)
                clear hb3
                cases ha : allIs txInt q with
                | false =>
                  have HNO := Lib.hid (show sortOf ds sc (.mk kind name neg xs ks) = none by rw [HTOP.out, topOf.eq_def]; rw [if_neg g2, if_pos (.inr G.out), ha]; simp)
                  rw [show allIs ⟨#[105, 110, 116]⟩ q = false from ha] at hm
                  subst hm
                  exact ⟨rfl, StrPost.no HNO.out (by decide) (HKB.out _ HK3.out)⟩
                | true =>
                  have HYES := Lib.hid (show sortOf ds sc (.mk kind name neg xs ks) = some txInt by rw [HTOP.out, topOf.eq_def]; rw [if_neg g2, if_pos (.inr G.out), ha]; simp)
                  rw [show allIs ⟨#[105, 110, 116]⟩ q = true from ha] at hm
                  subst hm
                  clear ha
                  dsimp only
                  go_wp2_with fail
                  go_ret
                  exact StrPost.yes HYES.out (HKB.out _ HK3.out)
              have e6 : (kind == 6) = false := beq_eq_false_iff_ne.2 g6
              by_cases g7 : kind = 7
              · have e7 : (kind == 7) = true := by simp [g7]
                have hq1 : q.length = 1 := by
                  have := HM.out
                  rw [g7] at this
                  simp [manyOk, kidsOf] at this
                  omega
                obtain ⟨x, rfl⟩ := List.length_eq_one_iff.1 hq1
                have HT := Lib.hid (show sortOf ds sc (.mk kind name neg xs ks) = appOf ds name x by rw [HTOP.out, topOf.eq_def, if_neg g2, if_neg (by omega), if_pos g7])
                obtain ⟨g, o, x', rfl, _, hg, hx, hcx⟩ := D.strs_at HROW.out 0 (by simp)
                obtain rfl : x = x' := by simpa using hx
                have hkl1 : ks.length = 1 := by rw [← hq]; rfl
                have z1 : (0 : Int) < ks.length := by omega
                have HAP' : Hid (∀ W, K W → Calls Tryd.prog 86 #[.pointer (some ⟨sb, 0, none⟩), .string name, .string x] W (StrPost W (appOf ds name x))) := Lib.hid fun W h => HAP.out W x h
                have hcx' : wl.cell? ⟨g, o, none⟩ = some (.string x) := by simpa using hcx
                clear g7 hx hq1 HTOP hcx
                go_wp2_with fail
                refine still_begin 6 (by kernel_rfl) (by kernel_rfl) (fun lq Qq HLq HQq => ?_)
                refine StillAt.take' (i := 0) (v := ?_) (a' := ?_) HLq rfl (by rfl) ?_ ?_ ?_
                rotate_left 2
                · go_simp
                  all_goals (with_reducible rfl)
                · simp only [Act.put, List.setIfInBounds_toArray, List.set_cons_zero, List.set_cons_succ]
                  rfl
                refine StillAt.take' (i := 1) (v := ?_) (a' := ?_) HLq rfl (by rfl) ?_ ?_ ?_
                rotate_left 2
                · go_simp
                  all_goals (with_reducible rfl)
                · simp only [Act.put, List.setIfInBounds_toArray, List.set_cons_zero, List.set_cons_succ]
                  rfl
                refine StillAt.take' (i := 2) (v := ?_) (a' := ?_) HLq rfl (by rfl) ?_ ?_ ?_
                rotate_left 2
                · go_simp
                  all_goals (with_reducible rfl)
                · simp only [Act.put, List.setIfInBounds_toArray, List.set_cons_zero, List.set_cons_succ]
                  rfl
                refine StillAt.take' (i := 3) (v := ?_) (a' := ?_) HLq rfl (by rfl) ?_ ?_ ?_
                rotate_left 2
                · go_simp
                  all_goals (with_reducible rfl)
                · simp only [Act.put, List.setIfInBounds_toArray, List.set_cons_zero, List.set_cons_succ]
                  rfl
                refine StillAt.take' (i := 4) (v := ?_) (a' := ?_) HLq rfl (by rfl) ?_ ?_ ?_
                rotate_left 2
                · go_simp
                  all_goals (with_reducible rfl)
                · simp only [Act.put, List.setIfInBounds_toArray, List.set_cons_zero, List.set_cons_succ]
                  rfl
                refine StillAt.take' (i := 5) (v := ?_) (a' := ?_) HLq rfl (by rfl) ?_ ?_ ?_
                rotate_left 2
                · go_simp
                  all_goals (with_reducible rfl)
                · simp only [Act.put, List.setIfInBounds_toArray, List.set_cons_zero, List.set_cons_succ]
                  rfl
                refine StillAt.done' HLq rfl ?_
                refine HQq.out _ ?_
                clear HQq HLq Qq lq
                simp only [List.drop_succ_cons, List.drop_zero]
                cases hap : appOf ds name x with
                | none =>
                  have HNO := Lib.hid (HT.out.trans hap)
                  rw [hap] at HAP'
                  clear hap HT
                  go_wp2_with (go_at_call 86; refine Calls.mono (HAP'.out _ (by repeat (first | (with_reducible exact HKr.out) | (with_reducible refine HKD.out _ ?_)))) ?_; rintro e w3 ⟨hb3, z, hz, rfl⟩; have HK3 := Lib.hid (HKX.out _ _ (HKD.out _ HKr.out) hb3); clear hb3)
                  exact ⟨rfl, StrPost.no HNO.out hz (HKB.out _ HK3.out)⟩
                | some r =>
                  have HYES := Lib.hid (HT.out.trans hap)
                  rw [hap] at HAP'
                  clear hap HT
                  go_wp2_with (go_at_call 86; refine Calls.mono (HAP'.out _ (by repeat (first | (with_reducible exact HKr.out) | (with_reducible refine HKD.out _ ?_)))) ?_; rintro e w3 ⟨hb3, rfl⟩; have HK3 := Lib.hid (HKX.out _ _ (HKD.out _ HKr.out) hb3); clear hb3)
                  go_ret
                  exact StrPost.yes HYES.out (HKB.out _ HK3.out)
              have e7 : (kind == 7) = false := beq_eq_false_iff_ne.2 g7
              by_cases g8 : kind = 8
              · have e8 : (kind == 8) = true := by simp [g8]
                have hq1 : q.length = 2 := by
                  have := HM.out
                  rw [g8] at this
                  simp [manyOk, kidsOf] at this
                  omega
                obtain ⟨x, y, rfl⟩ : ∃ x y, q = [x, y] := by
                  match q, hq1 with
                  | [x, y], _ => exact ⟨x, y, rfl⟩
                have HT := Lib.hid (show sortOf ds sc (.mk kind name neg xs ks) = if x = y ∧ x ≠ txBool then some txBool else none by rw [HTOP.out, topOf.eq_def, if_neg g2, if_neg (by omega), if_neg g7, if_pos g8])
                obtain ⟨g, o, x', rfl, _, hg, hx, hcx⟩ := D.strs_at HROW.out 0 (by simp)
                obtain ⟨g', o', y', hA, _, hg', hy, hcy⟩ := D.strs_at HROW.out 1 (by simp)
                obtain rfl : x = x' := by simpa using hx
                obtain rfl : y = y' := by simpa using hy
                injection hA with hA
                injection hA with hA1 hA2
                subst hA1 hA2
                have hkl1 : ks.length = 2 := by rw [← hq]; rfl
                have z1 : (0 : Int) < ks.length := by omega
                have z2 : (1 : Int) < ks.length := by omega
                have hcx' : wl.cell? ⟨g, o, none⟩ = some (.string x) := by simpa using hcx
                clear g8 hx hy hq1 HTOP hcx
                by_cases hxy : x = y
                · have f1 : (x.toList == y.toList) = true := str_yes hxy
                  by_cases hxb : x = txBool
                  · have f2 : (x.toList == [98, 111, 111, 108]) = true := str_lit_yes (y := txBool) (by simp [txBool, ByteArray.toList_eq]) hxb
                    have HNO := Lib.hid (show sortOf ds sc (.mk kind name neg xs ks) = none by rw [HT.out, if_neg (fun h => h.2 hxb)])
                    clear hxy hxb HT
                    go_wp2_with fail
                    refine still_begin 13 (by kernel_rfl) (by kernel_rfl) (fun lq Qq HLq HQq => ?_)
                    refine StillAt.take' (i := 0) (v := ?_) (a' := ?_) HLq rfl (by rfl) ?_ ?_ ?_
                    rotate_left 2
                    · go_simp
                      all_goals (with_reducible rfl)
                    · simp only [Act.put, List.setIfInBounds_toArray, List.set_cons_zero, List.set_cons_succ]
                      rfl
                    refine StillAt.take' (i := 1) (v := ?_) (a' := ?_) HLq rfl (by rfl) ?_ ?_ ?_
                    rotate_left 2
                    · go_simp
                      all_goals (with_reducible rfl)
                    · simp only [Act.put, List.setIfInBounds_toArray, List.set_cons_zero, List.set_cons_succ]
                      rfl
                    refine StillAt.take' (i := 2) (v := ?_) (a' := ?_) HLq rfl (by rfl) ?_ ?_ ?_
                    rotate_left 2
                    · go_simp
                      all_goals (with_reducible rfl)
                    · simp only [Act.put, List.setIfInBounds_toArray, List.set_cons_zero, List.set_cons_succ]
                      rfl
                    refine StillAt.take' (i := 3) (v := ?_) (a' := ?_) HLq rfl (by rfl) ?_ ?_ ?_
                    rotate_left 2
                    · go_simp
                      all_goals (with_reducible rfl)
                    · simp only [Act.put, List.setIfInBounds_toArray, List.set_cons_zero, List.set_cons_succ]
                      rfl
                    refine StillAt.take' (i := 4) (v := ?_) (a' := ?_) HLq rfl (by rfl) ?_ ?_ ?_
                    rotate_left 2
                    · go_simp
                      all_goals (with_reducible rfl)
                    · simp only [Act.put, List.setIfInBounds_toArray, List.set_cons_zero, List.set_cons_succ]
                      rfl
                    refine StillAt.take' (i := 5) (v := ?_) (a' := ?_) HLq rfl (by rfl) ?_ ?_ ?_
                    rotate_left 2
                    · go_simp
                      all_goals (with_reducible rfl)
                    · simp only [Act.put, List.setIfInBounds_toArray, List.set_cons_zero, List.set_cons_succ]
                      rfl
                    refine StillAt.take' (i := 6) (v := ?_) (a' := ?_) HLq rfl (by rfl) ?_ ?_ ?_
                    rotate_left 2
                    · go_simp
                      all_goals (with_reducible rfl)
                    · simp only [Act.put, List.setIfInBounds_toArray, List.set_cons_zero, List.set_cons_succ]
                      rfl
                    refine StillAt.take' (i := 7) (v := ?_) (a' := ?_) HLq rfl (by rfl) ?_ ?_ ?_
                    rotate_left 2
                    · go_simp
                      all_goals (with_reducible rfl)
                    · simp only [Act.put, List.setIfInBounds_toArray, List.set_cons_zero, List.set_cons_succ]
                      rfl
                    refine StillAt.take' (i := 8) (v := ?_) (a' := ?_) HLq rfl (by rfl) ?_ ?_ ?_
                    rotate_left 2
                    · go_simp
                      all_goals (with_reducible rfl)
                    · simp only [Act.put, List.setIfInBounds_toArray, List.set_cons_zero, List.set_cons_succ]
                      rfl
                    refine StillAt.take' (i := 9) (v := ?_) (a' := ?_) HLq rfl (by rfl) ?_ ?_ ?_
                    rotate_left 2
                    · go_simp
                      all_goals (with_reducible rfl)
                    · simp only [Act.put, List.setIfInBounds_toArray, List.set_cons_zero, List.set_cons_succ]
                      rfl
                    refine StillAt.take' (i := 10) (v := ?_) (a' := ?_) HLq rfl (by rfl) ?_ ?_ ?_
                    rotate_left 2
                    · go_simp
                      all_goals (with_reducible rfl)
                    · simp only [Act.put, List.setIfInBounds_toArray, List.set_cons_zero, List.set_cons_succ]
                      rfl
                    refine StillAt.take' (i := 11) (v := ?_) (a' := ?_) HLq rfl (by rfl) ?_ ?_ ?_
                    rotate_left 2
                    · go_simp
                      all_goals (with_reducible rfl)
                    · simp only [Act.put, List.setIfInBounds_toArray, List.set_cons_zero, List.set_cons_succ]
                      rfl
                    refine StillAt.take' (i := 12) (v := ?_) (a' := ?_) HLq rfl (by rfl) ?_ ?_ ?_
                    rotate_left 2
                    · go_simp
                      all_goals (with_reducible rfl)
                    · simp only [Act.put, List.setIfInBounds_toArray, List.set_cons_zero, List.set_cons_succ]
                      rfl
                    refine StillAt.done' HLq rfl ?_
                    refine HQq.out _ ?_
                    clear HQq HLq Qq lq
                    simp only [List.drop_succ_cons, List.drop_zero]
                    go_wp2_with (go_at_call 29; (with_reducible refine Calls.mono (must_false _ _) ?_); rintro e w' ⟨rfl, rfl⟩)
                    exact ⟨rfl, StrPost.no HNO.out (by decide) (HKB.out _ (HKD.out _ HKr.out))⟩
                  · have f2 : (x.toList == [98, 111, 111, 108]) = false := str_lit_no (y := txBool) (by simp [txBool, ByteArray.toList_eq]) hxb
                    have HYES := Lib.hid (show sortOf ds sc (.mk kind name neg xs ks) = some txBool by rw [HT.out, if_pos ⟨hxy, hxb⟩])
                    clear hxy hxb HT
                    go_wp2_with fail
                    refine still_begin 13 (by kernel_rfl) (by kernel_rfl) (fun lq Qq HLq HQq => ?_)
                    refine StillAt.take' (i := 0) (v := ?_) (a' := ?_) HLq rfl (by rfl) ?_ ?_ ?_
                    rotate_left 2
                    · go_simp
                      all_goals (with_reducible rfl)
                    · simp only [Act.put, List.setIfInBounds_toArray, List.set_cons_zero, List.set_cons_succ]
                      rfl
                    refine StillAt.take' (i := 1) (v := ?_) (a' := ?_) HLq rfl (by rfl) ?_ ?_ ?_
                    rotate_left 2
                    · go_simp
                      all_goals (with_reducible rfl)
                    · simp only [Act.put, List.setIfInBounds_toArray, List.set_cons_zero, List.set_cons_succ]
                      rfl
                    refine StillAt.take' (i := 2) (v := ?_) (a' := ?_) HLq rfl (by rfl) ?_ ?_ ?_
                    rotate_left 2
                    · go_simp
                      all_goals (with_reducible rfl)
                    · simp only [Act.put, List.setIfInBounds_toArray, List.set_cons_zero, List.set_cons_succ]
                      rfl
                    refine StillAt.take' (i := 3) (v := ?_) (a' := ?_) HLq rfl (by rfl) ?_ ?_ ?_
                    rotate_left 2
                    · go_simp
                      all_goals (with_reducible rfl)
                    · simp only [Act.put, List.setIfInBounds_toArray, List.set_cons_zero, List.set_cons_succ]
                      rfl
                    refine StillAt.take' (i := 4) (v := ?_) (a' := ?_) HLq rfl (by rfl) ?_ ?_ ?_
                    rotate_left 2
                    · go_simp
                      all_goals (with_reducible rfl)
                    · simp only [Act.put, List.setIfInBounds_toArray, List.set_cons_zero, List.set_cons_succ]
                      rfl
                    refine StillAt.take' (i := 5) (v := ?_) (a' := ?_) HLq rfl (by rfl) ?_ ?_ ?_
                    rotate_left 2
                    · go_simp
                      all_goals (with_reducible rfl)
                    · simp only [Act.put, List.setIfInBounds_toArray, List.set_cons_zero, List.set_cons_succ]
                      rfl
                    refine StillAt.take' (i := 6) (v := ?_) (a' := ?_) HLq rfl (by rfl) ?_ ?_ ?_
                    rotate_left 2
                    · go_simp
                      all_goals (with_reducible rfl)
                    · simp only [Act.put, List.setIfInBounds_toArray, List.set_cons_zero, List.set_cons_succ]
                      rfl
                    refine StillAt.take' (i := 7) (v := ?_) (a' := ?_) HLq rfl (by rfl) ?_ ?_ ?_
                    rotate_left 2
                    · go_simp
                      all_goals (with_reducible rfl)
                    · simp only [Act.put, List.setIfInBounds_toArray, List.set_cons_zero, List.set_cons_succ]
                      rfl
                    refine StillAt.take' (i := 8) (v := ?_) (a' := ?_) HLq rfl (by rfl) ?_ ?_ ?_
                    rotate_left 2
                    · go_simp
                      all_goals (with_reducible rfl)
                    · simp only [Act.put, List.setIfInBounds_toArray, List.set_cons_zero, List.set_cons_succ]
                      rfl
                    refine StillAt.take' (i := 9) (v := ?_) (a' := ?_) HLq rfl (by rfl) ?_ ?_ ?_
                    rotate_left 2
                    · go_simp
                      all_goals (with_reducible rfl)
                    · simp only [Act.put, List.setIfInBounds_toArray, List.set_cons_zero, List.set_cons_succ]
                      rfl
                    refine StillAt.take' (i := 10) (v := ?_) (a' := ?_) HLq rfl (by rfl) ?_ ?_ ?_
                    rotate_left 2
                    · go_simp
                      all_goals (with_reducible rfl)
                    · simp only [Act.put, List.setIfInBounds_toArray, List.set_cons_zero, List.set_cons_succ]
                      rfl
                    refine StillAt.take' (i := 11) (v := ?_) (a' := ?_) HLq rfl (by rfl) ?_ ?_ ?_
                    rotate_left 2
                    · go_simp
                      all_goals (with_reducible rfl)
                    · simp only [Act.put, List.setIfInBounds_toArray, List.set_cons_zero, List.set_cons_succ]
                      rfl
                    refine StillAt.take' (i := 12) (v := ?_) (a' := ?_) HLq rfl (by rfl) ?_ ?_ ?_
                    rotate_left 2
                    · go_simp
                      all_goals (with_reducible rfl)
                    · simp only [Act.put, List.setIfInBounds_toArray, List.set_cons_zero, List.set_cons_succ]
                      rfl
                    refine StillAt.done' HLq rfl ?_
                    refine HQq.out _ ?_
                    clear HQq HLq Qq lq
                    simp only [List.drop_succ_cons, List.drop_zero]
                    go_wp2_with (go_at_call 29; (with_reducible refine Calls.mono (must_true _ _) ?_); rintro e w' ⟨rfl, rfl⟩)
                    go_ret
                    exact StrPost.yes HYES.out (HKB.out _ (HKD.out _ HKr.out))
                · have f1 : (x.toList == y.toList) = false := str_no hxy
                  have HNO := Lib.hid (show sortOf ds sc (.mk kind name neg xs ks) = none by rw [HT.out, if_neg (fun h => hxy h.1)])
                  clear hxy HT
                  go_wp2_with fail
                  refine still_begin 13 (by kernel_rfl) (by kernel_rfl) (fun lq Qq HLq HQq => ?_)
                  refine StillAt.take' (i := 0) (v := ?_) (a' := ?_) HLq rfl (by rfl) ?_ ?_ ?_
                  rotate_left 2
                  · go_simp
                    all_goals (with_reducible rfl)
                  · simp only [Act.put, List.setIfInBounds_toArray, List.set_cons_zero, List.set_cons_succ]
                    rfl
                  refine StillAt.take' (i := 1) (v := ?_) (a' := ?_) HLq rfl (by rfl) ?_ ?_ ?_
                  rotate_left 2
                  · go_simp
                    all_goals (with_reducible rfl)
                  · simp only [Act.put, List.setIfInBounds_toArray, List.set_cons_zero, List.set_cons_succ]
                    rfl
                  refine StillAt.take' (i := 2) (v := ?_) (a' := ?_) HLq rfl (by rfl) ?_ ?_ ?_
                  rotate_left 2
                  · go_simp
                    all_goals (with_reducible rfl)
                  · simp only [Act.put, List.setIfInBounds_toArray, List.set_cons_zero, List.set_cons_succ]
                    rfl
                  refine StillAt.take' (i := 3) (v := ?_) (a' := ?_) HLq rfl (by rfl) ?_ ?_ ?_
                  rotate_left 2
                  · go_simp
                    all_goals (with_reducible rfl)
                  · simp only [Act.put, List.setIfInBounds_toArray, List.set_cons_zero, List.set_cons_succ]
                    rfl
                  refine StillAt.take' (i := 4) (v := ?_) (a' := ?_) HLq rfl (by rfl) ?_ ?_ ?_
                  rotate_left 2
                  · go_simp
                    all_goals (with_reducible rfl)
                  · simp only [Act.put, List.setIfInBounds_toArray, List.set_cons_zero, List.set_cons_succ]
                    rfl
                  refine StillAt.take' (i := 5) (v := ?_) (a' := ?_) HLq rfl (by rfl) ?_ ?_ ?_
                  rotate_left 2
                  · go_simp
                    all_goals (with_reducible rfl)
                  · simp only [Act.put, List.setIfInBounds_toArray, List.set_cons_zero, List.set_cons_succ]
                    rfl
                  refine StillAt.take' (i := 6) (v := ?_) (a' := ?_) HLq rfl (by rfl) ?_ ?_ ?_
                  rotate_left 2
                  · go_simp
                    all_goals (with_reducible rfl)
                  · simp only [Act.put, List.setIfInBounds_toArray, List.set_cons_zero, List.set_cons_succ]
                    rfl
                  refine StillAt.take' (i := 7) (v := ?_) (a' := ?_) HLq rfl (by rfl) ?_ ?_ ?_
                  rotate_left 2
                  · go_simp
                    all_goals (with_reducible rfl)
                  · simp only [Act.put, List.setIfInBounds_toArray, List.set_cons_zero, List.set_cons_succ]
                    rfl
                  refine StillAt.skip' (i := 8) (a' := ?_) HLq rfl (by rfl) ?_ ?_
                  rotate_left 1
                  · simp only [Act.put, List.setIfInBounds_toArray, List.set_cons_zero, List.set_cons_succ]
                    rfl
                  refine StillAt.skip' (i := 9) (a' := ?_) HLq rfl (by rfl) ?_ ?_
                  rotate_left 1
                  · simp only [Act.put, List.setIfInBounds_toArray, List.set_cons_zero, List.set_cons_succ]
                    rfl
                  refine StillAt.skip' (i := 10) (a' := ?_) HLq rfl (by rfl) ?_ ?_
                  rotate_left 1
                  · simp only [Act.put, List.setIfInBounds_toArray, List.set_cons_zero, List.set_cons_succ]
                    rfl
                  refine StillAt.skip' (i := 11) (a' := ?_) HLq rfl (by rfl) ?_ ?_
                  rotate_left 1
                  · simp only [Act.put, List.setIfInBounds_toArray, List.set_cons_zero, List.set_cons_succ]
                    rfl
                  refine StillAt.take' (i := 12) (v := ?_) (a' := ?_) HLq rfl (by rfl) ?_ ?_ ?_
                  rotate_left 2
                  · go_simp
                    all_goals (with_reducible rfl)
                  · simp only [Act.put, List.setIfInBounds_toArray, List.set_cons_zero, List.set_cons_succ]
                    rfl
                  refine StillAt.done' HLq rfl ?_
                  refine HQq.out _ ?_
                  clear HQq HLq Qq lq
                  simp only [List.drop_succ_cons, List.drop_zero]
                  go_wp2_with (go_at_call 29; (with_reducible refine Calls.mono (must_false _ _) ?_); rintro e w' ⟨rfl, rfl⟩)
                  exact ⟨rfl, StrPost.no HNO.out (by decide) (HKB.out _ (HKD.out _ HKr.out))⟩
              have e8 : (kind == 8) = false := beq_eq_false_iff_ne.2 g8
              by_cases g9 : kind = 9
              · have e9 : (kind == 9) = true := by simp [g9]
                have G := Lib.hid g9
                clear g9
                go_wp2_with fail
                refine (all_calls ⟨#[105, 110, 116]⟩ q _ _ _ HROW.out).mono ?_
                rintro e w3 ⟨hb3, hm⟩
                have HK3 := Lib.hid (HKX.out _ _ HKr.out hb3)
                clear hb3
                cases ha : allIs txInt q with
                | false =>
                  have HNO := Lib.hid (show sortOf ds sc (.mk kind name neg xs ks) = none by rw [HTOP.out, topOf.eq_def]; rw [if_neg g2, if_neg (by omega), if_neg g7, if_neg g8, if_pos G.out, ha]; simp)
                  rw [show allIs ⟨#[105, 110, 116]⟩ q = false from ha] at hm
                  subst hm
                  exact ⟨rfl, StrPost.no HNO.out (by decide) (HKB.out _ HK3.out)⟩
                | true =>
                  have HYES := Lib.hid (show sortOf ds sc (.mk kind name neg xs ks) = some txBool by rw [HTOP.out, topOf.eq_def]; rw [if_neg g2, if_neg (by omega), if_neg g7, if_neg g8, if_pos G.out, ha]; simp)
                  rw [show allIs ⟨#[105, 110, 116]⟩ q = true from ha] at hm
                  subst hm
                  clear ha
                  dsimp only
                  go_wp2_with fail
                  go_ret
                  exact StrPost.yes HYES.out (HKB.out _ HK3.out)
              have e9 : (kind == 9) = false := beq_eq_false_iff_ne.2 g9
              go_wp2_with fail
              refine (all_calls ⟨#[98, 111, 111, 108]⟩ q _ _ _ HROW.out).mono ?_
              rintro e w3 ⟨hb3, hm⟩
              have HK3 := Lib.hid (HKX.out _ _ HKr.out hb3)
              clear hb3
              cases ha : allIs txBool q with
              | false =>
                have HNO := Lib.hid (show sortOf ds sc (.mk kind name neg xs ks) = none by rw [HTOP.out, topOf.eq_def]; rw [if_neg g2, if_neg (by omega), if_neg g7, if_neg g8, if_neg g9, ha]; simp)
                rw [show allIs ⟨#[98, 111, 111, 108]⟩ q = false from ha] at hm
                subst hm
                exact ⟨rfl, StrPost.no HNO.out (by decide) (HKB.out _ HK3.out)⟩
              | true =>
                have HYES := Lib.hid (show sortOf ds sc (.mk kind name neg xs ks) = some txBool by rw [HTOP.out, topOf.eq_def]; rw [if_neg g2, if_neg (by omega), if_neg g7, if_neg g8, if_neg g9, ha]; simp)
                rw [show allIs ⟨#[98, 111, 111, 108]⟩ q = true from ha] at hm
                subst hm
                clear ha
                dsimp only
                go_wp2_with fail
                go_ret
                exact StrPost.yes HYES.out (HKB.out _ HK3.out)
mutual
theorem ssort_calls (ds : List Dt) (sc : List Sd) : ∀ t : Tm, SortAt ds sc t
  | .mk k n g xs ks => sort_step ds sc k n g xs ks (ssort_all ds sc ks)
theorem ssort_all (ds : List Dt) (sc : List Sd) : ∀ l : List Tm, ∀ t ∈ l, SortAt ds sc t
  | [], t, h => by cases h
  | x :: l, t, h => by
    rcases List.mem_cons.1 h with hx | h
    · exact hx ▸ ssort_calls ds sc x
    · exact ssort_all ds sc l t h
end
end Wh
