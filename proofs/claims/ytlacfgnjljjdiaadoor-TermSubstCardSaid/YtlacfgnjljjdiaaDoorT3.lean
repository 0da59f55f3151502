import Derived.Test.YtlacfgnjljjdiaaDoorT2
set_option linter.unusedVariables false
set_option linter.unusedSimpArgs false
open Go Go.RowKit Go.Proofs
namespace Wh
/-! ### what is put for a name -/
def lookTo (l : List ByteArray) (ts : List Tm) (name : ByteArray) : Nat → Option Tm
  | 0 => none
  | k + 1 => if l[k]? = some name then ts[k]? else lookTo l ts name k
/-- Of a name that comes twice the last one's; names, terms beyond the other row's end say nothing. -/
def look (l : List ByteArray) (ts : List Tm) (name : ByteArray) : Option Tm := lookTo l ts name (min l.length ts.length)
def Tm.putOf (l : List ByteArray) (ts : List Tm) (t : Tm) : Option Tm := if t.kind = 1 then look l ts t.name else none
mutual
def Tm.subst (l : List ByteArray) (ts : List Tm) : Tm → Tm
  | .mk k n g ds ks => match Tm.putOf l ts (.mk k n g ds ks) with
    | some x => x
    | none => .mk k n g ds (Tm.substs l ts ks)
def Tm.substs (l : List ByteArray) (ts : List Tm) : List Tm → List Tm
  | [] => []
  | t :: us => t.subst l ts :: Tm.substs l ts us
end
theorem Tm.substs_eq (l : List ByteArray) (ts : List Tm) : ∀ us : List Tm, Tm.substs l ts us = us.map (Tm.subst l ts)
  | [] => rfl
  | t :: us => by simp [Tm.substs, Tm.substs_eq l ts us]
/-- What a maker's closure reads: how many pairs, the names, the terms. -/
def PutEnv (w : World) (bm bn bl bt : Nat) (l : List ByteArray) (ts : List Tm) : Prop :=
  bn ≠ bm ∧ bl ≠ bm ∧ bt ≠ bm ∧ Blk w bn #[.int .i64 ((min l.length ts.length : Nat) : Int)] 3 ∧ ∃ lA lc tA tc, Blk w bl #[.slice lA l.length lc] 34 ∧ Blk w bt #[.slice tA ts.length tc] 26 ∧
    D.rd w (fun g => g ≠ bm) (.strs 9 l) (.slice lA l.length lc) ∧ D.rd w (fun g => g ≠ bm) (.row 28 5 (Tm.encs ts)) (.slice tA ts.length tc)
theorem PutEnv.keep {w w' : World} {bm bn bl bt : Nat} {l : List ByteArray} {ts : List Tm} (h : PutEnv w bm bn bl bt l ts) (hg : w.grownBy w' (some bm)) : PutEnv w' bm bn bl bt l ts := by
  obtain ⟨h1, h2, h3, h4, lA, lc, tA, tc, h5, h6, h7, h8⟩ := h
  exact ⟨h1, h2, h3, h4.grown hg (by simpa using h1), lA, lc, tA, tc, h5.grown hg (by simpa using h2), h6.grown hg (by simpa using h3), D.rd_grown h7 hg (fun g hg => by simpa using hg), D.rd_grown h8 hg (fun g hg => by simpa using hg)⟩
def PutPost (w : World) (bm : Nat) (made : Int) (fv : Value) (r : Option Tm) (us : List Value) (e : Ending) (w' : World) : Prop :=
  w.grownBy w' (some bm) ∧ match r with
  | none => e = .returned (.tuple #[.agg us.toArray, .bool false]) ∧ Blk w' bm #[.int .i64 made, fv] 109
  | some x => (made + x.size ≤ 20000 ∧ Blk w' bm #[.int .i64 (made + x.size), fv] 109 ∧ ∃ vs, e = .returned (.tuple #[.agg vs.toArray, .bool true]) ∧ MadeRow w' (fun g => w.heap.size ≤ g) x.enc vs) ∨
    (20000 < made + x.size ∧ e = .panicked (thrown 34))
theorem lookTo_hit {l : List ByteArray} {ts : List Tm} {name : ByteArray} {k : Nat} (h : l[k]? = some name) : lookTo l ts name (k + 1) = ts[k]? := by simp [lookTo, h]
theorem lookTo_miss {l : List ByteArray} {ts : List Tm} {name x : ByteArray} {k : Nat} (h : l[k]? = some x) (hne : x ≠ name) : lookTo l ts name (k + 1) = lookTo l ts name k := by simp [lookTo, h, hne]
set_option maxHeartbeats 1000000 in
set_option maxRecDepth 100000 in
theorem names1_calls (t : Tm) (w : World) (ok : Nat → Prop) (us : List Value) (bm bn bl bt : Nat) (made : Int) (fv : Value) (l : List ByteArray) (ts : List Tm) (hr : D.rdRow w ok t.enc us) (hts : Tm.fitss ts)
    (hm : Blk w bm #[.int .i64 made, fv] 109) (h0 : 0 ≤ made) (h1 : made ≤ 20000) (he : PutEnv w bm bn bl bt l ts) :
    Calls Tryd.prog 54 #[.pointer (some ⟨bm, 0, none⟩), .agg us.toArray, .pointer (some ⟨bn, 0, none⟩), .pointer (some ⟨bl, 0, none⟩), .pointer (some ⟨bt, 0, none⟩)] w (PutPost w bm made fv (Tm.putOf l ts t) us) := by
  obtain ⟨kind, name, neg, ds, ks⟩ := t
  obtain ⟨dA, dc, kA, kc, rfl, hd, hk⟩ := Tm.open hr
  obtain ⟨n1, n2, n3, hn, lA, lc, tA, tc, hl, ht, hlr, htr⟩ := he
  obtain ⟨x0, xf⟩ := Blk.c1 hn
  obtain ⟨y0, yf⟩ := Blk.c1 hl
  obtain ⟨z0, zf⟩ := Blk.c1 ht
  have i0 := hn.lt
  have i1 := hl.lt
  have i2 := ht.lt
  have i3 := hm.lt
  have HM := Lib.hid hm
  have HLR := Lib.hid hlr
  have HTR := Lib.hid htr
  have HTS := Lib.hid hts
  have hlen := D.strs_len hlr
  have hnm : ((min l.length ts.length : Nat) : Int) ≤ 9223372036854775807 := by omega
  clear hr hd hk hn hl ht hlr htr hts hm xf yf zf
  generalize hnn : min l.length ts.length = nn at *
  have HNN := Lib.hid hnn
  clear hnn
  go_enter Tryd.func54, Tryd.ntmps54
  go_wp2_with fail
  go_loopw [9] (fun i wr => ∃ (j : Int) (n : Nat), -1 ≤ j ∧ j < nn ∧ i = .int .i64 j ∧ wr = (((w.alloc (.cells #[.int .u8 kind, .string name, .bool neg, .slice dA ds.length dc, .slice kA ks.length kc] 28)).alloc (.cells #[.int .u8 0, .string ⟨#[]⟩, .bool false, .slice none 0 0, .slice none 0 0] 28)).drewN n) ∧ Hid (kind = 1 → lookTo l ts name nn = lookTo l ts name (j + 1).toNat)) (fun i _ => (intOf i + 1).toNat)
  case atStart => exact ⟨nn - 1, 0, by omega, by omega, rfl, rfl, fun _ => by congr 1; omega⟩
  case round =>
    obtain ⟨j, n, hj1, hj2, rfl, rfl, hlook⟩ := hrel
    by_cases hj : 0 ≤ j
    · obtain ⟨m, rfl⟩ := Int.eq_ofNat_of_zero_le hj
      by_cases hkind : kind = 1
      · have hkb : (kind == 1) = true := by simpa using hkind
        have hml : m < l.length := by have := HNN.out; omega
        have hmt : m < ts.length := by have := HNN.out; omega
        obtain ⟨g, o, x, rfl, hgb, hgl, hx, hc⟩ := D.strs_at HLR.out m hml
        have HX := Lib.hid hx
        have HK1 := Lib.hid hkind
        have b2 : (m : Int) < l.length := by omega
        have b3 : (m : Int) < ts.length := by omega
        clear hx hkind
        by_cases hxe : x = name
        · have hxb := str_yes hxe
          have HXE := Lib.hid hxe
          clear hxe
          obtain ⟨g2, o2, kd, nm, ng, xd, ls, dA2, dc2, lA2, lc2, rfl, hgok, hgl2, hkk, hkid, e0, e1, e2, e3, e4⟩ := Tm.kid HTR.out m hmt
          have HKK := Lib.hid hkk
          have HKID := Lib.hid hkid
          clear hkk hkid
          have hkf : (Tm.mk kd nm ng xd ls).fits := by
            have := Tm.fitss_get ts HTS.out m hmt
            rwa [HKK.out] at this
          have HKF := Lib.hid hkf
          have hputs : Tm.putOf l ts (.mk kind name neg ds ks) = some (.mk kd nm ng xd ls) := by
            simp only [Tm.putOf, Tm.kind, HK1.out, Tm.name, look, HNN.out, if_true]
            rw [hlook.out HK1.out, show ((m : Int) + 1).toNat = m + 1 by omega, lookTo_hit (by rw [HX.out, HXE.out]), List.getElem?_eq_getElem hmt, HKK.out]
          have HPS := Lib.hid hputs
          clear hkf hputs hlook
          go_wp2_with fail
          go_quiet (fail)
          go_wp2_with fail
          refine make_call (copied_calls _ (.mk kd nm ng xd ls) _ (fun g => g ≠ bm) _ bm made fv (Nat.le_refl _) HKF.out (D.rdRow_grown (row := some bm) HKID.out (grown_drewN (grown_alloc (grown_alloc (grown_refl _ _) _) _) _) (fun g hg => by simpa using hg)) (fun g hg => hg) (((HM.out.alloc _).alloc _).drewN) h0 h1) ?_ ?_
          · intro w2 hbig hg2
            refine ⟨rfl, ?_⟩
            rw [HPS.out]
            exact ⟨grown_trans (grown_drewN (grown_alloc (grown_alloc (grown_refl _ _) _) _) _) hg2, .inr ⟨hbig, rfl⟩⟩
          · intro w2 dA3 dc3 lA3 lc3 hfit hg2 hb2 hr2
            have hz := (Blk.new' (w.alloc (.cells #[.int .u8 kind, .string name, .bool neg, .slice dA ds.length dc, .slice kA ks.length kc] 28)) #[.int .u8 0, .string ⟨#[]⟩, .bool false, .slice none 0 0, .slice none 0 0] 28 (n := w.heap.size + 1) (by simp)).drewN (n := n + nq) |>.grown hg2 (by simp; omega)
            obtain ⟨⟨q0, q1, q2, q3, q4⟩, r0, r1, r2, r3, r4⟩ := Blk.c5 hz
            have HL := Lib.hid (set5_blk (a := .int .u8 kd) (b := .string nm) (c := .bool ng) (d := .slice dA3 xd.length dc3) (e := .slice lA3 ls.length lc3) hz)
            have HG2 := Lib.hid hg2
            have HB2 := Lib.hid hb2
            have HR2 := Lib.hid hr2
            clear hz hg2 hb2 hr2
            go_wp2_with fail
            have hl := Blk.c5 HL.out
            unfold set5 at hl
            obtain ⟨⟨l0, l1, l2, l3, l4⟩, _⟩ := hl
            refine bodyPost_ret (v := .tuple #[.agg #[.int .u8 kd, .string nm, .bool ng, .slice dA3 xd.length dc3, .slice lA3 ls.length lc3], .bool true]) (by simp [results, Tryd.results54, go_sem, l0, l1, l2, l3, l4]) rfl ?_
            rw [HPS.out]
            refine ⟨set5_grown (grown_trans (grown_drewN (grown_alloc (grown_alloc (grown_refl _ _) _) _) _) HG2.out) (by omega) _ _ _ _ _, ?_⟩
            refine .inl ⟨hfit, HB2.out.keep (set5_keep (by omega)), [_, _, _, _, _], rfl, MadeRow.keep HR2.out (fun g hg hl => ?_)⟩
            have hg' : w.heap.size + 2 ≤ g := by
              have : (((w.alloc (.cells #[.int .u8 kind, .string name, .bool neg, .slice dA ds.length dc, .slice kA ks.length kc] 28)).alloc (.cells #[.int .u8 0, .string ⟨#[]⟩, .bool false, .slice none 0 0, .slice none 0 0] 28)).drewN (n + nq)).heap.size = w.heap.size + 2 := by simp [World.drewN]
              omega
            exact ⟨by omega, set5_keep (by omega)⟩
        · have hxb := str_no hxe
          have HXE := Lib.hid hxe
          clear hxe
          go_wp2_with fail
          go_quiet (fail)
          go_wp2_with fail
          go_roundw
          case rel => exact ⟨m - 1, _, by omega, by omega, rfl, rfl, fun hk => by rw [hlook.out hk, show ((m : Int) + 1).toNat = m + 1 by omega, lookTo_miss HX.out HXE.out]; congr 1; omega⟩
          case measure => (simp [intOf] <;> omega)
      · have hkb : (kind == 1) = false := by simpa using hkind
        have hput : Tm.putOf l ts (.mk kind name neg ds ks) = none := by simp [Tm.putOf, Tm.kind, hkind]
        have HP := Lib.hid hput
        clear hput hkind
        go_wp2_with fail
        refine bodyPost_ret (v := .tuple #[.agg #[.int .u8 kind, .string name, .bool neg, .slice dA ds.length dc, .slice kA ks.length kc], .bool false]) (by simp [results, Tryd.results54, go_sem]) rfl ?_
        rw [HP.out]
        exact ⟨set5_grown (grown_drewN (grown_alloc (grown_alloc (grown_refl _ _) _) _) _) (by omega) _ _ _ _ _, rfl, (((HM.out.alloc _).alloc _).drewN).keep (set5_keep (by omega))⟩
    · go_wp2_with fail
      refine bodyPost_ret (v := .tuple #[.agg #[.int .u8 kind, .string name, .bool neg, .slice dA ds.length dc, .slice kA ks.length kc], .bool false]) (by simp [results, Tryd.results54, go_sem]) rfl ?_
      have hput : Tm.putOf l ts (.mk kind name neg ds ks) = none := by
        simp only [Tm.putOf, Tm.kind, Tm.name, look, HNN.out]
        split
        · rename_i hk
          rw [hlook.out hk, show (j + 1).toNat = 0 by omega]
          rfl
        · rfl
      rw [hput]
      exact ⟨set5_grown (grown_drewN (grown_alloc (grown_alloc (grown_refl _ _) _) _) _) (by omega) _ _ _ _ _, rfl, (((HM.out.alloc _).alloc _).drewN).keep (set5_keep (by omega))⟩
end Wh
