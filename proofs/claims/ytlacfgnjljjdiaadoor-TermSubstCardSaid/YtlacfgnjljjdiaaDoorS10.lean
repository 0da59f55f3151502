import Derived.Test.YtlacfgnjljjdiaaDoorS9
import Derived.Test.YtlacfgnjljjdiaaDoorS6
set_option linter.unusedVariables false
set_option linter.unusedSimpArgs false
open Go Go.RowKit Go.Proofs
namespace Wh
/-! ### the law's sorts -/
theorem sortOf_v (ds : List Dt) (sc : List Sd) (n : ByteArray) : sortOf ds sc (Tm.v n) = varOf ds sc n := by
  unfold Tm.v
  rw [sortOf, if_pos (by decide), if_pos rfl]
structure LK (w : World) (ds : List Dt) (sc : List Sd) (t a : Tm) (l : List ByteArray) (ts : List Tm) (dv sv : Value) (ut ua : List Value) (lv tv : Value) (W : World) : Prop where
  low : Below w.heap.size w W
  bt : Blk W w.heap.size ut.toArray 28
  ba : Blk W (w.heap.size + 1) ua.toArray 28
  rt : D.rdRow W (fun _ => True) t.enc ut
  ra : D.rdRow W (fun _ => True) a.enc ua
  rd : D.rd W (fun _ => True) (.row 86 2 (ds.map Dt.enc)) dv
  rs : D.rd W (fun _ => True) (.row 156 2 (sc.map Sd.enc)) sv
  rl : D.rd W (fun _ => True) (.strs 9 l) lv
  rts : D.rd W (fun _ => True) (.row 28 5 (Tm.encs ts)) tv
theorem LK.ext {w : World} {ds : List Dt} {sc : List Sd} {t a : Tm} {l : List ByteArray} {ts : List Tm} {dv sv : Value} {ut ua : List Value} {lv tv : Value} {W W' : World} (h : LK w ds sc t a l ts dv sv ut ua lv tv W) (hb : Below W.heap.size W W') : LK w ds sc t a l ts dv sv ut ua lv tv W' :=
  ⟨h.low.trans (hb.mono h.low.size), h.bt.ext hb, h.ba.ext hb, D.rdRow_ext h.rt hb, D.rdRow_ext h.ra hb, D.rd_ext h.rd hb, D.rd_ext h.rs hb, D.rd_ext h.rl hb, D.rd_ext h.rts hb⟩
def PairOk (ds : List Dt) (sc : List Sd) (l : List ByteArray) (ts : List Tm) (k : Nat) : Prop := ∀ (i : Nat) (n : ByteArray) (u : Tm), i < k → l[i]? = some n → ts[i]? = some u → ∃ x, varOf ds sc n = some x ∧ sortOf ds sc u = some x
set_option maxHeartbeats 2000000 in
set_option maxRecDepth 100000 in
theorem sorts_calls (ds : List Dt) (sc : List Sd) (t a : Tm) (l : List ByteArray) (ts : List Tm) (w : World) (dv sv : Value) (ut ua : List Value) (lv tv : Value)
    (rt : D.rdRow w (fun _ => True) t.enc ut) (ra : D.rdRow w (fun _ => True) a.enc ua) (rd : D.rd w (fun _ => True) (.row 86 2 (ds.map Dt.enc)) dv) (rs : D.rd w (fun _ => True) (.row 156 2 (sc.map Sd.enc)) sv) (rl : D.rd w (fun _ => True) (.strs 9 l) lv) (rts : D.rd w (fun _ => True) (.row 28 5 (Tm.encs ts)) tv)
    (wt : t.wf ∧ t.low ∧ t.fits) (wa : a.wf ∧ a.low ∧ a.fits) (wts : Tm.wfs ts ∧ Tm.lows ts ∧ Tm.fitss ts) (hlen : l.length ≤ ts.length) (hln : ∀ x ∈ l, x.size ≤ 140737488355328)
    (H : ∀ s, sortOf ds sc t = some s → PairOk ds sc l ts l.length → sortOf ds sc a = some s) :
    Calls Tryd.prog 16 #[dv, sv, .agg ut.toArray, .agg ua.toArray, lv, tv] w (Tells w (.bool true)) := by
  have hE := ext_alloc (ext_alloc (Below.refl w.heap.size w) (.cells ut.toArray 28)) (.cells ua.toArray 28)
  have HK0 : Hid (LK w ds sc t a l ts dv sv ut ua lv tv ((w.alloc (.cells ut.toArray 28)).alloc (.cells ua.toArray 28))) := Lib.hid ⟨hE, (Blk.new _ _ _).alloc _, Blk.new' _ _ _ (by simp), D.rdRow_ext rt hE, D.rdRow_ext ra hE, D.rd_ext rd hE, D.rd_ext rs hE, D.rd_ext rl hE, D.rd_ext rts hE⟩
  obtain ⟨k1, n1, g1, x1, s1⟩ := t
  obtain ⟨k2, n2, g2, x2, s2⟩ := a
  obtain ⟨dA, dc, kA, kc, rfl, _, _⟩ := Tm.open rt
  obtain ⟨dA', dc', kA', kc', rfl, _, _⟩ := Tm.open ra
  obtain ⟨A1, c1, rfl, hd1⟩ := rd_map rd
  obtain ⟨A2, c2, rfl, hd2⟩ := rd_map rs
  obtain ⟨A3, c3, rfl, hd3, _, _⟩ := D.rd_strs rl
  obtain ⟨A4, c4, rfl, hd4⟩ := rd_terms_A rts
  clear rt ra rd rs rl rts hE
  generalize hT : Tm.mk k1 n1 g1 x1 s1 = t at *
  generalize hA : Tm.mk k2 n2 g2 x2 s2 = a at *
  clear hT hA
  obtain ⟨K, hKd⟩ : ∃ K : World → Prop, K = LK w ds sc t a l ts (.slice A1 ds.length c1) (.slice A2 sc.length c2) [.int .u8 k1, .string n1, .bool g1, .slice dA x1.length dc, .slice kA s1.length kc] [.int .u8 k2, .string n2, .bool g2, .slice dA' x2.length dc', .slice kA' s2.length kc'] (.slice A3 l.length c3) (.slice A4 ts.length c4) := ⟨_, rfl⟩
  have HK : Hid (K ((w.alloc (.cells #[.int .u8 k1, .string n1, .bool g1, .slice dA x1.length dc, .slice kA s1.length kc] 28)).alloc (.cells #[.int .u8 k2, .string n2, .bool g2, .slice dA' x2.length dc', .slice kA' s2.length kc'] 28))) := Lib.hid (hKd ▸ HK0.out)
  have HKX : Hid (∀ W W', K W → Below W.heap.size W W' → K W') := Lib.hid (by subst hKd; exact fun W W' h hb => h.ext hb)
  have HKB : Hid (∀ W, K W → Below w.heap.size w W) := Lib.hid (by subst hKd; exact fun W h => h.low)
  have HKF : Hid (∀ W, K W → (W.cell? ⟨w.heap.size, 0, none⟩ = some (.int .u8 k1) ∧ W.cell? ⟨w.heap.size, 1, none⟩ = some (.string n1) ∧ W.cell? ⟨w.heap.size, 2, none⟩ = some (.bool g1) ∧ W.cell? ⟨w.heap.size, 3, none⟩ = some (.slice dA x1.length dc) ∧ W.cell? ⟨w.heap.size, 4, none⟩ = some (.slice kA s1.length kc)) ∧
    (W.cell? ⟨w.heap.size + 1, 0, none⟩ = some (.int .u8 k2) ∧ W.cell? ⟨w.heap.size + 1, 1, none⟩ = some (.string n2) ∧ W.cell? ⟨w.heap.size + 1, 2, none⟩ = some (.bool g2) ∧ W.cell? ⟨w.heap.size + 1, 3, none⟩ = some (.slice dA' x2.length dc') ∧ W.cell? ⟨w.heap.size + 1, 4, none⟩ = some (.slice kA' s2.length kc')) ∧ w.heap.size < W.heap.size ∧ w.heap.size + 1 < W.heap.size) := Lib.hid (by subst hKd; exact fun W h => ⟨(Blk.c5 h.bt).1, (Blk.c5 h.ba).1, h.bt.lt, h.ba.lt⟩)
  have HST : Hid (∀ W, K W → Calls Tryd.prog 40 #[.slice A1 ds.length c1, .slice A2 sc.length c2, .agg #[.int .u8 k1, .string n1, .bool g1, .slice dA x1.length dc, .slice kA s1.length kc]] W (SortPost W (sortOf ds sc t))) := Lib.hid (by subst hKd; exact fun W h => Sort_calls ds sc t W _ _ _ h.rt h.rd h.rs wt.1 wt.2.1 wt.2.2)
  have HSA : Hid (∀ W, K W → Calls Tryd.prog 40 #[.slice A1 ds.length c1, .slice A2 sc.length c2, .agg #[.int .u8 k2, .string n2, .bool g2, .slice dA' x2.length dc', .slice kA' s2.length kc']] W (SortPost W (sortOf ds sc a))) := Lib.hid (by subst hKd; exact fun W h => Sort_calls ds sc a W _ _ _ h.ra h.rd h.rs wa.1 wa.2.1 wa.2.2)
  have HSU : Hid (∀ W u us, K W → D.rdRow W (fun _ => True) u.enc us → u.wf → u.low → u.fits → Calls Tryd.prog 40 #[.slice A1 ds.length c1, .slice A2 sc.length c2, .agg us.toArray] W (SortPost W (sortOf ds sc u))) := Lib.hid (by subst hKd; exact fun W u us h hr h1 h2 h3 => Sort_calls ds sc u W _ _ _ hr h.rd h.rs h1 h2 h3)
  have HKL : Hid (∀ W, K W → D.rd W (fun _ => True) (.strs 9 l) (.slice A3 l.length c3) ∧ D.rd W (fun _ => True) (.row 28 5 (Tm.encs ts)) (.slice A4 ts.length c4)) := Lib.hid (by subst hKd; exact fun W h => ⟨h.rl, h.rts⟩)
  have HH := Lib.hid H
  have HLN := Lib.hid hln
  have HWS := Lib.hid wts
  clear HK0 hKd H hln wt wa wts
  obtain ⟨⟨a0, a1, a2, a3, a4⟩, ⟨b0, b1, b2, b3, b4⟩, z1, z2⟩ := HKF.out _ HK.out
  go_enter Tryd.func16, Tryd.ntmps16
  go_wp2_with fail
  refine (HST.out _ HK.out).mono ?_
  rintro e w1 ⟨hb1, hm⟩
  have HK1 := Lib.hid (HKX.out _ _ HK.out hb1)
  clear hb1 HK a0 a1 a2 a3 a4 b0 b1 b2 b3 b4 z1 z2
  cases hst : sortOf ds sc t with
  | none =>
    rw [hst] at hm
    obtain ⟨n, hn, rfl⟩ := hm
    have e1 : (n != 0) = true := by simp [hn]
    clear hst
    dsimp only
    go_wp2_with fail
    go_ret
    exact ⟨rfl, HKB.out _ HK1.out⟩
  | some s =>
    rw [hst] at hm
    subst hm
    have HH2 := Lib.hid (HH.out s hst)
    clear hst HH HST
    dsimp only
    go_wp2_with fail
    go_loopw [15] (fun i wr => ∃ k : Nat, k ≤ l.length ∧ i = .int .i64 k ∧ Hid (K wr) ∧ Hid (PairOk ds sc l ts k)) (fun i _ => l.length - (RowKit.intOf i).toNat)
    case atStart => exact ⟨0, Nat.zero_le _, rfl, HK1, Lib.hid (fun i n u h => absurd h (by omega))⟩
    case round =>
      obtain ⟨k, hk, rfl, HKr, HP⟩ := hrel
      rename World => wl
      by_cases hlt : k < l.length
      · have b1 : (0 : Int) ≤ k := by omega
        have b2 : (k : Int) < l.length := by omega
        have b3 : (k : Int) < ts.length := by omega
        have hkt : k < ts.length := by omega
        obtain ⟨hl1, hl2⟩ := HKL.out _ HKr.out
        obtain ⟨g, o, n, rfl, _, hg, hx, hc⟩ := D.strs_at hl1 k hlt
        have hns : n.size ≤ 140737488355328 := HLN.out n (List.mem_of_getElem? hx)
        have HX := Lib.hid hx
        clear hl1 hl2 hx
        go_wp2_with fail
        refine (v_calls n wl).mono ?_
        rintro e w2 ⟨rfl, hb2⟩
        have HK2 := Lib.hid (HKX.out _ _ HKr.out hb2)
        clear hb2 hc
        dsimp only
        go_wp2_with fail
        refine (HSU.out w2 (Tm.v n) [.int .u8 1, .string n, .bool false, .slice none 0 0, .slice none 0 0] HK2.out (rd_tm (D.rd_nil _ _) (D.rd_nil _ _)) ⟨by omega, by omega, by simp, trivial⟩ ⟨by simp, by simp, hns, trivial⟩ ⟨by simp, by simp, trivial⟩).mono ?_
        rintro e w3 ⟨hb3, hm3⟩
        rw [sortOf_v] at hm3
        have HK3 := Lib.hid (HKX.out _ _ HK2.out hb3)
        clear hb3
        obtain ⟨x, f, rfl, hf⟩ : ∃ (x : ByteArray) (f : Int), e = .returned (.tuple #[.string x, .int .i64 f]) ∧ (f = 0 → varOf ds sc n = some x) := by
          cases hv : varOf ds sc n with
          | none =>
            rw [hv] at hm3
            obtain ⟨z, hz, rfl⟩ := hm3
            exact ⟨_, z, rfl, fun h => absurd h hz⟩
          | some x =>
            rw [hv] at hm3
            exact ⟨x, 0, hm3, fun _ => rfl⟩
        have HF := Lib.hid hf
        clear hf hm3
        obtain ⟨hl1, hl2⟩ := HKL.out _ HK3.out
        obtain ⟨g', o', kd, nm, ng, xd, ls, eA, ec, lA, lc, rfl, _, hg', hkk, hr, q0, q1, q2, q3, q4⟩ := Tm.kid hl2 k hkt
        have hcall := HSU.out w3 (ts[k]) _ HK3.out (by rw [hkk]; exact hr) (Tm.wfs_get ts HWS.out.1 k hkt) (Tm.lows_get ts HWS.out.2.1 k hkt) (Tm.fitss_get ts HWS.out.2.2 k hkt)
        have HC := Lib.hid hcall
        have HTK := Lib.hid (show ts[k]? = some ts[k] from List.getElem?_eq_getElem hkt)
        clear hl1 hl2 hkk hr hcall
        generalize ts[k] = u at *
        dsimp only
        go_wp2_with fail
        refine HC.out.mono ?_
        rintro e w4 ⟨hb4, hm4⟩
        have HK4 := Lib.hid (HKX.out _ _ HK3.out hb4)
        clear hb4 q0 q1 q2 q3 q4
        obtain ⟨y, g4, rfl, hg4⟩ : ∃ (y : ByteArray) (f : Int), e = .returned (.tuple #[.string y, .int .i64 f]) ∧ (f = 0 → sortOf ds sc u = some y) := by
          cases hv : sortOf ds sc u with
          | none =>
            rw [hv] at hm4
            obtain ⟨z, hz, rfl⟩ := hm4
            exact ⟨_, z, rfl, fun h => absurd h hz⟩
          | some x =>
            rw [hv] at hm4
            exact ⟨x, 0, hm4, fun _ => rfl⟩
        have HG := Lib.hid hg4
        clear hg4 hm4
        dsimp only
        by_cases hf0 : f = 0
        · subst hf0
          by_cases hg0 : g4 = 0
          · subst hg0
            by_cases hxy : x = y
            · have e1 : (x.toList == y.toList) = true := str_yes hxy
              have HP2 := Lib.hid (show PairOk ds sc l ts (k + 1) from fun i n' u' hi h1 h2 => by
                by_cases hik : i = k
                · subst hik
                  rw [HX.out] at h1
                  rw [HTK.out] at h2
                  cases h1
                  cases h2
                  exact ⟨x, HF.out rfl, by rw [HG.out rfl, hxy]⟩
                · exact HP.out i n' u' (by omega) h1 h2)
              clear hxy
              go_wp2_with fail
              go_roundw
              case rel => exact ⟨k + 1, by omega, by go_num, HK4, HP2⟩
              case measure => simp [RowKit.intOf]; omega
            · have e1 : (x.toList == y.toList) = false := str_no hxy
              clear hxy
              go_wp2_with fail
              go_ret
              exact ⟨rfl, HKB.out _ HK4.out⟩
          · have e1 : (g4 != 0) = true := by simp [hg0]
            go_wp2_with fail
            go_ret
            exact ⟨rfl, HKB.out _ HK4.out⟩
        · have e1 : (f != 0) = true := by simp [hf0]
          go_wp2_with fail
          go_ret
          exact ⟨rfl, HKB.out _ HK4.out⟩
      · obtain rfl : k = l.length := by omega
        have b2 : ¬ (l.length : Int) < l.length := by omega
        obtain ⟨⟨a0, a1, a2, a3, a4⟩, ⟨b0, b1, b2', b3, b4⟩, z1, z2⟩ := HKF.out _ HKr.out
        have HSF := Lib.hid (HH2.out HP.out)
        go_wp2_with fail
        refine (HSA.out _ HKr.out).mono ?_
        rintro e w2 ⟨hb2, hm⟩
        rw [HSF.out] at hm
        subst hm
        have HK2 := Lib.hid (HKX.out _ _ HKr.out hb2)
        clear hb2
        dsimp only
        go_wp2_with fail
        go_ret
        exact ⟨rfl, HKB.out _ HK2.out⟩
end Wh
