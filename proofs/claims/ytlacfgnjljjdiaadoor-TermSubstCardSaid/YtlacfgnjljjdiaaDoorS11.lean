import Derived.Test.YtlacfgnjljjdiaaDoorS9
import Derived.Maps.OwnOps
set_option linter.unusedVariables false
set_option linter.unusedSimpArgs false
open Go Go.RowKit Go.Proofs
namespace Wh
/-! ### the law's met -/
mutual
theorem frees_low : ∀ (t : Tm), t.low → ∀ x ∈ t.frees, x.size ≤ 140737488355328
  | .mk k n g ds ks, h, x, hx => by
    obtain ⟨_, _, h3, h4⟩ := h
    simp only [Tm.frees, List.mem_append] at hx
    rcases hx with hx | hx
    · split at hx
      · rw [List.mem_singleton] at hx
        rw [hx]
        exact h3
      · cases hx
    · exact freess_low ks h4 x hx
theorem freess_low : ∀ (l : List Tm), Tm.lows l → ∀ x ∈ Tm.freess l, x.size ≤ 140737488355328
  | [], _, x, hx => by cases hx
  | t :: ts, h, x, hx => by
    simp only [Tm.freess, List.mem_append] at hx
    rcases hx with hx | hx
    · exact frees_low t h.1 x hx
    · exact freess_low ts h.2 x hx
end
structure MK (w : World) (a t : Tm) (l : List ByteArray) (ts : List Tm) (ua ut : List Value) (lv tv : Value) (W : World) : Prop where
  low : Below w.heap.size w W
  ba : Blk W w.heap.size ua.toArray 28
  bt : Blk W (w.heap.size + 1) ut.toArray 28
  ra : D.rdRow W (fun g => g < w.heap.size) a.enc ua
  rt : D.rdRow W (fun g => g < w.heap.size) t.enc ut
  rl : D.rd W (fun g => g < w.heap.size) (.strs 9 l) lv
  rts : D.rd W (fun g => g < w.heap.size) (.row 28 5 (Tm.encs ts)) tv
theorem MK.below {w : World} {a t : Tm} {l : List ByteArray} {ts : List Tm} {ua ut : List Value} {lv tv : Value} {W W' : World} (h : MK w a t l ts ua ut lv tv W) (hb : Below (w.heap.size + 2) W W') : MK w a t l ts ua ut lv tv W' :=
  ⟨h.low.trans (hb.mono (by omega)), h.ba.below hb (by omega), h.bt.below hb (by omega), D.rdRow_mono (fun g hg => ⟨hg, hb.block g (by omega)⟩) _ _ h.ra, D.rdRow_mono (fun g hg => ⟨hg, hb.block g (by omega)⟩) _ _ h.rt, D.rd_mono (fun g hg => ⟨hg, hb.block g (by omega)⟩) _ _ h.rl, D.rd_mono (fun g hg => ⟨hg, hb.block g (by omega)⟩) _ _ h.rts⟩
theorem below_of_map {W W' : World} {b B : Nat} (h : W.grownBy W' (some b)) (hB : B ≤ b) (hs : B ≤ W.heap.size) : Below B W W' := ⟨h.os, h.tape, h.output, h.size, fun g hg => h.block g (by omega) (by intro e; injection e with e; omega)⟩
set_option maxHeartbeats 4000000 in
set_option maxRecDepth 100000 in
theorem met_calls (a t : Tm) (l : List ByteArray) (ts : List Tm) (w : World) (ua ut : List Value) (lv tv : Value)
    (ra : D.rdRow w (fun _ => True) a.enc ua) (rt : D.rdRow w (fun _ => True) t.enc ut) (rl : D.rd w (fun _ => True) (.strs 9 l) lv) (rts : D.rd w (fun _ => True) (.row 28 5 (Tm.encs ts)) tv)
    (la : a.low) (lt : t.low) (lts : Tm.lows ts) (sa : a.size ≤ 100000) (st : t.size ≤ 100000) (sts : ∀ u ∈ ts, u.size ≤ 100000) (hlen : l.length ≤ ts.length) (hl3 : l.length ≤ 300) (hln : ∀ x ∈ l, x.size ≤ 140737488355328)
    (H : ∀ x ∈ a.frees, (x ∈ t.frees ∧ x ∉ l) ∨ ∃ i u, i < l.length ∧ ts[i]? = some u ∧ x ∈ u.frees) :
    Calls Tryd.prog 17 #[.agg ua.toArray, .agg ut.toArray, lv, tv] w (Tells w (.bool true)) := by
  have hE := ext_alloc (ext_alloc (Below.refl w.heap.size w) (.cells ua.toArray 28)) (.cells ut.toArray 28)
  have HK0 : Hid (MK w a t l ts ua ut lv tv ((w.alloc (.cells ua.toArray 28)).alloc (.cells ut.toArray 28))) := Lib.hid ⟨hE, (Blk.new _ _ _).alloc _, Blk.new' _ _ _ (by simp), D.rdRow_ext (D.rdRow_old ra) hE, D.rdRow_ext (D.rdRow_old rt) hE, D.rd_ext (D.rd_old rl) hE, D.rd_ext (D.rd_old rts) hE⟩
  obtain ⟨k1, n1, g1, x1, s1⟩ := a
  obtain ⟨k2, n2, g2, x2, s2⟩ := t
  obtain ⟨dA, dc, kA, kc, rfl, _, _⟩ := Tm.open ra
  obtain ⟨dA', dc', kA', kc', rfl, _, _⟩ := Tm.open rt
  obtain ⟨A3, c3, rfl, hd3, _, _⟩ := D.rd_strs rl
  obtain ⟨A4, c4, rfl, hd4⟩ := rd_terms_A rts
  clear ra rt rl rts hE
  generalize hA : Tm.mk k1 n1 g1 x1 s1 = a at *
  generalize hT : Tm.mk k2 n2 g2 x2 s2 = t at *
  clear hT hA
  obtain ⟨K, hKd⟩ : ∃ K : World → Prop, K = MK w a t l ts [.int .u8 k1, .string n1, .bool g1, .slice dA x1.length dc, .slice kA s1.length kc] [.int .u8 k2, .string n2, .bool g2, .slice dA' x2.length dc', .slice kA' s2.length kc'] (.slice A3 l.length c3) (.slice A4 ts.length c4) := ⟨_, rfl⟩
  have HK : Hid (K ((w.alloc (.cells #[.int .u8 k1, .string n1, .bool g1, .slice dA x1.length dc, .slice kA s1.length kc] 28)).alloc (.cells #[.int .u8 k2, .string n2, .bool g2, .slice dA' x2.length dc', .slice kA' s2.length kc'] 28))) := Lib.hid (hKd ▸ HK0.out)
  have HKX : Hid (∀ W W', K W → Below (w.heap.size + 2) W W' → K W') := Lib.hid (by subst hKd; exact fun W W' h hb => h.below hb)
  have HKB : Hid (∀ W, K W → Below w.heap.size w W) := Lib.hid (by subst hKd; exact fun W h => h.low)
  have HKF : Hid (∀ W, K W → (W.cell? ⟨w.heap.size, 0, none⟩ = some (.int .u8 k1) ∧ W.cell? ⟨w.heap.size, 1, none⟩ = some (.string n1) ∧ W.cell? ⟨w.heap.size, 2, none⟩ = some (.bool g1) ∧ W.cell? ⟨w.heap.size, 3, none⟩ = some (.slice dA x1.length dc) ∧ W.cell? ⟨w.heap.size, 4, none⟩ = some (.slice kA s1.length kc)) ∧
    (W.cell? ⟨w.heap.size + 1, 0, none⟩ = some (.int .u8 k2) ∧ W.cell? ⟨w.heap.size + 1, 1, none⟩ = some (.string n2) ∧ W.cell? ⟨w.heap.size + 1, 2, none⟩ = some (.bool g2) ∧ W.cell? ⟨w.heap.size + 1, 3, none⟩ = some (.slice dA' x2.length dc') ∧ W.cell? ⟨w.heap.size + 1, 4, none⟩ = some (.slice kA' s2.length kc')) ∧ w.heap.size < W.heap.size ∧ w.heap.size + 1 < W.heap.size) := Lib.hid (by subst hKd; exact fun W h => ⟨(Blk.c5 h.ba).1, (Blk.c5 h.bt).1, h.ba.lt, h.bt.lt⟩)
  have HFA : Hid (∀ W, K W → Calls Tryd.prog 14 #[.agg #[.int .u8 k1, .string n1, .bool g1, .slice dA x1.length dc, .slice kA s1.length kc]] W (TextsPost W (tidy a.frees))) := Lib.hid (by subst hKd; exact fun W h => free_calls a W _ _ h.ra (by omega))
  have HFT : Hid (∀ W, K W → Calls Tryd.prog 14 #[.agg #[.int .u8 k2, .string n2, .bool g2, .slice dA' x2.length dc', .slice kA' s2.length kc']] W (TextsPost W (tidy t.frees))) := Lib.hid (by subst hKd; exact fun W h => free_calls t W _ _ h.rt (by omega))
  have HKL : Hid (∀ W, K W → D.rd W (fun g => g < w.heap.size) (.strs 9 l) (.slice A3 l.length c3) ∧ D.rd W (fun g => g < w.heap.size) (.row 28 5 (Tm.encs ts)) (.slice A4 ts.length c4)) := Lib.hid (by subst hKd; exact fun W h => ⟨h.rl, h.rts⟩)
  have HH := Lib.hid H
  have HLN := Lib.hid hln
  have HSTS := Lib.hid sts
  have HLA := Lib.hid (frees_low a la)
  have HLT := Lib.hid (frees_low t lt)
  have HLTS := Lib.hid lts
  have hfl : (tidy t.frees).length ≤ 100000 := Nat.le_trans (tidy_len _) (Nat.le_trans (Tm.frees_len t) st)
  have hfa : (tidy a.frees).length ≤ 100000 := Nat.le_trans (tidy_len _) (Nat.le_trans (Tm.frees_len a) sa)
  have HMT : Hid (∀ x, x ∈ tidy t.frees ↔ x ∈ t.frees) := Lib.hid (tidy_mem _)
  have HMA : Hid (∀ x, x ∈ tidy a.frees ↔ x ∈ a.frees) := Lib.hid (tidy_mem _)
  generalize tidy t.frees = fr at *
  generalize tidy a.frees = fa at *
  clear HK0 hKd H hln sts la lt lts sa st
  have hmm := @run_makeMap Tryd.prog
  obtain ⟨⟨a0, a1, a2, a3, a4⟩, ⟨b0, b1, b2, b3, b4⟩, z1, z2⟩ := HKF.out _ HK.out
  go_enter Tryd.func17, Tryd.ntmps17
  go_wp2_with fail
  have HK1 := Lib.hid (HKX.out _ _ HK.out ((ext_alloc (Below.refl _ _) (.map #[] 0)).mono (by simp)))
  have HO1 : Hid (OwnM ((((w.alloc (.cells #[.int .u8 k1, .string n1, .bool g1, .slice dA x1.length dc, .slice kA s1.length kc] 28)).alloc (.cells #[.int .u8 k2, .string n2, .bool g2, .slice dA' x2.length dc', .slice kA' s2.length kc'] 28))).alloc (.map #[] 0)) (w.heap.size + 1 + 1) 0 (.map [])) := Lib.hid (by simpa using OwnM.made (((w.alloc (.cells #[.int .u8 k1, .string n1, .bool g1, .slice dA x1.length dc, .slice kA s1.length kc] 28)).alloc (.cells #[.int .u8 k2, .string n2, .bool g2, .slice dA' x2.length dc', .slice kA' s2.length kc'] 28))))
  refine (HFT.out _ HK1.out).mono ?_
  rintro e w2 ⟨hb2, A, c, rfl, hrd⟩
  have hz2 := hb2.size
  simp at hz2
  have HK2 := Lib.hid (HKX.out _ _ HK1.out (hb2.mono (by simp)))
  have HO2 := Lib.hid (HO1.out.ext hb2)
  have HRD := Lib.hid (D.rd_imp hrd (ok' := fun g => g ≠ (w.heap.size + 1 + 1)) (fun g hg => by simp at hg; omega))
  clear hb2 hrd HK HK1 HO1 a0 a1 a2 a3 a4 b0 b1 b2 b3 b4 z1 z2
  dsimp only
  go_wp2_with fail
  go_loopw [11] (fun i wr => ∃ (k n : Nat) (M : Dm), k ≤ fr.length ∧ i = .int .i64 k ∧ n ≤ k ∧ w.heap.size + 2 < wr.heap.size ∧ Hid (K wr) ∧ Hid (OwnM wr (w.heap.size + 1 + 1) n M) ∧ Hid (D.rd wr (fun g => g ≠ (w.heap.size + 1 + 1)) (.strs 9 fr) (.slice A fr.length c)) ∧ Hid (∀ x ∈ fr.take k, TrueAt M x)) (fun i _ => fr.length - (RowKit.intOf i).toNat)
  case atStart => exact ⟨0, 0, .map [], Nat.zero_le _, rfl, Nat.le_refl _, by omega, HK2, HO2, HRD, Lib.hid (by simp)⟩
  case round =>
    obtain ⟨k, n, M, hk, rfl, hn, hzr, HKr, HO, HR, HP⟩ := hrel
    rename World => wl
    by_cases hlt : k < fr.length
    · have b1 : (0 : Int) ≤ k := by omega
      have b2 : (k : Int) < fr.length := by omega
      obtain ⟨g, o, x, rfl, _, hg, hx, hc⟩ := D.strs_at HR.out k hlt
      have hxs : x.size ≤ 140737488355328 := HLT.out x ((HMT.out x).1 (List.mem_of_getElem? hx))
      obtain ⟨w3, hrun, hown3, hg3⟩ := HO.out.store x true (by omega) hxs
      have hz3 := hg3.size
      have HO3 := Lib.hid hown3
      have HK3 := Lib.hid (HKX.out _ _ HKr.out (below_of_map hg3 (by omega) (by omega)))
      have HR3 := Lib.hid (D.rd_grown HR.out hg3 (fun g hg => by intro e; injection e with e; exact hg e))
      have HP3 := Lib.hid (show ∀ y ∈ fr.take (k + 1), TrueAt (M.put (keyOfS x) (.lit (.bool true))) y from fun y hy => by
        rw [List.take_add_one, hx] at hy
        refine TrueAt.put HO.out.isMap ?_
        rcases List.mem_append.1 hy with hy | hy
        · exact .inl (HP.out y hy)
        · exact .inr (by simpa using hy))
      clear hown3 hg3 hx HO HKr HR HP
      go_wp2_with fail
      go_roundw
      case rel => exact ⟨k + 1, n + 1, _, by omega, by go_num, by omega, by omega, HK3, HO3, HR3, HP3⟩
      case measure => simp [RowKit.intOf]; omega
    · have hkk : k = fr.length := by omega
      subst hkk
      have b2 : ¬ (fr.length : Int) < fr.length := by omega
      have HP1 := Lib.hid (show ∀ x ∈ fr, x ∉ ([] : List ByteArray) → TrueAt M x from fun x hx _ => HP.out x (by rw [List.take_length]; exact hx))
      clear HP HR
      go_wp2_with fail
      go_loopw [12] (fun i wr => ∃ (k n : Nat) (M : Dm), k ≤ l.length ∧ i = .int .i64 k ∧ n ≤ 100000 + k ∧ w.heap.size + 2 < wr.heap.size ∧ Hid (K wr) ∧ Hid (OwnM wr (w.heap.size + 1 + 1) n M) ∧ Hid (∀ x ∈ fr, x ∉ l.take k → TrueAt M x)) (fun i _ => l.length - (RowKit.intOf i).toNat)
      case atStart => exact ⟨0, n, M, Nat.zero_le _, rfl, by omega, hzr, HKr, HO, HP1⟩
      case round =>
        obtain ⟨k, n, M, hk, rfl, hn, hzr, HKr, HO, HP⟩ := hrel
        rename World => wl
        by_cases hlt : k < l.length
        · have b1 : (0 : Int) ≤ k := by omega
          have b2 : (k : Int) < l.length := by omega
          obtain ⟨g, o, x, rfl, _, hg, hx, hc⟩ := D.strs_at (HKL.out _ HKr.out).1 k hlt
          have hxs : x.size ≤ 140737488355328 := HLN.out x (List.mem_of_getElem? hx)
          obtain ⟨w3, hrun, hown3, hg3⟩ := HO.out.store x false (by omega) hxs
          have hz3 := hg3.size
          have HO3 := Lib.hid hown3
          have HK3 := Lib.hid (HKX.out _ _ HKr.out (below_of_map hg3 (by omega) (by omega)))
          have HP3 := Lib.hid (show ∀ y ∈ fr, y ∉ l.take (k + 1) → TrueAt (M.put (keyOfS x) (.lit (.bool false))) y from fun y hy hn => by
            rw [List.take_add_one, hx] at hn
            refine TrueAt.kept (HP.out y hy (fun h => hn (List.mem_append.2 (.inl h)))) (fun h => hn (List.mem_append.2 (.inr (by simp [h]))))
            )
          clear hown3 hg3 hx HO HKr HP
          go_wp2_with fail
          go_roundw
          case rel => exact ⟨k + 1, n + 1, _, by omega, by go_num, by omega, by omega, HK3, HO3, HP3⟩
          case measure => simp [RowKit.intOf]; omega
        · have hkk : k = l.length := by omega
          subst hkk
          have b2 : ¬ (l.length : Int) < l.length := by omega
          have HP2 := Lib.hid (show (∀ x ∈ fr, x ∉ l → TrueAt M x) ∧ ∀ (i : Nat) (u : Tm), i < 0 → ts[i]? = some u → ∀ x ∈ u.frees, TrueAt M x from ⟨fun x hx hn => HP.out x hx (by rw [List.take_length]; exact hn), fun i u hi => absurd hi (by omega)⟩)
          clear HP
          go_wp2_with fail
          go_loopw [13] (fun i wr => ∃ (k n : Nat) (M : Dm), k ≤ l.length ∧ i = .int .i64 k ∧ n ≤ 100300 + k * 100000 ∧ w.heap.size + 2 < wr.heap.size ∧ Hid (K wr) ∧ Hid (OwnM wr (w.heap.size + 1 + 1) n M) ∧ Hid ((∀ x ∈ fr, x ∉ l → TrueAt M x) ∧ ∀ (i : Nat) (u : Tm), i < k → ts[i]? = some u → ∀ x ∈ u.frees, TrueAt M x)) (fun i _ => l.length - (RowKit.intOf i).toNat)
          case atStart => exact ⟨0, n, M, Nat.zero_le _, rfl, by omega, hzr, HKr, HO, HP2⟩
          case round =>
            obtain ⟨k, n, M, hk, rfl, hn, hzr, HKr, HO, HP⟩ := hrel
            rename World => wl
            by_cases hlt : k < l.length
            · have b1 : (0 : Int) ≤ k := by omega
              have b2 : (k : Int) < l.length := by omega
              have b3 : (k : Int) < ts.length := by omega
              have hkt : k < ts.length := by omega
              obtain ⟨g, o, kd, nm, ng, xd, ls, eA, ec, lA, lc, rfl, _, hg, hkk, hr, q0, q1, q2, q3, q4⟩ := Tm.kid (HKL.out _ HKr.out).2 k hkt
              have hszk := HSTS.out ts[k] (List.getElem_mem hkt)
              have hcall := free_calls ts[k] wl _ _ (by rw [hkk]; exact hr) (by omega)
              have HC := Lib.hid hcall
              have HTK := Lib.hid (show ts[k]? = some ts[k] from List.getElem?_eq_getElem hkt)
              have HML := Lib.hid (frees_low ts[k] (Tm.lows_get ts HLTS.out k hkt))
              have hml : (tidy ts[k].frees).length ≤ 100000 := Nat.le_trans (tidy_len _) (Nat.le_trans (Tm.frees_len _) hszk)
              have HMM : Hid (∀ x, x ∈ tidy ts[k].frees ↔ x ∈ ts[k].frees) := Lib.hid (tidy_mem _)
              clear hkk hr hcall
              generalize tidy ts[k].frees = m at *
              generalize ts[k] = u at *
              go_wp2_with fail
              refine HC.out.mono ?_
              rintro e w3 ⟨hb3, A5, c5, rfl, hrd⟩
              have hz3 := hb3.size
              have HK3 := Lib.hid (HKX.out _ _ HKr.out (hb3.mono (by omega)))
              have HO3 := Lib.hid (HO.out.ext hb3)
              have HRD := Lib.hid (D.rd_imp hrd (ok' := fun g => g ≠ (w.heap.size + 1 + 1)) (fun g hg => by omega))
              have HP3 := Lib.hid (show ((∀ x ∈ fr, x ∉ l → TrueAt M x) ∧ ∀ (i : Nat) (u : Tm), i < k → ts[i]? = some u → ∀ x ∈ u.frees, TrueAt M x) ∧ ∀ x ∈ m.take 0, TrueAt M x from ⟨HP.out, by simp⟩)
              clear hb3 hrd HKr HO HP HC q0 q1 q2 q3 q4
              dsimp only
              obtain ⟨wo, hwo⟩ : ∃ wo : World, wo = wl := ⟨_, rfl⟩
              go_wp2_with fail
              go_loopw [15] (fun i wr => ∃ (j n : Nat) (M : Dm), j ≤ m.length ∧ i = .int .i64 j ∧ n ≤ 100300 + k * 100000 + j ∧ w.heap.size + 2 < wr.heap.size ∧ Hid (K wr) ∧ Hid (OwnM wr (w.heap.size + 1 + 1) n M) ∧ Hid (D.rd wr (fun g => g ≠ (w.heap.size + 1 + 1)) (.strs 9 m) (.slice A5 m.length c5)) ∧ Hid (((∀ x ∈ fr, x ∉ l → TrueAt M x) ∧ ∀ (i : Nat) (u : Tm), i < k → ts[i]? = some u → ∀ x ∈ u.frees, TrueAt M x) ∧ ∀ x ∈ m.take j, TrueAt M x)) (fun i _ => m.length - (RowKit.intOf i).toNat)
              case atStart => exact ⟨0, n, M, Nat.zero_le _, rfl, by omega, by omega, HK3, HO3, HRD, HP3⟩
              case round =>
                obtain ⟨j, n, M, hj, rfl, hn2, hzr2, HKr, HO, HR, HP⟩ := hrel
                rename World => wx
                by_cases hlj : j < m.length
                · have d1 : (0 : Int) ≤ j := by omega
                  have d2 : (j : Int) < m.length := by omega
                  obtain ⟨g', o', x, rfl, _, hg', hx, hc⟩ := D.strs_at HR.out j hlj
                  have hxs : x.size ≤ 140737488355328 := HML.out x ((HMM.out x).1 (List.mem_of_getElem? hx))
                  obtain ⟨w4, hrun, hown4, hg4⟩ := HO.out.store x true (by omega) hxs
                  have hz4 := hg4.size
                  have HO4 := Lib.hid hown4
                  have HK4 := Lib.hid (HKX.out _ _ HKr.out (below_of_map hg4 (by omega) (by omega)))
                  have HR4 := Lib.hid (D.rd_grown HR.out hg4 (fun g hg => by intro e; injection e with e; exact hg e))
                  have HP4 := Lib.hid (show ((∀ y ∈ fr, y ∉ l → TrueAt (M.put (keyOfS x) (.lit (.bool true))) y) ∧ ∀ (i : Nat) (u : Tm), i < k → ts[i]? = some u → ∀ y ∈ u.frees, TrueAt (M.put (keyOfS x) (.lit (.bool true))) y) ∧ ∀ y ∈ m.take (j + 1), TrueAt (M.put (keyOfS x) (.lit (.bool true))) y from
                    ⟨⟨fun y h1 h2 => TrueAt.put HO.out.isMap (.inl (HP.out.1.1 y h1 h2)), fun i u hi hu y hy => TrueAt.put HO.out.isMap (.inl (HP.out.1.2 i u hi hu y hy))⟩, fun y hy => by
                      rw [List.take_add_one, hx] at hy
                      refine TrueAt.put HO.out.isMap ?_
                      rcases List.mem_append.1 hy with hy | hy
                      · exact .inl (HP.out.2 y hy)
                      · exact .inr (by simpa using hy)⟩)
                  clear hown4 hg4 hx HO HKr HR HP
                  go_wp2_with fail
                  go_roundw
                  case rel => exact ⟨j + 1, n + 1, _, by omega, by go_num, by omega, by omega, HK4, HO4, HR4, HP4⟩
                  case measure => simp [RowKit.intOf]; omega
                · have hjj : j = m.length := by omega
                  subst hjj
                  have d2 : ¬ (m.length : Int) < m.length := by omega
                  have HP4 := Lib.hid (show (∀ x ∈ fr, x ∉ l → TrueAt M x) ∧ ∀ (i : Nat) (u : Tm), i < k + 1 → ts[i]? = some u → ∀ x ∈ u.frees, TrueAt M x from ⟨HP.out.1.1, fun i u' hi hu x hx => by
                    by_cases hik : i = k
                    · subst hik
                      rw [HTK.out] at hu
                      cases hu
                      exact HP.out.2 x (by rw [List.take_length]; exact (HMM.out x).2 hx)
                    · exact HP.out.1.2 i u' (by omega) hu x hx⟩)
                  clear HP HR
                  go_wp2_with fail
                  go_roundw
                  case rel => exact ⟨k + 1, n, M, by omega, by go_num, by omega, by omega, HKr, HO, HP4⟩
                  case measure => simp [RowKit.intOf]; omega
            · have hkk : k = l.length := by omega
              subst hkk
              have b2 : ¬ (l.length : Int) < l.length := by omega
              have HALL := Lib.hid (show ∀ x ∈ fa, TrueAt M x from fun x hx => by
                rcases HH.out x ((HMA.out x).1 hx) with ⟨h1, h2⟩ | ⟨i, u, hi, hu, hx2⟩
                · exact HP.out.1 x ((HMT.out x).2 h1) h2
                · exact HP.out.2 i u hi hu x hx2)
              obtain ⟨⟨a0, a1, a2, a3, a4⟩, _, z1, z2⟩ := HKF.out _ HKr.out
              clear HP
              go_wp2_with fail
              refine (HFA.out _ HKr.out).mono ?_
              rintro e w3 ⟨hb3, A5, c5, rfl, hrd⟩
              have HK3 := Lib.hid (HKX.out _ _ HKr.out (hb3.mono (by omega)))
              have HO3 := Lib.hid (HO.out.ext hb3)
              have HRD := Lib.hid (D.rd_imp hrd (ok' := fun _ => True) (fun _ _ => trivial))
              clear hb3 hrd HKr HO a0 a1 a2 a3 a4 z1 z2
              dsimp only
              go_wp2_with fail
              go_loopw [17] (fun i wr => ∃ j : Nat, j ≤ fa.length ∧ i = .int .i64 j ∧ wr = w3) (fun i _ => fa.length - (RowKit.intOf i).toNat)
              case atStart => exact ⟨0, Nat.zero_le _, rfl, rfl⟩
              case round =>
                obtain ⟨j, hj, rfl, hwr⟩ := hrel
                subst hwr
                by_cases hlj : j < fa.length
                · have d1 : (0 : Int) ≤ j := by omega
                  have d2 : (j : Int) < fa.length := by omega
                  obtain ⟨g', o', x, rfl, _, hg', hx, hc⟩ := D.strs_at HRD.out j hlj
                  have hxm : x ∈ fa := List.mem_of_getElem? hx
                  have hxs : x.size ≤ 140737488355328 := HLA.out x ((HMA.out x).1 hxm)
                  obtain ⟨cv, hrun, hat⟩ := HO3.out.look x hxs
                  obtain rfl : cv = true := by
                    have := HALL.out x hxm
                    unfold TrueAt at this
                    rw [hat] at this
                    simpa using this
                  clear hx hxm hat
                  go_wp2_with fail
                  go_roundw
                  case rel => exact ⟨j + 1, by omega, by go_num, by first | rfl | trivial⟩
                  case measure => simp [RowKit.intOf]; omega
                · have hjj : j = fa.length := by omega
                  subst hjj
                  have d2 : ¬ (fa.length : Int) < fa.length := by omega
                  go_wp2_with fail
                  go_ret
                  exact ⟨rfl, HKB.out _ HK3.out⟩
end Wh
