import Derived.Test.YtlacfgnjljjdiaaDoorS10
import Derived.Test.YtlacfgnjljjdiaaDoorS11
set_option linter.unusedVariables false
set_option linter.unusedSimpArgs false
open Go Go.RowKit Go.Proofs
namespace Wh
/-! ### TermSubst -/
mutual
theorem fits_of_parts : ∀ t : Tm, t.low → t.parts ≤ 3000 → t.fits ∧ (t.size : Int) ≤ t.parts ∧ 1 ≤ t.parts
  | .mk k n g ds ks, hlow, hp => by
    rw [Tm.parts] at hp
    obtain ⟨l1, l2, l3, l4⟩ := hlow
    have h0 := partss_nonneg ks
    obtain ⟨f1, f2, f3⟩ := fitss_of_parts ks l4 (by omega)
    rw [Tm.fits, Tm.size, Tm.parts]
    exact ⟨⟨by omega, by omega, f1⟩, by omega, by omega⟩
theorem fitss_of_parts : ∀ l : List Tm, Tm.lows l → Tm.partss l ≤ 3000 → Tm.fitss l ∧ (Tm.sizes l : Int) ≤ Tm.partss l ∧ (l.length : Int) ≤ Tm.partss l
  | [], _, _ => by simp [Tm.fitss, Tm.sizes, Tm.partss]
  | t :: ts, hlow, hp => by
    rw [Tm.partss] at hp
    have h0 := partss_nonneg ts
    have h1 := parts_nonneg t
    obtain ⟨f1, f2, f3⟩ := fits_of_parts t hlow.1 (by omega)
    obtain ⟨g1, g2, g3⟩ := fitss_of_parts ts hlow.2 (by omega)
    rw [Tm.fitss, Tm.sizes, Tm.partss, List.length_cons]
    exact ⟨⟨f1, g1⟩, by omega, by omega⟩
theorem parts_nonneg : ∀ t : Tm, 0 ≤ t.parts
  | .mk k n g ds ks => by
    have := partss_nonneg ks
    rw [Tm.parts]
    omega
theorem partss_nonneg : ∀ l : List Tm, 0 ≤ Tm.partss l
  | [] => by simp [Tm.partss]
  | t :: ts => by
    have := partss_nonneg ts
    have := parts_nonneg t
    rw [Tm.partss]
    omega
end
theorem size_le_sizes : ∀ (l : List Tm) (u : Tm), u ∈ l → u.size ≤ Tm.sizes l
  | t :: ts, u, h => by
    rw [Tm.sizes]
    rcases List.mem_cons.1 h with rfl | h
    · omega
    · have := size_le_sizes ts u h
      omega
structure L0 (w : World) (B : Nat) (ds : List Dt) (sc : List Sd) (t : Tm) (l : List ByteArray) (ts : List Tm) (dv sv : Value) (ut : List Value) (lv tv : Value) (W : World) : Prop where
  low : Below w.heap.size w W
  env : Env B W
  bt : Blk W w.heap.size ut.toArray 28
  rt : D.rdRow W (fun _ => True) t.enc ut
  rd : D.rd W (fun _ => True) (.row 86 2 (ds.map Dt.enc)) dv
  rs : D.rd W (fun _ => True) (.row 156 2 (sc.map Sd.enc)) sv
  rl : D.rd W (fun _ => True) (.strs 9 l) lv
  rts : D.rd W (fun _ => True) (.row 28 5 (Tm.encs ts)) tv
theorem L0.ext {w : World} {B : Nat} {ds : List Dt} {sc : List Sd} {t : Tm} {l : List ByteArray} {ts : List Tm} {dv sv : Value} {ut : List Value} {lv tv : Value} {W W' : World} (h : L0 w B ds sc t l ts dv sv ut lv tv W) (hb : Below W.heap.size W W') : L0 w B ds sc t l ts dv sv ut lv tv W' :=
  ⟨h.low.trans (hb.mono h.low.size), h.env.below (hb.mono h.env.1), h.bt.ext hb, D.rdRow_ext h.rt hb, D.rd_ext h.rd hb, D.rd_ext h.rs hb, D.rd_ext h.rl hb, D.rd_ext h.rts hb⟩
def vcells (l : List ByteArray) : List Value := l.flatMap vCells
theorem vcells_snoc (l : List ByteArray) (n : ByteArray) : vcells (l ++ [n]) = vcells l ++ [.int .u8 1, .string n, .bool false, .slice none 0 0, .slice none 0 0] := by simp [vcells, vCells]
theorem rdCells_vs {w : World} {ok : Nat → Prop} : ∀ l : List ByteArray, D.rdCells w ok 5 (Tm.encs (l.map Tm.v)) (vcells l)
  | [] => by simp [D.rdCells, Tm.encs, vcells]
  | n :: l => by
    have h := rdCells_vs (w := w) (ok := ok) l
    have e : vcells (n :: l) = vCells n ++ vcells l := by simp [vcells]
    rw [e, List.map_cons, Tm.encs]
    exact rdCells_cons rfl (rd_tm (D.rd_nil _ _) (D.rd_nil _ _)) h
set_option maxHeartbeats 4000000 in
set_option maxRecDepth 100000 in
theorem termSubst_calls (ds : List Dt) (sc : List Sd) (t : Tm) (l : List ByteArray) (ts : List Tm) (B : Nat) (w : World) (dv sv : Value) (ut : List Value) (lv tv : Value)
    (rt : D.rdRow w (fun _ => True) t.enc ut) (rd : D.rd w (fun _ => True) (.row 86 2 (ds.map Dt.enc)) dv) (rs : D.rd w (fun _ => True) (.row 156 2 (sc.map Sd.enc)) sv) (rl : D.rd w (fun _ => True) (.strs 9 l) lv) (rts : D.rd w (fun _ => True) (.row 28 5 (Tm.encs ts)) tv)
    (henv : Env B w) (wt : t.wf) (lt : t.low) (wts : Tm.wfs ts) (lts : Tm.lows ts) (hln : ∀ x ∈ l, x.size ≤ 140737488355328) :
    Calls Tryd.prog 4 #[dv, sv, .agg ut.toArray, lv, tv] w (Tells w (.bool true)) := by
  have hE := ext_alloc (Below.refl w.heap.size w) (.cells ut.toArray 28)
  have HK0 : Hid (L0 w B ds sc t l ts dv sv ut lv tv (w.alloc (.cells ut.toArray 28))) := Lib.hid ⟨hE, henv.below (hE.mono henv.1), Blk.new _ _ _, D.rdRow_ext rt hE, D.rd_ext rd hE, D.rd_ext rs hE, D.rd_ext rl hE, D.rd_ext rts hE⟩
  obtain ⟨k1, n1, g1, x1, s1⟩ := t
  obtain ⟨dA, dc, kA, kc, rfl, _, _⟩ := Tm.open rt
  obtain ⟨A1, c1, rfl, hd1⟩ := rd_map rd
  obtain ⟨A2, c2, rfl, hd2⟩ := rd_map rs
  obtain ⟨A3, c3, rfl, hd3, _, _⟩ := D.rd_strs rl
  obtain ⟨A4, c4, rfl, hd4⟩ := rd_terms_A rts
  clear rt rd rs rl rts hE henv
  generalize hT : Tm.mk k1 n1 g1 x1 s1 = t at *
  clear hT
  obtain ⟨K, hKd⟩ : ∃ K : World → Prop, K = L0 w B ds sc t l ts (.slice A1 ds.length c1) (.slice A2 sc.length c2) [.int .u8 k1, .string n1, .bool g1, .slice dA x1.length dc, .slice kA s1.length kc] (.slice A3 l.length c3) (.slice A4 ts.length c4) := ⟨_, rfl⟩
  have HK : Hid (K (w.alloc (.cells #[.int .u8 k1, .string n1, .bool g1, .slice dA x1.length dc, .slice kA s1.length kc] 28))) := Lib.hid (hKd ▸ HK0.out)
  have HKX : Hid (∀ W W', K W → Below W.heap.size W W' → K W') := Lib.hid (by subst hKd; exact fun W W' h hb => h.ext hb)
  have HKB : Hid (∀ W, K W → Below w.heap.size w W) := Lib.hid (by subst hKd; exact fun W h => h.low)
  have HKF : Hid (∀ W, K W → (W.cell? ⟨w.heap.size, 0, none⟩ = some (.int .u8 k1) ∧ W.cell? ⟨w.heap.size, 1, none⟩ = some (.string n1) ∧ W.cell? ⟨w.heap.size, 2, none⟩ = some (.bool g1) ∧ W.cell? ⟨w.heap.size, 3, none⟩ = some (.slice dA x1.length dc) ∧ W.cell? ⟨w.heap.size, 4, none⟩ = some (.slice kA s1.length kc)) ∧ w.heap.size < W.heap.size) := Lib.hid (by subst hKd; exact fun W h => ⟨(Blk.c5 h.bt).1, h.bt.lt⟩)
  have HAW : Hid (∀ W, K W → Calls Tryd.prog 6 #[] W (Tells W (.bool true))) := Lib.hid (by subst hKd; exact fun W h => awake_calls B W h.env)
  have HG1 : Hid (∀ W g, K W → Blk W g #[.int .u8 k1, .string n1, .bool g1, .slice dA x1.length dc, .slice kA s1.length kc] 28 → Calls Tryd.prog 5 #[.slice A1 ds.length c1, .slice (some ⟨g, 0, none⟩) 1 1] W (GreatPost W [t])) := Lib.hid (by
    subst hKd
    exact fun W g h hb => great_calls ds [t] W (fun _ => True) (fun _ => True) _ _ h.rd (rd_blk (n := 1) hb rfl rfl (by decide) trivial (rdCells_cons (xs := []) rfl h.rt rdCells_nil)) ⟨lt, trivial⟩)
  have HG2 : Hid (∀ W, K W → Calls Tryd.prog 5 #[.slice none 0 0, .slice A4 ts.length c4] W (GreatPost W ts)) := Lib.hid (by subst hKd; exact fun W h => great_calls [] ts W (fun _ => True) (fun _ => True) _ _ (D.rd_nil _ _) h.rts lts)
  have HKR : Hid (∀ W, K W → D.rdRow W (fun _ => True) t.enc [.int .u8 k1, .string n1, .bool g1, .slice dA x1.length dc, .slice kA s1.length kc] ∧ D.rd W (fun _ => True) (.row 86 2 (ds.map Dt.enc)) (.slice A1 ds.length c1) ∧ D.rd W (fun _ => True) (.row 156 2 (sc.map Sd.enc)) (.slice A2 sc.length c2) ∧ D.rd W (fun _ => True) (.strs 9 l) (.slice A3 l.length c3) ∧ D.rd W (fun _ => True) (.row 28 5 (Tm.encs ts)) (.slice A4 ts.length c4)) := Lib.hid (by subst hKd; exact fun W h => ⟨h.rt, h.rd, h.rs, h.rl, h.rts⟩)
  have HLN := Lib.hid hln
  have HWT := Lib.hid wt
  have HLT := Lib.hid lt
  have HWS := Lib.hid wts
  have HLS := Lib.hid lts
  clear HK0 hKd hln wt lt wts lts
  go_enter Tryd.func4, Tryd.ntmps4
  go_wp2_with fail
  refine (HAW.out _ HK.out).mono ?_
  rintro e w1 ⟨rfl, hb1⟩
  have HK1 := Lib.hid (HKX.out _ _ HK.out hb1)
  clear hb1 HK
  obtain ⟨⟨a0, a1, a2, a3, a4⟩, z1⟩ := HKF.out _ HK1.out
  dsimp only
  go_wp2_with fail
  have HK1a := Lib.hid (HKX.out _ _ HK1.out (ext_alloc (Below.refl _ _) (.cells #[.int .u8 k1, .string n1, .bool g1, .slice dA x1.length dc, .slice kA s1.length kc] 28)))
  refine (HG1.out _ _ HK1a.out (Blk.new w1 _ _)).mono ?_
  rintro e w2 ⟨hb2, (rfl | ⟨rfl, hp⟩)⟩
  · have HK2 := Lib.hid (HKX.out _ _ HK1a.out hb2)
    clear hb2
    dsimp only
    go_wp2_with fail
    go_ret
    exact ⟨rfl, HKB.out _ HK2.out⟩
  have HK2 := Lib.hid (HKX.out _ _ HK1a.out hb2)
  simp only [Tm.partss] at hp
  clear hb2 HK1 HK1a a0 a1 a2 a3 a4 z1
  dsimp only
  go_wp2_with fail
  refine (HG2.out _ HK2.out).mono ?_
  rintro e w3 ⟨hb3, (rfl | ⟨rfl, hp3⟩)⟩
  · have HK3 := Lib.hid (HKX.out _ _ HK2.out hb3)
    clear hb3
    dsimp only
    go_wp2_with fail
    go_ret
    exact ⟨rfl, HKB.out _ HK3.out⟩
  have HK3 := Lib.hid (HKX.out _ _ HK2.out hb3)
  clear hb3 HK2 HG1 HG2
  dsimp only
  by_cases hs3 : 300 < sc.length
  · have e1 : (300 : Int) < sc.length := by omega
    go_wp2_with fail
    go_ret
    exact ⟨rfl, HKB.out _ HK3.out⟩
  have e1 : ¬ (300 : Int) < sc.length := by omega
  by_cases hl3 : 300 < l.length
  · have e2 : (300 : Int) < l.length := by omega
    go_wp2_with fail
    go_ret
    exact ⟨rfl, HKB.out _ HK3.out⟩
  have e2 : ¬ (300 : Int) < l.length := by omega
  by_cases hlt : ts.length < l.length
  · have e3 : (ts.length : Int) < l.length := by omega
    go_wp2_with fail
    go_ret
    exact ⟨rfl, HKB.out _ HK3.out⟩
  have e3 : ¬ (ts.length : Int) < l.length := by omega
  obtain ⟨ft, zt1, _⟩ := fits_of_parts t HLT.out (by omega)
  obtain ⟨fts, zs1, _⟩ := fitss_of_parts ts HLS.out hp3
  have HFT := Lib.hid ft
  have HFS := Lib.hid fts
  have hzt : t.size ≤ 3000 := by omega
  have HZS := Lib.hid (show ∀ u ∈ ts, u.size ≤ 3000 from fun u hu => by have := size_le_sizes ts u hu; omega)
  clear ft fts zt1 zs1 hp hp3
  obtain ⟨⟨a0, a1, a2, a3, a4⟩, z1⟩ := HKF.out _ HK3.out
  go_wp2_with fail
  have hsub := subst_calls t w3 _ l ts A3 A4 c3 c4 HFS.out HFT.out (HKR.out _ HK3.out).1 (HKR.out _ HK3.out).2.2.2.1 (HKR.out _ HK3.out).2.2.2.2
  refine hsub.mono ?_
  clear hsub
  rintro e w4 ⟨hb4, (⟨hsz, ua, rfl, hma⟩ | ⟨hsz, rfl⟩)⟩
  rotate_left
  · have HK4 := Lib.hid (HKX.out _ _ HK3.out hb4)
    clear hb4 a0 a1 a2 a3 a4 z1
    dsimp only
    go_wp2_with fail
    have hz : D.rdRow (w4.alloc (.cells #[.int .u8 0, .string ⟨#[]⟩, .bool false, .slice none 0 0, .slice none 0 0] 28)) (fun _ => True) Tm.zero.enc [.int .u8 0, .string ⟨#[]⟩, .bool false, .slice none 0 0, .slice none 0 0] := rd_tm (D.rd_nil _ _) (D.rd_nil _ _)
    refine (sameTerm_calls Tm.zero Tm.zero _ (fun _ => True) (fun _ => True) _ _ hz hz).mono ?_
    clear hz
    rintro e w5 ⟨rfl, hb5⟩
    have HK5 := Lib.hid (HKX.out _ _ (HKX.out _ _ HK4.out (ext_alloc (Below.refl _ _) (.cells #[.int .u8 0, .string ⟨#[]⟩, .bool false, .slice none 0 0, .slice none 0 0] 28))) hb5)
    clear hb5
    rw [decide_eq_true rfl]
    dsimp only
    go_wp2_with fail
    go_ret
    exact ⟨rfl, HKB.out _ HK5.out⟩
  have HK4 := Lib.hid (HKX.out _ _ HK3.out hb4)
  clear hb4
  have hra4 := D.rdRow_imp hma.rd (ok' := fun _ => True) (fun _ _ => trivial)
  have hae : t.subst l ts = t.subst l ts := rfl
  obtain ⟨a, ha⟩ : ∃ a, a = t.subst l ts := ⟨_, rfl⟩
  rw [← ha] at hra4 hsz
  have HAE := Lib.hid ha
  clear ha hae hma a0 a1 a2 a3 a4 z1
  obtain ⟨k2, n2, g2, x2, s2⟩ := a
  obtain ⟨dA', dc', kA', kc', rfl, _, _⟩ := Tm.open hra4
  generalize hA : Tm.mk k2 n2 g2 x2 s2 = a at *
  clear hA
  have HA4 := Lib.hid (D.rdRow_ext hra4 (ext_alloc (Below.refl w4.heap.size w4) (.cells #[.int .u8 k2, .string n2, .bool g2, .slice dA' x2.length dc', .slice kA' s2.length kc'] 28)))
  have HB4 := Lib.hid (Blk.new w4 #[.int .u8 k2, .string n2, .bool g2, .slice dA' x2.length dc', .slice kA' s2.length kc'] 28)
  have HK5 := Lib.hid (HKX.out _ _ HK4.out (ext_alloc (Below.refl w4.heap.size w4) (.cells #[.int .u8 k2, .string n2, .bool g2, .slice dA' x2.length dc', .slice kA' s2.length kc'] 28)))
  clear hra4 HK4 HK3
  dsimp only
  go_wp2_with fail
  have hw5z : w4.heap.size + 1 = (w4.alloc (.cells #[.int .u8 k2, .string n2, .bool g2, .slice dA' x2.length dc', .slice kA' s2.length kc'] 28)).heap.size := by simp
  generalize (w4.alloc (.cells #[.int .u8 k2, .string n2, .bool g2, .slice dA' x2.length dc', .slice kA' s2.length kc'] 28)) = w5 at *
  go_loopw [13, 14] (fun v i wr => ∃ (k : Nat) (A : Option Addr) (c : Nat), k ≤ l.length ∧ v = .slice A k c ∧ i = .int .i64 k ∧ Hid (Below w5.heap.size w5 wr) ∧ Hid (wr.ownsRow w5.heap.size 28 5 (.slice A k c) k (vcells (l.take k)))) (fun _ i _ => l.length - (RowKit.intOf i).toNat)
  case atStart => exact ⟨0, none, 0, Nat.zero_le _, rfl, rfl, Lib.hid (Below.refl _ _), World.ownsRow_nil _ _ _ _⟩
  case round =>
    obtain ⟨k, A, c, hk, rfl, rfl, HBW, HO⟩ := hrel
    rename World => wl
    have HKl := Lib.hid (HKX.out _ _ HK5.out HBW.out)
    by_cases hlk : k < l.length
    · have b1 : (0 : Int) ≤ k := by omega
      have b2 : (k : Int) < l.length := by omega
      obtain ⟨g, o, n, rfl, _, hg, hx, hc⟩ := D.strs_at (HKR.out _ HKl.out).2.2.2.1 k hlk
      have HX := Lib.hid (show vcells (l.take (k + 1)) = vcells (l.take k) ++ [.int .u8 1, .string n, .bool false, .slice none 0 0, .slice none 0 0] by
        rw [List.take_add_one, hx]
        exact vcells_snoc _ _)
      have hzl := HBW.out.size
      clear hx
      go_wp2_with (first
        | (go_at_call 13; refine (v_calls n wl).mono ?_; rintro e w6 ⟨rfl, hb6⟩; have HB6 := Lib.hid hb6; have hz6 := hb6.size; clear hb6)
        | (at_builtin; go_loud (refine list_append rfl (.tmp 71) (.tmp 77) rfl Tryd.underlying26 infoTerm rfl (by decide) (by decide) w5.heap.size (.slice A k c) k (vcells (l.take k)) rfl (ownsRow_mono HO.out (fun g hg => (ext_alloc HB6.out _).block g (HO.out.lt g hg).2)) w6.heap.size #[.int .u8 1, .string n, .bool false, .slice none 0 0, .slice none 0 0] rfl (Blk.new _ _ _) rfl (by simp [Value.oneCell']) (by omega) (by simp; omega) ?_; intro A5 c5 w7 ho7 hg7 hat7; have HO7 := Lib.hid ho7; have HG7 := Lib.hid hg7; clear ho7 hg7 hat7)))
      go_roundw
      case rel =>
        refine ⟨k + 1, A5, c5, by omega, rfl, by go_num, Lib.hid ?_, Lib.hid ?_⟩
        · exact Below.grown (Below.trans HBW.out ((ext_alloc HB6.out _).mono hzl)) HG7.out (by simp; omega) (fun q hq => (HO.out.lt q hq).1)
        · rw [HX.out]
          exact HO7.out
      case measure => simp [RowKit.intOf]; omega
    · have hkk : k = l.length := by omega
      subst hkk
      have b2 : ¬ (l.length : Int) < l.length := by omega
      have hown : D.rd wl (fun _ => True) (.row 28 5 (Tm.encs (l.map Tm.v))) (.slice A (l.map Tm.v).length c) := by
        have := HO.out
        rw [List.take_length] at this
        have h2 := D.rd_of_own this (es := Tm.encs (l.map Tm.v)) (by simp [Tm.encs_eq]) (rdCells_vs l) (ok := fun _ => True) (fun _ _ => trivial)
        simpa using h2
      have hsub := subst_calls t wl _ l (l.map Tm.v) A3 A c3 c (fitss_vs l) HFT.out (HKR.out _ HKl.out).1 (HKR.out _ HKl.out).2.2.2.1 hown
      rw [List.length_map] at hsub
      have HSUB := Lib.hid hsub
      obtain ⟨⟨a0, a1, a2, a3, a4⟩, z1⟩ := HKF.out _ HKl.out
      have HAl := Lib.hid (D.rdRow_ext HA4.out HBW.out)
      have HBl := Lib.hid (HB4.out.ext HBW.out)
      have hss := subst_self_size (l := l) t
      clear hown hsub HO HA4 HB4
      go_wp2_with fail
      refine HSUB.out.mono ?_
      rintro e w8 ⟨hb8, (⟨hsz8, ub, rfl, hmb⟩ | ⟨hsz8, rfl⟩)⟩
      rotate_left
      · exact absurd hsz8 (by omega)
      have hrb8 := D.rdRow_imp hmb.rd (ok' := fun _ => True) (fun _ _ => trivial)
      obtain ⟨b, hb⟩ : ∃ b, b = t.subst l (l.map Tm.v) := ⟨_, rfl⟩
      rw [← hb] at hrb8 hsz8
      have HBE := Lib.hid hb
      clear hb hmb HSUB hss
      have HK8 := Lib.hid (HKX.out _ _ HKl.out hb8)
      have HA8 := Lib.hid (D.rdRow_ext HAl.out hb8)
      have HBA8 := Lib.hid (HBl.out.ext hb8)
      obtain ⟨k4, n4, g4, x4, s4⟩ := b
      obtain ⟨eA, ec, fA, fc, rfl, _, _⟩ := Tm.open hrb8
      generalize hBB : Tm.mk k4 n4 g4 x4 s4 = b at *
      clear hBB hb8 HKl HAl HBl a0 a1 a2 a3 a4 z1
      have HB9 := Lib.hid (D.rdRow_ext hrb8 (ext_alloc (Below.refl w8.heap.size w8) (.cells #[.int .u8 k4, .string n4, .bool g4, .slice eA x4.length ec, .slice fA s4.length fc] 28)))
      have HBB9 := Lib.hid (Blk.new w8 #[.int .u8 k4, .string n4, .bool g4, .slice eA x4.length ec, .slice fA s4.length fc] 28)
      have HK9 := Lib.hid (HKX.out _ _ HK8.out (ext_alloc (Below.refl w8.heap.size w8) (.cells #[.int .u8 k4, .string n4, .bool g4, .slice eA x4.length ec, .slice fA s4.length fc] 28)))
      have HA9 := Lib.hid (D.rdRow_ext HA8.out (ext_alloc (Below.refl w8.heap.size w8) (.cells #[.int .u8 k4, .string n4, .bool g4, .slice eA x4.length ec, .slice fA s4.length fc] 28)))
      have HBA9 := Lib.hid (HBA8.out.alloc (.cells #[.int .u8 k4, .string n4, .bool g4, .slice eA x4.length ec, .slice fA s4.length fc] 28))
      clear hrb8 HK8 HA8 HBA8
      have hw9z : w8.heap.size + 1 = (w8.alloc (.cells #[.int .u8 k4, .string n4, .bool g4, .slice eA x4.length ec, .slice fA s4.length fc] 28)).heap.size := by simp
      have hmm := @run_makeMap Tryd.prog
      obtain ⟨⟨a0, a1, a2, a3, a4⟩, z1⟩ := HKF.out _ HK9.out
      generalize hw9 : (w8.alloc (.cells #[.int .u8 k4, .string n4, .bool g4, .slice eA x4.length ec, .slice fA s4.length fc] 28)) = w9 at HK9 HA9 HBA9 HB9 HBB9 hw9z a0 a1 a2 a3 a4 z1
      dsimp only
      go_wp2_with fail
      obtain ⟨FK, hFK⟩ : ∃ FK : World → Prop, FK = fun W => K W ∧ D.rdRow W (fun _ => True) a.enc [.int .u8 k2, .string n2, .bool g2, .slice dA' x2.length dc', .slice kA' s2.length kc'] ∧ Blk W w4.heap.size #[.int .u8 k2, .string n2, .bool g2, .slice dA' x2.length dc', .slice kA' s2.length kc'] 28 ∧ D.rdRow W (fun _ => True) b.enc [.int .u8 k4, .string n4, .bool g4, .slice eA x4.length ec, .slice fA s4.length fc] ∧ Blk W w8.heap.size #[.int .u8 k4, .string n4, .bool g4, .slice eA x4.length ec, .slice fA s4.length fc] 28 := ⟨_, rfl⟩
      have HFK : Hid (FK w9) := Lib.hid (by rw [hFK]; exact ⟨HK9.out, HA9.out, HBA9.out, HB9.out, HBB9.out⟩)
      have HFX : Hid (∀ W W', FK W → Below W.heap.size W W' → FK W') := Lib.hid (by subst hFK; exact fun W W' h hb => ⟨HKX.out _ _ h.1 hb, D.rdRow_ext h.2.1 hb, h.2.2.1.ext hb, D.rdRow_ext h.2.2.2.1 hb, h.2.2.2.2.ext hb⟩)
      have HFC : Hid (∀ W, FK W → (W.cell? ⟨w.heap.size, 0, none⟩ = some (.int .u8 k1) ∧ W.cell? ⟨w.heap.size, 1, none⟩ = some (.string n1) ∧ W.cell? ⟨w.heap.size, 2, none⟩ = some (.bool g1) ∧ W.cell? ⟨w.heap.size, 3, none⟩ = some (.slice dA x1.length dc) ∧ W.cell? ⟨w.heap.size, 4, none⟩ = some (.slice kA s1.length kc)) ∧ (W.cell? ⟨w4.heap.size, 0, none⟩ = some (.int .u8 k2) ∧ W.cell? ⟨w4.heap.size, 1, none⟩ = some (.string n2) ∧ W.cell? ⟨w4.heap.size, 2, none⟩ = some (.bool g2) ∧ W.cell? ⟨w4.heap.size, 3, none⟩ = some (.slice dA' x2.length dc') ∧ W.cell? ⟨w4.heap.size, 4, none⟩ = some (.slice kA' s2.length kc')) ∧ (W.cell? ⟨w8.heap.size, 0, none⟩ = some (.int .u8 k4) ∧ W.cell? ⟨w8.heap.size, 1, none⟩ = some (.string n4) ∧ W.cell? ⟨w8.heap.size, 2, none⟩ = some (.bool g4) ∧ W.cell? ⟨w8.heap.size, 3, none⟩ = some (.slice eA x4.length ec) ∧ W.cell? ⟨w8.heap.size, 4, none⟩ = some (.slice fA s4.length fc)) ∧ w.heap.size < W.heap.size ∧ w4.heap.size < W.heap.size ∧ w8.heap.size < W.heap.size) := Lib.hid (by subst hFK; exact fun W h => ⟨(HKF.out _ h.1).1, (Blk.c5 h.2.2.1).1, (Blk.c5 h.2.2.2.2).1, (HKF.out _ h.1).2, h.2.2.1.lt, h.2.2.2.2.lt⟩)
      have HFB : Hid (∀ W, FK W → Below w.heap.size w W) := Lib.hid (by subst hFK; exact fun W h => HKB.out _ h.1)
      have HFR : Hid (∀ W, FK W → Calls Tryd.prog 14 #[.agg #[.int .u8 k1, .string n1, .bool g1, .slice dA x1.length dc, .slice kA s1.length kc]] W (TextsPost W (tidy t.frees))) := Lib.hid (by subst hFK; exact fun W h => free_calls t W _ _ (HKR.out _ h.1).1 (by omega))
      have HFP : Hid (∀ W, FK W → Calls Tryd.prog 15 #[.agg #[.int .u8 k1, .string n1, .bool g1, .slice dA x1.length dc, .slice kA s1.length kc]] W (Tells W (.bool t.plainB))) := Lib.hid (by subst hFK; exact fun W h => plain_calls t W _ (HKR.out _ h.1).1)
      have HFS1 : Hid (∀ W, FK W → Calls Tryd.prog 11 #[.agg #[.int .u8 k4, .string n4, .bool g4, .slice eA x4.length ec, .slice fA s4.length fc], .agg #[.int .u8 k1, .string n1, .bool g1, .slice dA x1.length dc, .slice kA s1.length kc]] W (Tells W (.bool (decide (b = t))))) := Lib.hid (by subst hFK; exact fun W h => sameTerm_calls b t W (fun _ => True) (fun _ => True) _ _ h.2.2.2.1 (HKR.out _ h.1).1)
      have HFS2 : Hid (∀ W, FK W → Calls Tryd.prog 11 #[.agg #[.int .u8 k2, .string n2, .bool g2, .slice dA' x2.length dc', .slice kA' s2.length kc'], .agg #[.int .u8 k1, .string n1, .bool g1, .slice dA x1.length dc, .slice kA s1.length kc]] W (Tells W (.bool (decide (a = t))))) := Lib.hid (by subst hFK; exact fun W h => sameTerm_calls a t W (fun _ => True) (fun _ => True) _ _ h.2.1 (HKR.out _ h.1).1)
      have hlts : l.length ≤ ts.length := by omega
      have HFL : Hid (∀ W, FK W → D.rd W (fun _ => True) (.strs 9 l) (.slice A3 l.length c3)) := Lib.hid (by subst hFK; exact fun W h => (HKR.out _ h.1).2.2.2.1)
      have HFSO : Hid (∀ W, FK W → Calls Tryd.prog 16 #[.slice A1 ds.length c1, .slice A2 sc.length c2, .agg #[.int .u8 k1, .string n1, .bool g1, .slice dA x1.length dc, .slice kA s1.length kc], .agg #[.int .u8 k2, .string n2, .bool g2, .slice dA' x2.length dc', .slice kA' s2.length kc'], .slice A3 l.length c3, .slice A4 ts.length c4] W (Tells W (.bool true))) := Lib.hid (by
        subst hFK
        intro W h
        obtain ⟨q1, q2, q3, q4, q5⟩ := HKR.out _ h.1
        refine sorts_calls ds sc t a l ts W _ _ _ _ _ _ q1 h.2.1 q2 q3 q4 q5 ⟨HWT.out, HLT.out, HFT.out⟩ ?_ ⟨HWS.out, HLS.out, HFS.out⟩ hlts HLN.out ?_
        · rw [HAE.out]
          exact ⟨subst_wf HWS.out t HWT.out, subst_low HLS.out t HLT.out, subst_fits HFS.out t HFT.out⟩
        · intro s hs hp
          rw [HAE.out]
          refine sort_subst (fun i n u h1 h2 => ?_) t s hs
          exact hp i n u (List.getElem?_eq_some_iff.1 h1).1 h1 h2)
      have HFM : Hid (∀ W, FK W → Calls Tryd.prog 17 #[.agg #[.int .u8 k2, .string n2, .bool g2, .slice dA' x2.length dc', .slice kA' s2.length kc'], .agg #[.int .u8 k1, .string n1, .bool g1, .slice dA x1.length dc, .slice kA s1.length kc], .slice A3 l.length c3, .slice A4 ts.length c4] W (Tells W (.bool true))) := Lib.hid (by
        subst hFK
        intro W h
        obtain ⟨q1, q2, q3, q4, q5⟩ := HKR.out _ h.1
        refine met_calls a t l ts W _ _ _ _ h.2.1 q1 q4 q5 ?_ HLT.out HLS.out (by omega) (by omega) (fun u hu => by have := HZS.out u hu; omega) hlts (by omega) HLN.out ?_
        · rw [HAE.out]
          exact subst_low HLS.out t HLT.out
        · intro x hx
          rw [HAE.out] at hx
          exact frees_subst hlts t x hx)
      have HPL : Hid (t.plainB = true → b = t) := Lib.hid (fun h => HBE.out.trans (subst_self t (plainB_plain t h)))
      have HUN : Hid ((∀ x ∈ l, x ∉ tidy t.frees) → a = t) := Lib.hid (fun h => HAE.out.trans (subst_not t (fun x hx hl => h x hl ((tidy_mem _ x).2 hx))))
      have HLT2 : Hid (∀ x ∈ tidy t.frees, x.size ≤ 140737488355328) := Lib.hid (fun x hx => frees_low t HLT.out x ((tidy_mem _ x).1 hx))
      have hfl : (tidy t.frees).length ≤ 100000 := Nat.le_trans (tidy_len _) (Nat.le_trans (Tm.frees_len t) (by omega))
      clear HK9 HA9 HBA9 HB9 HBB9 hFK HAE HBE HKX HKB HKF HKR HWT HLT HWS HLS HFT HFS HZS HK5
      generalize tidy t.frees = fr at *
      refine (HFR.out _ (HFX.out _ _ HFK.out (ext_alloc (Below.refl _ _) _))).mono ?_
      rintro e w11 ⟨hb11, A6, c6, rfl, hrd⟩
      have hz11 := hb11.size
      simp at hz11
      have HBW := Lib.hid (show Below w9.heap.size w9 w11 from Below.trans (ext_alloc (Below.refl w9.heap.size w9) (.map #[] 0)) (hb11.mono (by simp)))
      have HO11 := Lib.hid ((OwnM.made w9).ext hb11)
      have HRD := Lib.hid (D.rd_imp hrd (ok' := fun g => g ≠ w9.heap.size) (fun g hg => by simp at hg; omega))
      clear hb11 hrd a0 a1 a2 a3 a4 z1
      dsimp only
      go_wp2_with fail
      go_loopw [19] (fun i wr => ∃ (k n : Nat) (M : Dm), k ≤ fr.length ∧ i = .int .i64 k ∧ n ≤ k ∧ w9.heap.size < wr.heap.size ∧ Hid (Below w9.heap.size w9 wr) ∧ Hid (OwnM wr w9.heap.size n M) ∧ Hid (D.rd wr (fun g => g ≠ w9.heap.size) (.strs 9 fr) (.slice A6 fr.length c6)) ∧ Hid (∀ x ∈ fr.take k, TrueAt M x)) (fun i _ => fr.length - (RowKit.intOf i).toNat)
      case atStart => exact ⟨0, 0, .map [], Nat.zero_le _, rfl, Nat.le_refl _, by omega, HBW, HO11, HRD, Lib.hid (by simp)⟩
      case round =>
        obtain ⟨k, n, M, hk, rfl, hn, hzr, HBr, HO, HR, HP⟩ := hrel
        rename World => wq
        by_cases hlk : k < fr.length
        · have b1 : (0 : Int) ≤ k := by omega
          have b2 : (k : Int) < fr.length := by omega
          obtain ⟨g, o, x, rfl, _, hg, hx, hc⟩ := D.strs_at HR.out k hlk
          have hxs : x.size ≤ 140737488355328 := HLT2.out x (List.mem_of_getElem? hx)
          obtain ⟨w12, hrun, hown3, hg3⟩ := HO.out.store x true (by omega) hxs
          have hz3 := hg3.size
          have HO3 := Lib.hid hown3
          have HB3 := Lib.hid (HBr.out.trans (below_of_map hg3 (Nat.le_refl _) (by omega)))
          have HR3 := Lib.hid (D.rd_grown HR.out hg3 (fun g hg => by intro e; injection e with e; exact hg e))
          have HP3 := Lib.hid (show ∀ y ∈ fr.take (k + 1), TrueAt (M.put (keyOfS x) (.lit (.bool true))) y from fun y hy => by
            rw [List.take_add_one, hx] at hy
            refine TrueAt.put HO.out.isMap ?_
            rcases List.mem_append.1 hy with hy | hy
            · exact .inl (HP.out y hy)
            · exact .inr (by simpa using hy))
          clear hown3 hg3 hx HO HBr HR HP
          go_wp2_with fail
          go_roundw
          case rel => exact ⟨k + 1, n + 1, _, by omega, by go_num, by omega, by omega, HB3, HO3, HR3, HP3⟩
          case measure => simp [RowKit.intOf]; omega
        · have hkk : k = fr.length := by omega
          subst hkk
          have b2 : ¬ (fr.length : Int) < fr.length := by omega
          have HP1 := Lib.hid (show ∀ x ∈ fr, TrueAt M x from fun x hx => HP.out x (by rw [List.take_length]; exact hx))
          have HFQ := Lib.hid (HFX.out _ _ HFK.out HBr.out)
          clear HP HR HFK HBr HBW HO11 HRD
          go_wp2_with fail
          go_loopw [20, 21] (fun v i wr => ∃ (k : Nat) (bt : Bool), k ≤ l.length ∧ v = .bool bt ∧ i = .int .i64 k ∧ wr = wq ∧ Hid (bt = false → ∀ j (hj : j < l.length), j < k → l[j] ∉ fr)) (fun _ i _ => l.length - (RowKit.intOf i).toNat)
          case atStart => exact ⟨0, false, Nat.zero_le _, rfl, rfl, rfl, Lib.hid (fun _ j hj h => absurd h (by omega))⟩
          case round =>
            obtain ⟨k, bt, hk, rfl, rfl, hwr, HT⟩ := hrel
            subst hwr
            by_cases hlk2 : k < l.length
            · have b1 : (0 : Int) ≤ k := by omega
              have b2 : (k : Int) < l.length := by omega
              obtain ⟨g, o, x, rfl, _, hg, hx, hc⟩ := D.strs_at (HFL.out _ HFQ.out) k hlk2
              have hxs : x.size ≤ 140737488355328 := HLN.out x (List.mem_of_getElem? hx)
              have hxe : l[k] = x := by
                rw [List.getElem?_eq_getElem hlk2] at hx
                exact Option.some.inj hx
              have HXE := Lib.hid hxe
              clear hx hxe
              cases bt with
              | true =>
                go_wp2_with fail
                go_roundw
                case rel => exact ⟨k + 1, true, by omega, rfl, by go_num, by first | rfl | trivial, Lib.hid (fun h => by cases h)⟩
                case measure => simp [RowKit.intOf]; omega
              | false =>
                obtain ⟨cv, hrun, hat⟩ := HO.out.look x hxs
                cases cv with
                | true =>
                  clear hat
                  go_wp2_with fail
                  go_roundw
                  case rel => exact ⟨k + 1, true, by omega, rfl, by go_num, by first | rfl | trivial, Lib.hid (fun h => by cases h)⟩
                  case measure => simp [RowKit.intOf]; omega
                | false =>
                  have HNX := Lib.hid (show x ∉ fr from fun h => by
                    have := HP1.out x h
                    unfold TrueAt at this
                    rw [hat] at this
                    simp at this)
                  have HT2 := Lib.hid (show false = false → ∀ j (hj : j < l.length), j < k + 1 → l[j] ∉ fr from fun _ j hj h => by
                    by_cases hjk : j = k
                    · subst hjk
                      rw [HXE.out]
                      exact HNX.out
                    · exact HT.out rfl j hj (by omega))
                  clear hat
                  go_wp2_with fail
                  go_roundw
                  case rel => exact ⟨k + 1, false, by omega, rfl, by go_num, by first | rfl | trivial, HT2⟩
                  case measure => simp [RowKit.intOf]; omega
            · have hkk : k = l.length := by omega
              subst hkk
              have b2 : ¬ (l.length : Int) < l.length := by omega
              obtain ⟨⟨q0, q1, q2, q3, q4⟩, ⟨r0, r1, r2, r3, r4⟩, ⟨u0, u1, u2, u3, u4⟩, v0, v1, v2⟩ := HFC.out _ HFQ.out
              go_wp2_with fail
              refine (HFP.out _ HFQ.out).mono ?_
              rintro e w13 ⟨rfl, hb13⟩
              have HF13 := Lib.hid (HFX.out _ _ HFQ.out hb13)
              clear hb13 q0 q1 q2 q3 q4 r0 r1 r2 r3 r4 u0 u1 u2 u3 u4 v0 v1 v2
              obtain ⟨⟨q0, q1, q2, q3, q4⟩, ⟨r0, r1, r2, r3, r4⟩, ⟨u0, u1, u2, u3, u4⟩, v0, v1, v2⟩ := HFC.out _ HF13.out
              cases hpl : t.plainB with
              | true =>
                have HBT := Lib.hid (HPL.out hpl)
                clear hpl
                dsimp only
                go_wp2_with fail
                refine (HFS1.out _ HF13.out).mono ?_
                rintro e w14 ⟨rfl, hb14⟩
                have HF14 := Lib.hid (HFX.out _ _ HF13.out hb14)
                rw [decide_eq_true HBT.out]
                clear hb14 q0 q1 q2 q3 q4 r0 r1 r2 r3 r4 u0 u1 u2 u3 u4 v0 v1 v2
                obtain ⟨⟨q0, q1, q2, q3, q4⟩, ⟨r0, r1, r2, r3, r4⟩, ⟨u0, u1, u2, u3, u4⟩, v0, v1, v2⟩ := HFC.out _ HF14.out
                dsimp only
                cases bt with
                | true =>
                  go_wp2_with fail
                  refine (HFSO.out _ HF14.out).mono ?_
                  rintro e w16 ⟨rfl, hb16⟩
                  have HF16 := Lib.hid (HFX.out _ _ HF14.out hb16)
                  clear hb16 q0 q1 q2 q3 q4 r0 r1 r2 r3 r4 u0 u1 u2 u3 u4 v0 v1 v2
                  obtain ⟨⟨q0, q1, q2, q3, q4⟩, ⟨r0, r1, r2, r3, r4⟩, ⟨u0, u1, u2, u3, u4⟩, v0, v1, v2⟩ := HFC.out _ HF16.out
                  dsimp only
                  go_wp2_with fail
                  refine (HFM.out _ HF16.out).mono ?_
                  rintro e w17 ⟨rfl, hb17⟩
                  have HF17 := Lib.hid (HFX.out _ _ HF16.out hb17)
                  clear hb17 q0 q1 q2 q3 q4 r0 r1 r2 r3 r4 u0 u1 u2 u3 u4 v0 v1 v2
                  dsimp only
                  go_wp2_with fail
                  go_ret
                  exact ⟨rfl, HFB.out _ HF17.out⟩
                | false =>
                  have HAT := Lib.hid (HUN.out (fun x hx => by obtain ⟨j, hj, rfl⟩ := List.getElem_of_mem hx; exact HT.out rfl j hj hj))
                  go_wp2_with fail
                  refine (HFS2.out _ HF14.out).mono ?_
                  rintro e w15 ⟨rfl, hb15⟩
                  have HF15 := Lib.hid (HFX.out _ _ HF14.out hb15)
                  rw [decide_eq_true HAT.out]
                  clear hb15 q0 q1 q2 q3 q4 r0 r1 r2 r3 r4 u0 u1 u2 u3 u4 v0 v1 v2
                  obtain ⟨⟨q0, q1, q2, q3, q4⟩, ⟨r0, r1, r2, r3, r4⟩, ⟨u0, u1, u2, u3, u4⟩, v0, v1, v2⟩ := HFC.out _ HF15.out
                  dsimp only
                  go_wp2_with fail
                  refine (HFSO.out _ HF15.out).mono ?_
                  rintro e w16 ⟨rfl, hb16⟩
                  have HF16 := Lib.hid (HFX.out _ _ HF15.out hb16)
                  clear hb16 q0 q1 q2 q3 q4 r0 r1 r2 r3 r4 u0 u1 u2 u3 u4 v0 v1 v2
                  obtain ⟨⟨q0, q1, q2, q3, q4⟩, ⟨r0, r1, r2, r3, r4⟩, ⟨u0, u1, u2, u3, u4⟩, v0, v1, v2⟩ := HFC.out _ HF16.out
                  dsimp only
                  go_wp2_with fail
                  refine (HFM.out _ HF16.out).mono ?_
                  rintro e w17 ⟨rfl, hb17⟩
                  have HF17 := Lib.hid (HFX.out _ _ HF16.out hb17)
                  clear hb17 q0 q1 q2 q3 q4 r0 r1 r2 r3 r4 u0 u1 u2 u3 u4 v0 v1 v2
                  dsimp only
                  go_wp2_with fail
                  go_ret
                  exact ⟨rfl, HFB.out _ HF17.out⟩
              | false =>
                clear hpl
                dsimp only
                cases bt with
                | true =>
                  go_wp2_with fail
                  refine (HFSO.out _ HF13.out).mono ?_
                  rintro e w16 ⟨rfl, hb16⟩
                  have HF16 := Lib.hid (HFX.out _ _ HF13.out hb16)
                  clear hb16 q0 q1 q2 q3 q4 r0 r1 r2 r3 r4 u0 u1 u2 u3 u4 v0 v1 v2
                  obtain ⟨⟨q0, q1, q2, q3, q4⟩, ⟨r0, r1, r2, r3, r4⟩, ⟨u0, u1, u2, u3, u4⟩, v0, v1, v2⟩ := HFC.out _ HF16.out
                  dsimp only
                  go_wp2_with fail
                  refine (HFM.out _ HF16.out).mono ?_
                  rintro e w17 ⟨rfl, hb17⟩
                  have HF17 := Lib.hid (HFX.out _ _ HF16.out hb17)
                  clear hb17 q0 q1 q2 q3 q4 r0 r1 r2 r3 r4 u0 u1 u2 u3 u4 v0 v1 v2
                  dsimp only
                  go_wp2_with fail
                  go_ret
                  exact ⟨rfl, HFB.out _ HF17.out⟩
                | false =>
                  have HAT := Lib.hid (HUN.out (fun x hx => by obtain ⟨j, hj, rfl⟩ := List.getElem_of_mem hx; exact HT.out rfl j hj hj))
                  go_wp2_with fail
                  refine (HFS2.out _ HF13.out).mono ?_
                  rintro e w15 ⟨rfl, hb15⟩
                  have HF15 := Lib.hid (HFX.out _ _ HF13.out hb15)
                  rw [decide_eq_true HAT.out]
                  clear hb15 q0 q1 q2 q3 q4 r0 r1 r2 r3 r4 u0 u1 u2 u3 u4 v0 v1 v2
                  obtain ⟨⟨q0, q1, q2, q3, q4⟩, ⟨r0, r1, r2, r3, r4⟩, ⟨u0, u1, u2, u3, u4⟩, v0, v1, v2⟩ := HFC.out _ HF15.out
                  dsimp only
                  go_wp2_with fail
                  refine (HFSO.out _ HF15.out).mono ?_
                  rintro e w16 ⟨rfl, hb16⟩
                  have HF16 := Lib.hid (HFX.out _ _ HF15.out hb16)
                  clear hb16 q0 q1 q2 q3 q4 r0 r1 r2 r3 r4 u0 u1 u2 u3 u4 v0 v1 v2
                  obtain ⟨⟨q0, q1, q2, q3, q4⟩, ⟨r0, r1, r2, r3, r4⟩, ⟨u0, u1, u2, u3, u4⟩, v0, v1, v2⟩ := HFC.out _ HF16.out
                  dsimp only
                  go_wp2_with fail
                  refine (HFM.out _ HF16.out).mono ?_
                  rintro e w17 ⟨rfl, hb17⟩
                  have HF17 := Lib.hid (HFX.out _ _ HF16.out hb17)
                  clear hb17 q0 q1 q2 q3 q4 r0 r1 r2 r3 r4 u0 u1 u2 u3 u4 v0 v1 v2
                  dsimp only
                  go_wp2_with fail
                  go_ret
                  exact ⟨rfl, HFB.out _ HF17.out⟩
end Wh
