import Derived.Test.YtglmpkicjgfmcaaGreatDoorT35
import Derived.Test.YtglmpkicjgfmcaaGreatDoorT36
import Derived.Test.YtglmpkicjgfmcaaGreatDoorT14
import Derived.Test.YtglmpkicjgfmcaaGreatDoorT19
import Derived.Deep.RegionHeld3
set_option linter.unusedVariables false
set_option linter.unusedSimpArgs false
open Go Go.RowKit Go.Proofs
namespace Wh
mutual
theorem fits_of_parts : ∀ t : Tm, t.low → t.parts ≤ 3000 → t.fits ∧ (t.size : Int) ≤ t.parts ∧ 1 ≤ t.parts
  | .mk k n g ds ks, hlow, hp => by
    rw [Tm.parts] at hp
    obtain ⟨l1, l2, l3, l4⟩ := hlow
    have h0 := partss_nonneg ks
    obtain ⟨f1, f2, f3⟩ := fitss_of_parts ks l4 (by omega)
    rw [Tm.fits, Tm.size, Tm.parts]
    exact ⟨⟨by omega, by omega, f1⟩, by omega, by omega⟩
theorem fitss_of_parts : ∀ l : List Tm, Tm.lows l → Tm.partss l ≤ 3000 → Tm.fitss l ∧ (Tm.sizes l : Int) ≤ Tm.partss l ∧ (l.length : Int) ≤ Tm.partss l
  | [], _, _ => by simp [Tm.fitss, Tm.sizes, Tm.partss]
  | t :: ts, hlow, hp => by
    rw [Tm.partss] at hp
    have h0 := partss_nonneg ts
    have h1 := parts_nonneg t
    obtain ⟨f1, f2, f3⟩ := fits_of_parts t hlow.1 (by omega)
    obtain ⟨g1, g2, g3⟩ := fitss_of_parts ts hlow.2 (by omega)
    rw [Tm.fitss, Tm.sizes, Tm.partss, List.length_cons]
    exact ⟨⟨f1, g1⟩, by omega, by omega⟩
theorem parts_nonneg : ∀ t : Tm, 0 ≤ t.parts
  | .mk k n g ds ks => by
    have := partss_nonneg ks
    rw [Tm.parts]
    omega
theorem partss_nonneg : ∀ l : List Tm, 0 ≤ Tm.partss l
  | [] => by simp [Tm.partss]
  | t :: ts => by
    have := partss_nonneg ts
    have := parts_nonneg t
    rw [Tm.partss]
    omega
end
theorem str_no' {x y : List UInt8} (h : x ≠ y) : ((⟨x.toArray⟩ : ByteArray).toList == (⟨y.toArray⟩ : ByteArray).toList) = false := by
  rw [beq_eq_false_iff_ne]
  intro e
  rw [ByteArray.toList_eq, ByteArray.toList_eq] at e
  exact h (by simpa using e)
section
variable {P : Program} {ops : Array Oper} {Q : Exit → Act → World → Prop} {md : Region.Mode} {S : World → Prop}
theorem drop_get {l : List Oper} : ∀ {i : Nat} {o : Oper} {r : List Oper}, l.drop i = o :: r → l[i]? = some o := by
  intro i o r h
  have := congrArg (·[0]?) h
  simpa using this
theorem take_at {i : Nat} {oi : Oper} {rest : List Oper} {v : Value} {fuel : Nat} {listed : Array Bool} {a : Act} {w : World} (hi : ops.toList.drop i = oi :: rest)
    (hs : Region.noSelect ops = true) (hf : Region.free md ops listed i = true) (hr : (Region.ready md ops listed).contains i = true)
    (hQ : ∀ c a w, Q (.panic c) (a.put oi.dst v) w → Q (.panic c) a w) (hy : YieldsIf P ops S oi v a) (hS : S w)
    (h : wpAnyH P md ops Q S fuel (listed.setIfInBounds i true) (a.put oi.dst v) w) : wpAnyH P md ops Q S (fuel + 1) listed a w :=
  wpAnyH_take (by simpa using drop_get hi) hs hf hr hQ hy hS h
theorem cons_at {fuel : Nat} {listed : Array Bool} {a : Act} {w : World} {i : Nat} {o : Oper} {rest : List Oper} {rs : List Nat} (hi : ops.toList.drop i = o :: rest)
    (h : ∀ K' : Act → World → Prop, Shut (∀ a w, S w → (S w → wpAnyH P md ops Q S fuel (listed.setIfInBounds i true) a w) → K' a w) → if Region.wanted o (yielded ops a.tmps) = true then Oper.wp P o a w K' Q else K' (a.put o.dst undef) w)
    (hs : AllReadyH P md ops Q S fuel listed a w rs) : AllReadyH P md ops Q S fuel listed a w (i :: rs) :=
  AllReadyH.cons (by simpa using drop_get hi) h hs
end
structure TkK (w0 : World) (B N : Nat) (a b : Tm) (ua ub : List Value) (W : World) : Prop where
  low : Below N w0 W
  env : Env2 B W
  hB : B ≤ N
  hN : N ≤ W.heap.size
  ba : Blk W N ua.toArray 28
  bb : Blk W (N + 1) ub.toArray 28
  ra : D.rdRow W (fun _ => True) a.enc ua
  rb : D.rdRow W (fun _ => True) b.enc ub
theorem TkK.ext {w0 : World} {B N : Nat} {a b : Tm} {ua ub : List Value} {W W' : World} (h : TkK w0 B N a b ua ub W) (hb : Below W.heap.size W W') : TkK w0 B N a b ua ub W' :=
  ⟨h.low.trans (hb.mono h.hN), h.env.ext hb, h.hB, Nat.le_trans h.hN hb.size, h.ba.ext hb, h.bb.ext hb, D.rdRow_ext h.ra hb, D.rdRow_ext h.rb hb⟩
set_option maxHeartbeats 4000000 in
set_option maxRecDepth 100000 in
theorem termKeys_calls (a b : Tm) (B : Nat) (w : World) (ok1 ok2 : Nat → Prop) (ua ub : List Value) (hra : D.rdRow w ok1 a.enc ua) (hrb : D.rdRow w ok2 b.enc ub) (henv : Env2 B w) (wa : a.wf) (wb : b.wf) (la : a.low) (lb : b.low) :
    Calls Tryz.prog 3 #[.agg ua.toArray, .agg ub.toArray] w (Tells w (.bool true)) := by
  have hBw := henv.env.1
  have hra1 := D.rdRow_ext hra (ext_alloc (ext_alloc (Below.refl w.heap.size w) (.cells ua.toArray 28)) (.cells ub.toArray 28))
  have hrb1 := D.rdRow_ext hrb (ext_alloc (ext_alloc (Below.refl w.heap.size w) (.cells ua.toArray 28)) (.cells ub.toArray 28))
  have hK0 : TkK w B w.heap.size a b ua ub ((w.alloc (.cells ua.toArray 28)).alloc (.cells ub.toArray 28)) :=
    ⟨ext_alloc (ext_alloc (Below.refl _ _) _) _, henv.ext (ext_alloc (ext_alloc (Below.refl _ _) _) _), hBw, by simp; omega, (Blk.new _ _ _).alloc _, Blk.new' _ _ _ (by simp), D.rdRow_mono (fun g _ => ⟨trivial, rfl⟩) _ _ hra1, D.rdRow_mono (fun g _ => ⟨trivial, rfl⟩) _ _ hrb1⟩
  have hgr : ∀ W g, TkK w B w.heap.size a b ua ub W → Blk W g (ua ++ ub).toArray 28 → Calls Tryz.prog 5 #[.slice none 0 0, .slice (some ⟨g, 0, none⟩) 2 2] W (GreatPost W [a, b]) := by
    intro W g hK hb
    obtain ⟨k1, n1, g1, d1, s1⟩ := a
    obtain ⟨k2, n2, g2, d2, s2⟩ := b
    obtain ⟨dA, dc, kA, kc, rfl, _, _⟩ := Tm.open hra
    obtain ⟨dA', dc', kA', kc', rfl, _, _⟩ := Tm.open hrb
    exact great_calls [] _ W (fun _ => True) (fun _ => True) _ _ (D.rd_nil _ _) (rd_blk (n := 2) hb rfl rfl (by decide) trivial (rdCells_cons rfl hK.ra (rdCells_cons (xs := []) rfl hK.rb rdCells_nil))) ⟨la, lb, trivial⟩
  have HK0 := Lib.hid hK0
  have HGR := Lib.hid hgr
  clear hK0 hra1 hrb1 hgr henv
  have HRA := Lib.hid hra
  have HRB := Lib.hid hrb
  clear hra hrb
  obtain ⟨k1, n1, g1, d1, s1⟩ := a
  obtain ⟨k2, n2, g2, d2, s2⟩ := b
  obtain ⟨dA, dc, kA, kc, rfl, _, _⟩ := Tm.open HRA.out
  obtain ⟨dA', dc', kA', kc', rfl, _, _⟩ := Tm.open HRB.out
  have HWA := Lib.hid wa
  have HWB := Lib.hid wb
  have HLA := Lib.hid la
  have HLB := Lib.hid lb
  clear HRA HRB wa wb la lb
  generalize hTa : Tm.mk k1 n1 g1 d1 s1 = a at *
  generalize hTb : Tm.mk k2 n2 g2 d2 s2 = b at *
  have HAW : Hid (∀ W, TkK w B w.heap.size a b [.int .u8 k1, .string n1, .bool g1, .slice dA d1.length dc, .slice kA s1.length kc] [.int .u8 k2, .string n2, .bool g2, .slice dA' d2.length dc', .slice kA' s2.length kc'] W → Calls Tryz.prog 4 #[] W (Tells W (.bool true))) := Lib.hid fun W h => awake_calls B W h.env.env
  have HKX : Hid (∀ W W', TkK w B w.heap.size a b [.int .u8 k1, .string n1, .bool g1, .slice dA d1.length dc, .slice kA s1.length kc] [.int .u8 k2, .string n2, .bool g2, .slice dA' d2.length dc', .slice kA' s2.length kc'] W → Below W.heap.size W W' → TkK w B w.heap.size a b [.int .u8 k1, .string n1, .bool g1, .slice dA d1.length dc, .slice kA s1.length kc] [.int .u8 k2, .string n2, .bool g2, .slice dA' d2.length dc', .slice kA' s2.length kc'] W') := Lib.hid fun W W' h hb => h.ext hb
  have HKF : Hid (∀ W, TkK w B w.heap.size a b [.int .u8 k1, .string n1, .bool g1, .slice dA d1.length dc, .slice kA s1.length kc] [.int .u8 k2, .string n2, .bool g2, .slice dA' d2.length dc', .slice kA' s2.length kc'] W → (W.cell? ⟨w.heap.size, 0, none⟩ = some (.int .u8 k1) ∧ W.cell? ⟨w.heap.size, 1, none⟩ = some (.string n1) ∧ W.cell? ⟨w.heap.size, 2, none⟩ = some (.bool g1) ∧ W.cell? ⟨w.heap.size, 3, none⟩ = some (.slice dA d1.length dc) ∧ W.cell? ⟨w.heap.size, 4, none⟩ = some (.slice kA s1.length kc)) ∧
    (W.cell? ⟨w.heap.size + 1, 0, none⟩ = some (.int .u8 k2) ∧ W.cell? ⟨w.heap.size + 1, 1, none⟩ = some (.string n2) ∧ W.cell? ⟨w.heap.size + 1, 2, none⟩ = some (.bool g2) ∧ W.cell? ⟨w.heap.size + 1, 3, none⟩ = some (.slice dA' d2.length dc') ∧ W.cell? ⟨w.heap.size + 1, 4, none⟩ = some (.slice kA' s2.length kc')) ∧ w.heap.size < W.heap.size ∧ w.heap.size + 1 < W.heap.size) := Lib.hid fun W h => ⟨(Blk.c5 h.ba).1, (Blk.c5 h.bb).1, h.ba.lt, h.bb.lt⟩
  have HKB : Hid (∀ W, TkK w B w.heap.size a b [.int .u8 k1, .string n1, .bool g1, .slice dA d1.length dc, .slice kA s1.length kc] [.int .u8 k2, .string n2, .bool g2, .slice dA' d2.length dc', .slice kA' s2.length kc'] W → Below w.heap.size w W) := Lib.hid fun W h => h.low
  have HSM : Hid (∀ W, TkK w B w.heap.size a b [.int .u8 k1, .string n1, .bool g1, .slice dA d1.length dc, .slice kA s1.length kc] [.int .u8 k2, .string n2, .bool g2, .slice dA' d2.length dc', .slice kA' s2.length kc'] W → Calls Tryz.prog 6 #[.agg #[.int .u8 k1, .string n1, .bool g1, .slice dA d1.length dc, .slice kA s1.length kc], .agg #[.int .u8 k2, .string n2, .bool g2, .slice dA' d2.length dc', .slice kA' s2.length kc']] W (Tells W (.bool (decide (a = b))))) := Lib.hid fun W h => sameTerm_calls a b W (fun _ => True) (fun _ => True) _ _ h.ra h.rb
  have HENV : Hid (∀ W, TkK w B w.heap.size a b [.int .u8 k1, .string n1, .bool g1, .slice dA d1.length dc, .slice kA s1.length kc] [.int .u8 k2, .string n2, .bool g2, .slice dA' d2.length dc', .slice kA' s2.length kc'] W → Env2 B W ∧ B ≤ W.heap.size) := Lib.hid fun W h => ⟨h.env, Nat.le_trans h.hB h.hN⟩
  have HRDA : Hid (∀ W, TkK w B w.heap.size a b [.int .u8 k1, .string n1, .bool g1, .slice dA d1.length dc, .slice kA s1.length kc] [.int .u8 k2, .string n2, .bool g2, .slice dA' d2.length dc', .slice kA' s2.length kc'] W → D.rdRow W (fun _ => True) a.enc [.int .u8 k1, .string n1, .bool g1, .slice dA d1.length dc, .slice kA s1.length kc] ∧ D.rdRow W (fun _ => True) b.enc [.int .u8 k2, .string n2, .bool g2, .slice dA' d2.length dc', .slice kA' s2.length kc']) := Lib.hid fun W h => ⟨h.ra, h.rb⟩
  generalize TkK w B w.heap.size a b [.int .u8 k1, .string n1, .bool g1, .slice dA d1.length dc, .slice kA s1.length kc] [.int .u8 k2, .string n2, .bool g2, .slice dA' d2.length dc', .slice kA' s2.length kc'] = K at *
  have HTa := Lib.hid hTa
  have HTb := Lib.hid hTb
  clear hTa hTb
  go_enter Tryz.func3, Tryz.ntmps3
  go_wp2_with fail
  refine (HAW.out _ HK0.out).mono ?_
  rintro e w1 ⟨rfl, hb1⟩
  have HK1 := Lib.hid (HKX.out _ _ HK0.out hb1)
  obtain ⟨⟨a0, a1, a2, a3, a4⟩, ⟨b0, b1, b2, b3, b4⟩, z1, z2⟩ := HKF.out _ HK1.out
  clear hb1 HK0
  dsimp only
  go_wp2_with fail
  have HK1a := Lib.hid (HKX.out _ _ HK1.out (ext_alloc (Below.refl w1.heap.size w1) (.cells #[.int .u8 k1, .string n1, .bool g1, .slice dA d1.length dc, .slice kA s1.length kc, .int .u8 k2, .string n2, .bool g2, .slice dA' d2.length dc', .slice kA' s2.length kc'] 28)))
  refine (HGR.out _ w1.heap.size HK1a.out (Blk.new _ _ _)).mono ?_
  rintro e w2 ⟨hb2, (rfl | ⟨rfl, hp⟩)⟩
  · have HK2 := Lib.hid (HKX.out _ _ HK1a.out hb2)
    clear hb2 a0 a1 a2 a3 a4 b0 b1 b2 b3 b4
    dsimp only
    go_wp2_with fail
    go_ret
    exact ⟨rfl, HKB.out _ HK2.out⟩
  · have HK2 := Lib.hid (HKX.out _ _ HK1a.out hb2)
    have HP := Lib.hid hp
    clear hb2 hp a0 a1 a2 a3 a4 b0 b1 b2 b3 b4 HK1a
    obtain ⟨⟨a0, a1, a2, a3, a4⟩, ⟨b0, b1, b2, b3, b4⟩, z3, z4⟩ := HKF.out _ HK2.out
    dsimp only
    go_wp2_with fail
    refine (HSM.out _ HK2.out).mono ?_
    rintro e w3 ⟨rfl, hb3⟩
    have HK3 := Lib.hid (HKX.out _ _ HK2.out hb3)
    clear hb3 a0 a1 a2 a3 a4 b0 b1 b2 b3 b4 HK1 HK2
    obtain ⟨⟨a0, a1, a2, a3, a4⟩, ⟨b0, b1, b2, b3, b4⟩, z5, z6⟩ := HKF.out _ HK3.out
    have hps := HP.out
    simp only [Tm.partss] at hps
    have hpa := parts_nonneg a
    have hpb := parts_nonneg b
    obtain ⟨fa, za1, za2⟩ := fits_of_parts a HLA.out (by omega)
    obtain ⟨fb, zb1, zb2⟩ := fits_of_parts b HLB.out (by omega)
    have ka1 := key_bound a HWA.out HLA.out
    have kb1 := key_bound b HWB.out HLB.out
    have HKYA : Hid (∀ W, K W → Calls Tryz.prog 7 #[.agg #[.int .u8 k1, .string n1, .bool g1, .slice dA d1.length dc, .slice kA s1.length kc]] W fun e w' => e = .returned (.string ⟨a.key.toArray⟩) ∧ Below W.heap.size W w') := Lib.hid fun W h => key_calls a B W (fun _ => True) _ (HRDA.out W h).1 (HENV.out W h).1.env HWA.out fa (by omega)
    have HKYB : Hid (∀ W, K W → Calls Tryz.prog 7 #[.agg #[.int .u8 k2, .string n2, .bool g2, .slice dA' d2.length dc', .slice kA' s2.length kc']] W fun e w' => e = .returned (.string ⟨b.key.toArray⟩) ∧ Below W.heap.size W w') := Lib.hid fun W h => key_calls b B W (fun _ => True) _ (HRDA.out W h).2 (HENV.out W h).1.env HWB.out fb (by omega)
    have HOF : Hid (∀ W, K W → Calls Tryz.prog 8 #[.string ⟨a.key.toArray⟩] W (TermPost W (some (.mk k1 n1 g1 d1 s1)))) := Lib.hid fun W h => by
      have := termOf_reads B ⟨a.key.toArray⟩ W (by simp [ByteArray.size]; omega) (HENV.out W h).1 (HENV.out W h).2
      rw [ofS_key a (by omega) HWA.out] at this
      rw [HTa.out]
      exact this
    have hinj : a.key = b.key → a = b := key_inj (by omega) HWA.out HWB.out
    have HKD : Hid (∀ W, K W → K W.drew) := Lib.hid fun W h => HKX.out _ _ h (Below.refl _ _).drew
    have HKA : Hid (∀ W o, K W → K (W.alloc o)) := Lib.hid fun W o h => HKX.out _ _ h (ext_alloc (Below.refl _ _) _)
    have HFC := Lib.hid (show a.fits from fa)
    have HSZ1 := Lib.hid (show Tm.sizes [a] ≤ 1099511627776 ∧ a.size ≤ 100000000 from ⟨by simp only [Tm.sizes]; omega, by omega⟩)
    have HSZ2 := Lib.hid (show Tm.sizes [b] ≤ 1099511627776 ∧ b.size ≤ 100000000 from ⟨by simp only [Tm.sizes]; omega, by omega⟩)
    clear hps hpa hpb za1 za2 zb1 zb2 ka1 kb1 fa fb
    have hps := HP.out
    simp only [Tm.partss] at hps
    have hpa := parts_nonneg a
    have hpb := parts_nonneg b
    obtain ⟨fa, za1, za2⟩ := fits_of_parts a HLA.out (by omega)
    obtain ⟨fb, zb1, zb2⟩ := fits_of_parts b HLB.out (by omega)
    have ka1 := key_bound a HWA.out HLA.out
    have kb1 := key_bound b HWB.out HLB.out
    have HKYA : Hid (∀ W, K W → Calls Tryz.prog 7 #[.agg #[.int .u8 k1, .string n1, .bool g1, .slice dA d1.length dc, .slice kA s1.length kc]] W fun e w' => e = .returned (.string ⟨a.key.toArray⟩) ∧ Below W.heap.size W w') := Lib.hid fun W h => key_calls a B W (fun _ => True) _ (HRDA.out W h).1 (HENV.out W h).1.env HWA.out fa (by omega)
    have HKYB : Hid (∀ W, K W → Calls Tryz.prog 7 #[.agg #[.int .u8 k2, .string n2, .bool g2, .slice dA' d2.length dc', .slice kA' s2.length kc']] W fun e w' => e = .returned (.string ⟨b.key.toArray⟩) ∧ Below W.heap.size W w') := Lib.hid fun W h => key_calls b B W (fun _ => True) _ (HRDA.out W h).2 (HENV.out W h).1.env HWB.out fb (by omega)
    have HOF : Hid (∀ W, K W → Calls Tryz.prog 8 #[.string ⟨a.key.toArray⟩] W (TermPost W (some (.mk k1 n1 g1 d1 s1)))) := Lib.hid fun W h => by
      have := termOf_reads B ⟨a.key.toArray⟩ W (by simp [ByteArray.size]; omega) (HENV.out W h).1 (HENV.out W h).2
      rw [ofS_key a (by omega) HWA.out] at this
      rw [HTa.out]
      exact this
    have hinj : a.key = b.key → a = b := key_inj (by omega) HWA.out HWB.out
    have HKD : Hid (∀ W, K W → K W.drew) := Lib.hid fun W h => HKX.out _ _ h (Below.refl _ _).drew
    have HKA : Hid (∀ W o, K W → K (W.alloc o)) := Lib.hid fun W o h => HKX.out _ _ h (ext_alloc (Below.refl _ _) _)
    have HFC := Lib.hid (show a.fits from fa)
    have HSZ1 := Lib.hid (show Tm.sizes [a] ≤ 1099511627776 ∧ a.size ≤ 100000000 from ⟨by simp only [Tm.sizes]; omega, by omega⟩)
    have HSZ2 := Lib.hid (show Tm.sizes [b] ≤ 1099511627776 ∧ b.size ≤ 100000000 from ⟨by simp only [Tm.sizes]; omega, by omega⟩)
    have HKL := Lib.hid (show a.key.length ≤ 140737488355328 from by omega)
    clear hps hpa hpb za1 za2 zb1 zb2 ka1 kb1 fa fb
    by_cases hab : a = b
    · subst hab
      generalize hka : (⟨a.key.toArray⟩ : ByteArray) = ka at *
      have HKAE := Lib.hid hka
      have he : (ka.toList == ka.toList) = true := by simp
      clear hka hinj
      rw [decide_eq_true rfl]
      dsimp only
      go_wp2_with fail
      go_region_held3 (fun w' => w'.cell? ⟨w.heap.size, 0, none⟩ = some (.int .u8 k1) ∧ w'.cell? ⟨w.heap.size, 1, none⟩ = some (.string n1) ∧ w'.cell? ⟨w.heap.size, 2, none⟩ = some (.bool g1) ∧ w'.cell? ⟨w.heap.size, 3, none⟩ = some (.slice dA d1.length dc) ∧ w'.cell? ⟨w.heap.size, 4, none⟩ = some (.slice kA s1.length kc) ∧ w'.cell? ⟨w.heap.size + 1, 0, none⟩ = some (.int .u8 k2) ∧ w'.cell? ⟨w.heap.size + 1, 1, none⟩ = some (.string n2) ∧ w'.cell? ⟨w.heap.size + 1, 2, none⟩ = some (.bool g2) ∧ w'.cell? ⟨w.heap.size + 1, 3, none⟩ = some (.slice dA' d2.length dc') ∧ w'.cell? ⟨w.heap.size + 1, 4, none⟩ = some (.slice kA' s2.length kc'))
        (first | exact ⟨a0, a1, a2, a3, a4, b0, b1, b2, b3, b4⟩ | go_keep)
        (first
          | (go_at_call 7; (with_reducible refine Calls.mono (HKYA.out _ (by repeat (first | (with_reducible exact Hid.out (by assumption)) | (with_reducible refine HKD.out _ ?_) | (with_reducible refine HKA.out _ _ ?_)))) ?_); rintro e wq ⟨rfl, hb⟩; have HKq := Lib.hid (HKX.out _ _ (by repeat (first | (with_reducible exact Hid.out (by assumption)) | (with_reducible refine HKD.out _ ?_) | (with_reducible refine HKA.out _ _ ?_))) hb); obtain ⟨⟨a0, a1, a2, a3, a4⟩, ⟨b0, b1, b2, b3, b4⟩, za, zb⟩ := HKF.out _ HKq.out; have HBq := Lib.hid hb; have hzq := hb.size; clear hb)
          | (go_at_call 7; (with_reducible refine Calls.mono (HKYB.out _ (by repeat (first | (with_reducible exact Hid.out (by assumption)) | (with_reducible refine HKD.out _ ?_) | (with_reducible refine HKA.out _ _ ?_)))) ?_); rintro e wq ⟨rfl, hb⟩; have HKq := Lib.hid (HKX.out _ _ (by repeat (first | (with_reducible exact Hid.out (by assumption)) | (with_reducible refine HKD.out _ ?_) | (with_reducible refine HKA.out _ _ ?_))) hb); obtain ⟨⟨a0, a1, a2, a3, a4⟩, ⟨b0, b1, b2, b3, b4⟩, za, zb⟩ := HKF.out _ HKq.out; have HBq := Lib.hid hb; have hzq := hb.size; clear hb)
          | fail)
      go_wp2_with fail
      refine (HKYA.out _ HKq.out).mono ?_
      rintro e w5 ⟨rfl, hb5⟩
      have HK5 := Lib.hid (HKX.out _ _ HKq.out hb5)
      clear hb5
      dsimp only
      go_wp2_with fail
      refine (HOF.out _ HK5.out).mono ?_
      rintro e w6 ⟨hb6, us, rfl, hu⟩
      obtain ⟨uA, uc, vA, vc, rfl, _, _⟩ := Tm.open hu.rd
      have HK6 := Lib.hid (HKX.out _ _ HK5.out hb6)
      have HU6 := Lib.hid (D.rdRow_mono (fun g _ => ⟨trivial, rfl⟩) _ _ hu.rd : D.rdRow w6 (fun _ => True) _ _)
      clear hb6 hu a0 a1 a2 a3 a4 b0 b1 b2 b3 b4
      obtain ⟨⟨a0, a1, a2, a3, a4⟩, ⟨b0, b1, b2, b3, b4⟩, za, zb⟩ := HKF.out _ HK6.out
      dsimp only
      go_wp2_with fail
      obtain ⟨L, hL⟩ : ∃ L : World → Prop, L = fun W => K W ∧ Blk W w6.heap.size #[.int .u8 k1, .string n1, .bool g1, .slice uA d1.length uc, .slice vA s1.length vc] 28 ∧ D.rdRow W (fun _ => True) (Tm.mk k1 n1 g1 d1 s1).enc [.int .u8 k1, .string n1, .bool g1, .slice uA d1.length uc, .slice vA s1.length vc] := ⟨_, rfl⟩
      obtain ⟨RC, hRC⟩ : ∃ RC : Option Addr → Nat → Option Addr → Nat → World → Prop, RC = fun xA xc yA yc W => D.rdRow W (fun _ => True) (Tm.mk k1 n1 g1 d1 s1).enc [.int .u8 k1, .string n1, .bool g1, .slice xA d1.length xc, .slice yA s1.length yc] := ⟨_, rfl⟩
      obtain ⟨RS, hRS⟩ : ∃ RS : Option Addr → Nat → World → Prop, RS = fun A c W => D.rd W (fun _ => True) (.strs 9 (tidy a.frees)) (.slice A (tidy a.frees).length c) := ⟨_, rfl⟩
      have HL6 : Hid (L (w6.alloc (.cells #[.int .u8 k1, .string n1, .bool g1, .slice uA d1.length uc, .slice vA s1.length vc] 28))) := Lib.hid (by subst hL; exact ⟨HKA.out _ _ HK6.out, Blk.new _ _ _, D.rdRow_ext HU6.out (ext_alloc (Below.refl _ _) _)⟩)
      have HLX : Hid (∀ W W', L W → Below W.heap.size W W' → L W') := Lib.hid (by subst hL; exact fun W W' h hb => ⟨HKX.out _ _ h.1 hb, h.2.1.ext hb, D.rdRow_ext h.2.2 hb⟩)
      have HLD : Hid (∀ W, L W → L W.drew) := Lib.hid fun W h => HLX.out _ _ h (Below.refl _ _).drew
      have HLA2 : Hid (∀ W o, L W → L (W.alloc o)) := Lib.hid fun W o h => HLX.out _ _ h (ext_alloc (Below.refl _ _) _)
      have HLB2 : Hid (∀ W, L W → Below w.heap.size w W) := Lib.hid (by subst hL; exact fun W h => HKB.out _ h.1)
      have HLF : Hid (∀ W, L W → (W.cell? ⟨w.heap.size, 0, none⟩ = some (.int .u8 k1) ∧ W.cell? ⟨w.heap.size, 1, none⟩ = some (.string n1) ∧ W.cell? ⟨w.heap.size, 2, none⟩ = some (.bool g1) ∧ W.cell? ⟨w.heap.size, 3, none⟩ = some (.slice dA d1.length dc) ∧ W.cell? ⟨w.heap.size, 4, none⟩ = some (.slice kA s1.length kc)) ∧ (W.cell? ⟨w.heap.size + 1, 0, none⟩ = some (.int .u8 k2) ∧ W.cell? ⟨w.heap.size + 1, 1, none⟩ = some (.string n2) ∧ W.cell? ⟨w.heap.size + 1, 2, none⟩ = some (.bool g2) ∧ W.cell? ⟨w.heap.size + 1, 3, none⟩ = some (.slice dA' d2.length dc') ∧ W.cell? ⟨w.heap.size + 1, 4, none⟩ = some (.slice kA' s2.length kc')) ∧ (W.cell? ⟨w6.heap.size, 0, none⟩ = some (.int .u8 k1) ∧ W.cell? ⟨w6.heap.size, 1, none⟩ = some (.string n1) ∧ W.cell? ⟨w6.heap.size, 2, none⟩ = some (.bool g1) ∧ W.cell? ⟨w6.heap.size, 3, none⟩ = some (.slice uA d1.length uc) ∧ W.cell? ⟨w6.heap.size, 4, none⟩ = some (.slice vA s1.length vc)) ∧ w.heap.size < W.heap.size ∧ w.heap.size + 1 < W.heap.size ∧ w6.heap.size < W.heap.size) := Lib.hid (by subst hL; exact fun W h => ⟨(HKF.out _ h.1).1, (HKF.out _ h.1).2.1, (Blk.c5 h.2.1).1, (HKF.out _ h.1).2.2.1, (HKF.out _ h.1).2.2.2, h.2.1.lt⟩)
      have HKYA2 : Hid (∀ W, L W → Calls Tryz.prog 7 #[.agg #[.int .u8 k1, .string n1, .bool g1, .slice dA d1.length dc, .slice kA s1.length kc]] W fun e w' => e = .returned (.string ka) ∧ Below W.heap.size W w') := Lib.hid (by subst hL; exact fun W h => HKYA.out _ h.1)
      have HSB : Hid (∀ W, L W → Calls Tryz.prog 6 #[.agg #[.int .u8 k1, .string n1, .bool g1, .slice uA d1.length uc, .slice vA s1.length vc], .agg #[.int .u8 k1, .string n1, .bool g1, .slice dA d1.length dc, .slice kA s1.length kc]] W (Tells W (.bool true))) := Lib.hid (by
        subst hL
        intro W h
        have := sameTerm_calls (.mk k1 n1 g1 d1 s1) a W (fun _ => True) (fun _ => True) _ _ h.2.2 (HRDA.out _ h.1).1
        rw [decide_eq_true HTa.out] at this
        exact this)
      have HCP : Hid (∀ W, L W → Calls Tryz.prog 9 #[.agg #[.int .u8 k1, .string n1, .bool g1, .slice dA d1.length dc, .slice kA s1.length kc]] W (CopyPost W (.mk k1 n1 g1 d1 s1))) := Lib.hid (by
        subst hL
        intro W h
        have := copyTerm_calls a W (fun _ => True) _ HFC.out (HRDA.out _ h.1).1
        rw [← HTa.out] at this
        exact this)
      have HRCX : Hid (∀ xA xc yA yc W W', RC xA xc yA yc W → Below W.heap.size W W' → RC xA xc yA yc W') := Lib.hid (by subst hRC; exact fun xA xc yA yc W W' h hb => D.rdRow_ext h hb)
      have HRCD : Hid (∀ xA xc yA yc W, RC xA xc yA yc W → RC xA xc yA yc W.drew) := Lib.hid fun xA xc yA yc W h => HRCX.out _ _ _ _ _ _ h (Below.refl _ _).drew
      have HRCA : Hid (∀ xA xc yA yc W o, RC xA xc yA yc W → RC xA xc yA yc (W.alloc o)) := Lib.hid fun xA xc yA yc W o h => HRCX.out _ _ _ _ _ _ h (ext_alloc (Below.refl _ _) _)
      have HRC0 : Hid (∀ xA xc yA yc W W0, MadeRow W (fun g => W0 ≤ g) (Tm.mk k1 n1 g1 d1 s1).enc [.int .u8 k1, .string n1, .bool g1, .slice xA d1.length xc, .slice yA s1.length yc] → RC xA xc yA yc W) := Lib.hid (by subst hRC; exact fun xA xc yA yc W W0 h => D.rdRow_mono (fun g _ => ⟨trivial, rfl⟩) _ _ h.rd)
      have HKYC : Hid (∀ W xA xc yA yc, L W → RC xA xc yA yc W → Calls Tryz.prog 7 #[.agg #[.int .u8 k1, .string n1, .bool g1, .slice xA d1.length xc, .slice yA s1.length yc]] W fun e w' => e = .returned (.string ka) ∧ Below W.heap.size W w') := Lib.hid (by
        subst hL hRC
        intro W xA xc yA yc h hr
        have := key_calls a B W (fun _ => True) [.int .u8 k1, .string n1, .bool g1, .slice xA d1.length xc, .slice yA s1.length yc] (by rw [← HTa.out]; exact hr) (HENV.out W h.1).1.env HWA.out HFC.out HKL.out
        rw [HKAE.out] at this
        exact this)
      have HSZA : Hid (∀ W g, L W → Blk W g #[.int .u8 k1, .string n1, .bool g1, .slice dA d1.length dc, .slice kA s1.length kc] 28 → Calls Tryz.prog 10 #[.slice (some ⟨g, 0, none⟩) 1 1] W (Tells W (.int .i64 (Tm.sizes [a])))) := Lib.hid (by subst hL; exact fun W g h hb => sizes_calls [a] W (fun _ => True) _ (rd_blk (n := 1) hb rfl rfl (by decide) trivial (rdCells_cons (xs := []) rfl (HRDA.out _ h.1).1 rdCells_nil)) HSZ1.out.1)
      have HSZB : Hid (∀ W g, L W → Blk W g #[.int .u8 k2, .string n2, .bool g2, .slice dA' d2.length dc', .slice kA' s2.length kc'] 28 → Calls Tryz.prog 10 #[.slice (some ⟨g, 0, none⟩) 1 1] W (Tells W (.int .i64 (Tm.sizes [a])))) := Lib.hid (by subst hL; exact fun W g h hb => sizes_calls [a] W (fun _ => True) _ (rd_blk (n := 1) hb rfl rfl (by decide) trivial (rdCells_cons (xs := []) rfl (HRDA.out _ h.1).2 rdCells_nil)) HSZ1.out.1)
      have HFRA : Hid (∀ W, L W → Calls Tryz.prog 12 #[.agg #[.int .u8 k1, .string n1, .bool g1, .slice dA d1.length dc, .slice kA s1.length kc]] W (TextsPost W (tidy a.frees))) := Lib.hid (by subst hL; exact fun W h => free_calls a W (fun _ => True) _ (HRDA.out _ h.1).1 HSZ1.out.2)
      have HFRB : Hid (∀ W, L W → Calls Tryz.prog 12 #[.agg #[.int .u8 k2, .string n2, .bool g2, .slice dA' d2.length dc', .slice kA' s2.length kc']] W (TextsPost W (tidy a.frees))) := Lib.hid (by subst hL; exact fun W h => free_calls a W (fun _ => True) _ (HRDA.out _ h.1).2 HSZ1.out.2)
      have HRSX : Hid (∀ A c W W', RS A c W → Below W.heap.size W W' → RS A c W') := Lib.hid (by subst hRS; exact fun A c W W' h hb => D.rd_ext h hb)
      have HRSD : Hid (∀ A c W, RS A c W → RS A c W.drew) := Lib.hid fun A c W h => HRSX.out _ _ _ _ h (Below.refl _ _).drew
      have HRSA : Hid (∀ A c W o, RS A c W → RS A c (W.alloc o)) := Lib.hid fun A c W o h => HRSX.out _ _ _ _ h (ext_alloc (Below.refl _ _) _)
      have HRS0 : Hid (∀ A c W W0, D.rd W (fun g => W0 ≤ g) (.strs 9 (tidy a.frees)) (.slice A (tidy a.frees).length c) → RS A c W) := Lib.hid (by subst hRS; exact fun A c W W0 h => D.rd_mono (fun g _ => ⟨trivial, rfl⟩) _ _ h)
      have HSTX : Hid (∀ W A c A' c', RS A c W → RS A' c' W → Calls Tryz.prog 11 #[.slice A (tidy a.frees).length c, .slice A' (tidy a.frees).length c'] W (Tells W (.bool true))) := Lib.hid (by
        subst hRS
        intro W A c A' c' h h'
        have := sameTexts_calls W (fun _ => True) (fun _ => True) _ _ _ _ h h'
        rw [decide_eq_true rfl] at this
        exact this)
      have hsz : ((Tm.sizes [a] : Int) == (Tm.sizes [a] : Int)) = true := by simp
      obtain ⟨⟨a0, a1, a2, a3, a4⟩, ⟨b0, b1, b2, b3, b4⟩, ⟨u0, u1, u2, u3, u4⟩, za, zb, zu⟩ := HLF.out _ HL6.out
      clear hL hRC hRS HKq HK5 HK6 HU6 HK3
      have hkk : (ka.toList == ka.toList) = true := by simp
      refine wp_region_held_drew (S := (fun w' => w'.cell? ⟨w.heap.size, 0, none⟩ = some (.int .u8 k1) ∧ w'.cell? ⟨w.heap.size, 1, none⟩ = some (.string n1) ∧ w'.cell? ⟨w.heap.size, 2, none⟩ = some (.bool g1) ∧ w'.cell? ⟨w.heap.size, 3, none⟩ = some (.slice dA d1.length dc) ∧ w'.cell? ⟨w.heap.size, 4, none⟩ = some (.slice kA s1.length kc) ∧ w'.cell? ⟨w.heap.size + 1, 0, none⟩ = some (.int .u8 k2) ∧ w'.cell? ⟨w.heap.size + 1, 1, none⟩ = some (.string n2) ∧ w'.cell? ⟨w.heap.size + 1, 2, none⟩ = some (.bool g2) ∧ w'.cell? ⟨w.heap.size + 1, 3, none⟩ = some (.slice dA' d2.length dc') ∧ w'.cell? ⟨w.heap.size + 1, 4, none⟩ = some (.slice kA' s2.length kc') ∧ w'.cell? ⟨w6.heap.size, 0, none⟩ = some (.int .u8 k1) ∧ w'.cell? ⟨w6.heap.size, 1, none⟩ = some (.string n1) ∧ w'.cell? ⟨w6.heap.size, 2, none⟩ = some (.bool g1) ∧ w'.cell? ⟨w6.heap.size, 3, none⟩ = some (.slice uA d1.length uc) ∧ w'.cell? ⟨w6.heap.size, 4, none⟩ = some (.slice vA s1.length vc))) (by kernel_rfl) ?_ (fun hHeld => ?_)
      · first | exact ⟨a0, a1, a2, a3, a4, b0, b1, b2, b3, b4, u0, u1, u2, u3, u4⟩ | go_keep
      refine take_at (i := 0) (v := ?_) rfl (by kernel_rfl) (by kernel_rfl) (by kernel_rfl) (fun _ _ _ h => h) (Or.inl ⟨by rfl, ?_⟩) (by assumption) ?_
      rotate_left
      · intro w hSw
        try dsimp only at hSw
        go_simp
        all_goals (with_reducible rfl)
      try simp only [Act.put, List.setIfInBounds_toArray, List.set_cons_zero, List.set_cons_succ]
      refine take_at (i := 1) (v := ?_) rfl (by kernel_rfl) (by kernel_rfl) (by kernel_rfl) (fun _ _ _ h => h) (Or.inl ⟨by rfl, ?_⟩) (by assumption) ?_
      rotate_left
      · intro w hSw
        try dsimp only at hSw
        go_simp
        all_goals (with_reducible rfl)
      try simp only [Act.put, List.setIfInBounds_toArray, List.set_cons_zero, List.set_cons_succ]
      refine take_at (i := 2) (v := ?_) rfl (by kernel_rfl) (by kernel_rfl) (by kernel_rfl) (fun _ _ _ h => h) (Or.inl ⟨by rfl, ?_⟩) (by assumption) ?_
      rotate_left
      · intro w hSw
        try dsimp only at hSw
        go_simp
        all_goals (with_reducible rfl)
      try simp only [Act.put, List.setIfInBounds_toArray, List.set_cons_zero, List.set_cons_succ]
      refine take_at (i := 3) (v := ?_) rfl (by kernel_rfl) (by kernel_rfl) (by kernel_rfl) (fun _ _ _ h => h) (Or.inl ⟨by rfl, ?_⟩) (by assumption) ?_
      rotate_left
      · intro w hSw
        try dsimp only at hSw
        go_simp
        all_goals (with_reducible rfl)
      try simp only [Act.put, List.setIfInBounds_toArray, List.set_cons_zero, List.set_cons_succ]
      refine wpAnyH_ready (rs := [4]) (by kernel_rfl) (by simp) ?_
      refine cons_at (i := 4) rfl (fun Kk hK => ?_) AllReadyH.nil
      go_simp
      clear a0 a1 a2 a3 a4 b0 b1 b2 b3 b4 u0 u1 u2 u3 u4 hHeld
      ((with_reducible refine Calls.mono (HSB.out _ (by repeat (first | (with_reducible exact Hid.out (by assumption)) | (with_reducible refine HLD.out _ ?_) | (with_reducible refine HLA2.out _ _ ?_)))) ?_); rintro e wq ⟨rfl, hb⟩; have HKq := Lib.hid (HLX.out _ _ (by repeat (first | (with_reducible exact Hid.out (by assumption)) | (with_reducible refine HLD.out _ ?_) | (with_reducible refine HLA2.out _ _ ?_))) hb); obtain ⟨⟨a0, a1, a2, a3, a4⟩, ⟨b0, b1, b2, b3, b4⟩, ⟨u0, u1, u2, u3, u4⟩, za, zb, zu⟩ := HLF.out _ HKq.out; have HBq := Lib.hid hb; have hzq := hb.size; clear hb)
      first | refine hK.out _ _ ?_ (fun hHeld => ?_) | (dsimp only; refine hK.out _ _ ?_ (fun hHeld => ?_)) | (go_wp2_with fail; refine hK.out _ _ ?_ (fun hHeld => ?_))
      · try dsimp only
        exact ⟨a0, a1, a2, a3, a4, b0, b1, b2, b3, b4, u0, u1, u2, u3, u4⟩
      clear hK Kk
      try simp only [Act.put, List.setIfInBounds_toArray, List.set_cons_zero, List.set_cons_succ]
      refine take_at (i := 5) (v := ?_) rfl (by kernel_rfl) (by kernel_rfl) (by kernel_rfl) (fun _ _ _ h => h) (Or.inl ⟨by rfl, ?_⟩) (by assumption) ?_
      rotate_left
      · intro w hSw
        try dsimp only at hSw
        go_simp
        all_goals (with_reducible rfl)
      try simp only [Act.put, List.setIfInBounds_toArray, List.set_cons_zero, List.set_cons_succ]
      refine take_at (i := 6) (v := ?_) rfl (by kernel_rfl) (by kernel_rfl) (by kernel_rfl) (fun _ _ _ h => h) (Or.inl ⟨by rfl, ?_⟩) (by assumption) ?_
      rotate_left
      · intro w hSw
        try dsimp only at hSw
        go_simp
        all_goals (with_reducible rfl)
      try simp only [Act.put, List.setIfInBounds_toArray, List.set_cons_zero, List.set_cons_succ]
      refine take_at (i := 7) (v := ?_) rfl (by kernel_rfl) (by kernel_rfl) (by kernel_rfl) (fun _ _ _ h => h) (Or.inl ⟨by rfl, ?_⟩) (by assumption) ?_
      rotate_left
      · intro w hSw
        try dsimp only at hSw
        go_simp
        all_goals (with_reducible rfl)
      try simp only [Act.put, List.setIfInBounds_toArray, List.set_cons_zero, List.set_cons_succ]
      refine take_at (i := 9) (v := ?_) rfl (by kernel_rfl) (by kernel_rfl) (by kernel_rfl) (fun _ _ _ h => h) (Or.inl ⟨by rfl, ?_⟩) (by assumption) ?_
      rotate_left
      · intro w hSw
        try dsimp only at hSw
        go_simp
        all_goals (with_reducible rfl)
      try simp only [Act.put, List.setIfInBounds_toArray, List.set_cons_zero, List.set_cons_succ]
      refine wpAnyH_ready (rs := [8]) (by kernel_rfl) (by simp) ?_
      refine cons_at (i := 8) rfl (fun Kk hK => ?_) AllReadyH.nil
      go_simp
      clear a0 a1 a2 a3 a4 b0 b1 b2 b3 b4 u0 u1 u2 u3 u4 hHeld
      ((with_reducible refine Calls.mono (HKYA2.out _ (by repeat (first | (with_reducible exact Hid.out (by assumption)) | (with_reducible refine HLD.out _ ?_) | (with_reducible refine HLA2.out _ _ ?_)))) ?_); rintro e wq ⟨rfl, hb⟩; have HKq := Lib.hid (HLX.out _ _ (by repeat (first | (with_reducible exact Hid.out (by assumption)) | (with_reducible refine HLD.out _ ?_) | (with_reducible refine HLA2.out _ _ ?_))) hb); obtain ⟨⟨a0, a1, a2, a3, a4⟩, ⟨b0, b1, b2, b3, b4⟩, ⟨u0, u1, u2, u3, u4⟩, za, zb, zu⟩ := HLF.out _ HKq.out; have HBq := Lib.hid hb; have hzq := hb.size; clear hb)
      first | refine hK.out _ _ ?_ (fun hHeld => ?_) | (dsimp only; refine hK.out _ _ ?_ (fun hHeld => ?_)) | (go_wp2_with fail; refine hK.out _ _ ?_ (fun hHeld => ?_))
      · try dsimp only
        exact ⟨a0, a1, a2, a3, a4, b0, b1, b2, b3, b4, u0, u1, u2, u3, u4⟩
      clear hK Kk
      try simp only [Act.put, List.setIfInBounds_toArray, List.set_cons_zero, List.set_cons_succ]
      refine wpAnyH_ready (rs := [10]) (by kernel_rfl) (by simp) ?_
      refine cons_at (i := 10) rfl (fun Kk hK => ?_) AllReadyH.nil
      go_simp
      clear a0 a1 a2 a3 a4 b0 b1 b2 b3 b4 u0 u1 u2 u3 u4 hHeld
      ((with_reducible refine copy_call (HCP.out _ (by repeat (first | (with_reducible exact Hid.out (by assumption)) | (with_reducible refine HLD.out _ ?_) | (with_reducible refine HLA2.out _ _ ?_)))) ?_); intro wq xA xc yA yc hb hu; have HRCq := Lib.hid (HRC0.out _ _ _ _ _ _ hu); clear hu; have HKq := Lib.hid (HLX.out _ _ (by repeat (first | (with_reducible exact Hid.out (by assumption)) | (with_reducible refine HLD.out _ ?_) | (with_reducible refine HLA2.out _ _ ?_))) hb); obtain ⟨⟨a0, a1, a2, a3, a4⟩, ⟨b0, b1, b2, b3, b4⟩, ⟨u0, u1, u2, u3, u4⟩, za, zb, zu⟩ := HLF.out _ HKq.out; have HBq := Lib.hid hb; have hzq := hb.size; clear hb)
      first | refine hK.out _ _ ?_ (fun hHeld => ?_) | (dsimp only; refine hK.out _ _ ?_ (fun hHeld => ?_)) | (go_wp2_with fail; refine hK.out _ _ ?_ (fun hHeld => ?_))
      · try dsimp only
        exact ⟨a0, a1, a2, a3, a4, b0, b1, b2, b3, b4, u0, u1, u2, u3, u4⟩
      clear hK Kk
      try simp only [Act.put, List.setIfInBounds_toArray, List.set_cons_zero, List.set_cons_succ]
      refine wpAnyH_ready (rs := [11]) (by kernel_rfl) (by simp) ?_
      refine cons_at (i := 11) rfl (fun Kk hK => ?_) AllReadyH.nil
      go_simp
      clear a0 a1 a2 a3 a4 b0 b1 b2 b3 b4 u0 u1 u2 u3 u4 hHeld
      ((with_reducible refine Calls.mono (HKYC.out _ _ _ _ _ (by repeat (first | (with_reducible exact Hid.out (by assumption)) | (with_reducible refine HLD.out _ ?_) | (with_reducible refine HLA2.out _ _ ?_))) (by repeat (first | (with_reducible exact Hid.out (by assumption)) | (with_reducible refine HRCD.out _ _ _ _ _ ?_) | (with_reducible refine HRCA.out _ _ _ _ _ _ ?_) | (with_reducible refine HRCX.out _ _ _ _ _ _ ?_ (Hid.out (by assumption)))))) ?_); rintro e wq ⟨rfl, hb⟩; have HKq := Lib.hid (HLX.out _ _ (by repeat (first | (with_reducible exact Hid.out (by assumption)) | (with_reducible refine HLD.out _ ?_) | (with_reducible refine HLA2.out _ _ ?_))) hb); obtain ⟨⟨a0, a1, a2, a3, a4⟩, ⟨b0, b1, b2, b3, b4⟩, ⟨u0, u1, u2, u3, u4⟩, za, zb, zu⟩ := HLF.out _ HKq.out; have HBq := Lib.hid hb; have hzq := hb.size; clear hb)
      first | refine hK.out _ _ ?_ (fun hHeld => ?_) | (dsimp only; refine hK.out _ _ ?_ (fun hHeld => ?_)) | (go_wp2_with fail; refine hK.out _ _ ?_ (fun hHeld => ?_))
      · try dsimp only
        exact ⟨a0, a1, a2, a3, a4, b0, b1, b2, b3, b4, u0, u1, u2, u3, u4⟩
      clear hK Kk
      try simp only [Act.put, List.setIfInBounds_toArray, List.set_cons_zero, List.set_cons_succ]
      refine take_at (i := 12) (v := ?_) rfl (by kernel_rfl) (by kernel_rfl) (by kernel_rfl) (fun _ _ _ h => h) (Or.inl ⟨by rfl, ?_⟩) (by assumption) ?_
      rotate_left
      · intro w hSw
        try dsimp only at hSw
        go_simp
        all_goals (with_reducible rfl)
      try simp only [Act.put, List.setIfInBounds_toArray, List.set_cons_zero, List.set_cons_succ]
      refine take_at (i := 13) (v := ?_) rfl (by kernel_rfl) (by kernel_rfl) (by kernel_rfl) (fun _ _ _ h => h) (Or.inl ⟨by rfl, ?_⟩) (by assumption) ?_
      rotate_left
      · intro w hSw
        try dsimp only at hSw
        go_simp
        all_goals (with_reducible rfl)
      try simp only [Act.put, List.setIfInBounds_toArray, List.set_cons_zero, List.set_cons_succ]
      refine take_at (i := 14) (v := ?_) rfl (by kernel_rfl) (by kernel_rfl) (by kernel_rfl) (fun _ _ _ h => h) (Or.inl ⟨by rfl, ?_⟩) (by assumption) ?_
      rotate_left
      · intro w hSw
        try dsimp only at hSw
        go_simp
        all_goals (with_reducible rfl)
      try simp only [Act.put, List.setIfInBounds_toArray, List.set_cons_zero, List.set_cons_succ]
      refine take_at (i := 15) (v := ?_) rfl (by kernel_rfl) (by kernel_rfl) (by kernel_rfl) (fun _ _ _ h => h) (Or.inl ⟨by rfl, ?_⟩) (by assumption) ?_
      rotate_left
      · intro w hSw
        try dsimp only at hSw
        go_simp
        all_goals (with_reducible rfl)
      try simp only [Act.put, List.setIfInBounds_toArray, List.set_cons_zero, List.set_cons_succ]
      refine take_at (i := 16) (v := ?_) rfl (by kernel_rfl) (by kernel_rfl) (by kernel_rfl) (fun _ _ _ h => h) (Or.inl ⟨by rfl, ?_⟩) (by assumption) ?_
      rotate_left
      · intro w hSw
        try dsimp only at hSw
        go_simp
        all_goals (with_reducible rfl)
      try simp only [Act.put, List.setIfInBounds_toArray, List.set_cons_zero, List.set_cons_succ]
      refine take_at (i := 17) (v := ?_) rfl (by kernel_rfl) (by kernel_rfl) (by kernel_rfl) (fun _ _ _ h => h) (Or.inl ⟨by rfl, ?_⟩) (by assumption) ?_
      rotate_left
      · intro w hSw
        try dsimp only at hSw
        go_simp
        all_goals (with_reducible rfl)
      try simp only [Act.put, List.setIfInBounds_toArray, List.set_cons_zero, List.set_cons_succ]
      refine take_at (i := 18) (v := ?_) rfl (by kernel_rfl) (by kernel_rfl) (by kernel_rfl) (fun _ _ _ h => h) (Or.inl ⟨by rfl, ?_⟩) (by assumption) ?_
      rotate_left
      · intro w hSw
        try dsimp only at hSw
        go_simp
        all_goals (with_reducible rfl)
      try simp only [Act.put, List.setIfInBounds_toArray, List.set_cons_zero, List.set_cons_succ]
      refine take_at (i := 21) (v := ?_) rfl (by kernel_rfl) (by kernel_rfl) (by kernel_rfl) (fun _ _ _ h => h) (Or.inl ⟨by rfl, ?_⟩) (by assumption) ?_
      rotate_left
      · intro w hSw
        try dsimp only at hSw
        go_simp
        all_goals (with_reducible rfl)
      try simp only [Act.put, List.setIfInBounds_toArray, List.set_cons_zero, List.set_cons_succ]
      refine wpAnyH_ready (rs := [19, 22]) (by kernel_rfl) (by simp) ?_
      refine cons_at (i := 19) rfl (fun Kk hK => ?_) ?_
      · skip
        go_simp
        refine hK.out _ _ ?_ (fun hHeld => ?_)
        · (try dsimp only); go_keep
        clear hK Kk
        try simp only [Act.put, List.setIfInBounds_toArray, List.set_cons_zero, List.set_cons_succ]
        refine wpAnyH_ready (rs := [20, 22]) (by kernel_rfl) (by simp) ?_
        refine cons_at (i := 20) rfl (fun Kk hK => ?_) ?_
        · skip
          go_simp
          clear a0 a1 a2 a3 a4 b0 b1 b2 b3 b4 u0 u1 u2 u3 u4 hHeld
          ((with_reducible refine Calls.mono (HSZA.out _ _ (by repeat (first | (with_reducible exact Hid.out (by assumption)) | (with_reducible refine HLD.out _ ?_) | (with_reducible refine HLA2.out _ _ ?_))) (by repeat (first | (with_reducible exact Blk.new _ _ _) | ((with_reducible refine Blk.new' _ _ _ ?_); (focus (simp; done))) | (with_reducible refine Blk.drew ?_) | (with_reducible refine Blk.alloc ?_ _) | (with_reducible refine Blk.ext ?_ (Hid.out (by assumption)))))) ?_); rintro e wq ⟨rfl, hb⟩; have HKq := Lib.hid (HLX.out _ _ (by repeat (first | (with_reducible exact Hid.out (by assumption)) | (with_reducible refine HLD.out _ ?_) | (with_reducible refine HLA2.out _ _ ?_))) hb); obtain ⟨⟨a0, a1, a2, a3, a4⟩, ⟨b0, b1, b2, b3, b4⟩, ⟨u0, u1, u2, u3, u4⟩, za, zb, zu⟩ := HLF.out _ HKq.out; have HBq := Lib.hid hb; have hzq := hb.size; clear hb)
          first | refine hK.out _ _ ?_ (fun hHeld => ?_) | (dsimp only; refine hK.out _ _ ?_ (fun hHeld => ?_)) | (go_wp2_with fail; refine hK.out _ _ ?_ (fun hHeld => ?_))
          · try dsimp only
            exact ⟨a0, a1, a2, a3, a4, b0, b1, b2, b3, b4, u0, u1, u2, u3, u4⟩
          clear hK Kk
          try simp only [Act.put, List.setIfInBounds_toArray, List.set_cons_zero, List.set_cons_succ]
          refine wpAnyH_ready (rs := [22]) (by kernel_rfl) (by simp) ?_
          refine cons_at (i := 22) rfl (fun Kk hK => ?_) AllReadyH.nil
          go_simp
          refine hK.out _ _ ?_ (fun hHeld => ?_)
          · (try dsimp only); go_keep
          clear hK Kk
          try simp only [Act.put, List.setIfInBounds_toArray, List.set_cons_zero, List.set_cons_succ]
          refine wpAnyH_ready (rs := [23]) (by kernel_rfl) (by simp) ?_
          refine cons_at (i := 23) rfl (fun Kk hK => ?_) AllReadyH.nil
          go_simp
          clear a0 a1 a2 a3 a4 b0 b1 b2 b3 b4 u0 u1 u2 u3 u4 hHeld
          ((with_reducible refine Calls.mono (HSZB.out _ _ (by repeat (first | (with_reducible exact Hid.out (by assumption)) | (with_reducible refine HLD.out _ ?_) | (with_reducible refine HLA2.out _ _ ?_))) (by repeat (first | (with_reducible exact Blk.new _ _ _) | ((with_reducible refine Blk.new' _ _ _ ?_); (focus (simp; done))) | (with_reducible refine Blk.drew ?_) | (with_reducible refine Blk.alloc ?_ _) | (with_reducible refine Blk.ext ?_ (Hid.out (by assumption)))))) ?_); rintro e wq ⟨rfl, hb⟩; have HKq := Lib.hid (HLX.out _ _ (by repeat (first | (with_reducible exact Hid.out (by assumption)) | (with_reducible refine HLD.out _ ?_) | (with_reducible refine HLA2.out _ _ ?_))) hb); obtain ⟨⟨a0, a1, a2, a3, a4⟩, ⟨b0, b1, b2, b3, b4⟩, ⟨u0, u1, u2, u3, u4⟩, za, zb, zu⟩ := HLF.out _ HKq.out; have HBq := Lib.hid hb; have hzq := hb.size; clear hb)
          first | refine hK.out _ _ ?_ (fun hHeld => ?_) | (dsimp only; refine hK.out _ _ ?_ (fun hHeld => ?_)) | (go_wp2_with fail; refine hK.out _ _ ?_ (fun hHeld => ?_))
          · try dsimp only
            exact ⟨a0, a1, a2, a3, a4, b0, b1, b2, b3, b4, u0, u1, u2, u3, u4⟩
          clear hK Kk
          try simp only [Act.put, List.setIfInBounds_toArray, List.set_cons_zero, List.set_cons_succ]
          refine take_at (i := 24) (v := ?_) rfl (by kernel_rfl) (by kernel_rfl) (by kernel_rfl) (fun _ _ _ h => h) (Or.inl ⟨by rfl, ?_⟩) (by assumption) ?_
          rotate_left
          · intro w hSw
            try dsimp only at hSw
            go_simp
            all_goals (with_reducible rfl)
          try simp only [Act.put, List.setIfInBounds_toArray, List.set_cons_zero, List.set_cons_succ]
          refine take_at (i := 25) (v := ?_) rfl (by kernel_rfl) (by kernel_rfl) (by kernel_rfl) (fun _ _ _ h => h) (Or.inl ⟨by rfl, ?_⟩) (by assumption) ?_
          rotate_left
          · intro w hSw
            try dsimp only at hSw
            go_simp
            all_goals (with_reducible rfl)
          try simp only [Act.put, List.setIfInBounds_toArray, List.set_cons_zero, List.set_cons_succ]
          refine take_at (i := 26) (v := ?_) rfl (by kernel_rfl) (by kernel_rfl) (by kernel_rfl) (fun _ _ _ h => h) (Or.inl ⟨by rfl, ?_⟩) (by assumption) ?_
          rotate_left
          · intro w hSw
            try dsimp only at hSw
            go_simp
            all_goals (with_reducible rfl)
          try simp only [Act.put, List.setIfInBounds_toArray, List.set_cons_zero, List.set_cons_succ]
          refine take_at (i := 28) (v := ?_) rfl (by kernel_rfl) (by kernel_rfl) (by kernel_rfl) (fun _ _ _ h => h) (Or.inl ⟨by rfl, ?_⟩) (by assumption) ?_
          rotate_left
          · intro w hSw
            try dsimp only at hSw
            go_simp
            all_goals (with_reducible rfl)
          try simp only [Act.put, List.setIfInBounds_toArray, List.set_cons_zero, List.set_cons_succ]
          refine wpAnyH_ready (rs := [27]) (by kernel_rfl) (by simp) ?_
          refine cons_at (i := 27) rfl (fun Kk hK => ?_) AllReadyH.nil
          go_simp
          clear a0 a1 a2 a3 a4 b0 b1 b2 b3 b4 u0 u1 u2 u3 u4 hHeld
          ((with_reducible refine Calls.mono (HFRA.out _ (by repeat (first | (with_reducible exact Hid.out (by assumption)) | (with_reducible refine HLD.out _ ?_) | (with_reducible refine HLA2.out _ _ ?_)))) ?_); rintro e wq ⟨hb, A, c, rfl, hf⟩; have HRSq := Lib.hid (HRS0.out _ _ _ _ hf); clear hf; have HKq := Lib.hid (HLX.out _ _ (by repeat (first | (with_reducible exact Hid.out (by assumption)) | (with_reducible refine HLD.out _ ?_) | (with_reducible refine HLA2.out _ _ ?_))) hb); obtain ⟨⟨a0, a1, a2, a3, a4⟩, ⟨b0, b1, b2, b3, b4⟩, ⟨u0, u1, u2, u3, u4⟩, za, zb, zu⟩ := HLF.out _ HKq.out; have HBq := Lib.hid hb; have hzq := hb.size; clear hb)
          first | refine hK.out _ _ ?_ (fun hHeld => ?_) | (dsimp only; refine hK.out _ _ ?_ (fun hHeld => ?_)) | (go_wp2_with fail; refine hK.out _ _ ?_ (fun hHeld => ?_))
          · try dsimp only
            exact ⟨a0, a1, a2, a3, a4, b0, b1, b2, b3, b4, u0, u1, u2, u3, u4⟩
          clear hK Kk
          try simp only [Act.put, List.setIfInBounds_toArray, List.set_cons_zero, List.set_cons_succ]
          refine wpAnyH_ready (rs := [29]) (by kernel_rfl) (by simp) ?_
          refine cons_at (i := 29) rfl (fun Kk hK => ?_) AllReadyH.nil
          go_simp
          clear a0 a1 a2 a3 a4 b0 b1 b2 b3 b4 u0 u1 u2 u3 u4 hHeld
          ((with_reducible refine Calls.mono (HFRB.out _ (by repeat (first | (with_reducible exact Hid.out (by assumption)) | (with_reducible refine HLD.out _ ?_) | (with_reducible refine HLA2.out _ _ ?_)))) ?_); rintro e wq ⟨hb, A, c, rfl, hf⟩; have HRSq := Lib.hid (HRS0.out _ _ _ _ hf); clear hf; have HKq := Lib.hid (HLX.out _ _ (by repeat (first | (with_reducible exact Hid.out (by assumption)) | (with_reducible refine HLD.out _ ?_) | (with_reducible refine HLA2.out _ _ ?_))) hb); obtain ⟨⟨a0, a1, a2, a3, a4⟩, ⟨b0, b1, b2, b3, b4⟩, ⟨u0, u1, u2, u3, u4⟩, za, zb, zu⟩ := HLF.out _ HKq.out; have HBq := Lib.hid hb; have hzq := hb.size; clear hb)
          first | refine hK.out _ _ ?_ (fun hHeld => ?_) | (dsimp only; refine hK.out _ _ ?_ (fun hHeld => ?_)) | (go_wp2_with fail; refine hK.out _ _ ?_ (fun hHeld => ?_))
          · try dsimp only
            exact ⟨a0, a1, a2, a3, a4, b0, b1, b2, b3, b4, u0, u1, u2, u3, u4⟩
          clear hK Kk
          try simp only [Act.put, List.setIfInBounds_toArray, List.set_cons_zero, List.set_cons_succ]
          refine wpAnyH_ready (rs := [30]) (by kernel_rfl) (by simp) ?_
          refine cons_at (i := 30) rfl (fun Kk hK => ?_) AllReadyH.nil
          go_simp
          clear a0 a1 a2 a3 a4 b0 b1 b2 b3 b4 u0 u1 u2 u3 u4 hHeld
          ((with_reducible refine Calls.mono (HSTX.out _ _ _ _ _ (by repeat (first | (with_reducible exact Hid.out (by assumption)) | (with_reducible refine HRSD.out _ _ _ ?_) | (with_reducible refine HRSA.out _ _ _ _ ?_) | (with_reducible refine HRSX.out _ _ _ _ ?_ (Hid.out (by assumption))))) (by repeat (first | (with_reducible exact Hid.out (by assumption)) | (with_reducible refine HRSD.out _ _ _ ?_) | (with_reducible refine HRSA.out _ _ _ _ ?_) | (with_reducible refine HRSX.out _ _ _ _ ?_ (Hid.out (by assumption)))))) ?_); rintro e wq ⟨rfl, hb⟩; have HKq := Lib.hid (HLX.out _ _ (by repeat (first | (with_reducible exact Hid.out (by assumption)) | (with_reducible refine HLD.out _ ?_) | (with_reducible refine HLA2.out _ _ ?_))) hb); obtain ⟨⟨a0, a1, a2, a3, a4⟩, ⟨b0, b1, b2, b3, b4⟩, ⟨u0, u1, u2, u3, u4⟩, za, zb, zu⟩ := HLF.out _ HKq.out; have HBq := Lib.hid hb; have hzq := hb.size; clear hb)
          first | refine hK.out _ _ ?_ (fun hHeld => ?_) | (dsimp only; refine hK.out _ _ ?_ (fun hHeld => ?_)) | (go_wp2_with fail; refine hK.out _ _ ?_ (fun hHeld => ?_))
          · try dsimp only
            exact ⟨a0, a1, a2, a3, a4, b0, b1, b2, b3, b4, u0, u1, u2, u3, u4⟩
          clear hK Kk
          try simp only [Act.put, List.setIfInBounds_toArray, List.set_cons_zero, List.set_cons_succ]
          refine take_at (i := 31) (v := ?_) rfl (by kernel_rfl) (by kernel_rfl) (by kernel_rfl) (fun _ _ _ h => h) (Or.inl ⟨by rfl, ?_⟩) (by assumption) ?_
          rotate_left
          · intro w hSw
            try dsimp only at hSw
            go_simp
            all_goals (with_reducible rfl)
          try simp only [Act.put, List.setIfInBounds_toArray, List.set_cons_zero, List.set_cons_succ]
          refine take_at (i := 32) (v := ?_) rfl (by kernel_rfl) (by kernel_rfl) (by kernel_rfl) (fun _ _ _ h => h) (Or.inl ⟨by rfl, ?_⟩) (by assumption) ?_
          rotate_left
          · intro w hSw
            try dsimp only at hSw
            go_simp
            all_goals (with_reducible rfl)
          try simp only [Act.put, List.setIfInBounds_toArray, List.set_cons_zero, List.set_cons_succ]
          refine take_at (i := 33) (v := ?_) rfl (by kernel_rfl) (by kernel_rfl) (by kernel_rfl) (fun _ _ _ h => h) (Or.inl ⟨by rfl, ?_⟩) (by assumption) ?_
          rotate_left
          · intro w hSw
            try dsimp only at hSw
            go_simp
            all_goals (with_reducible rfl)
          try simp only [Act.put, List.setIfInBounds_toArray, List.set_cons_zero, List.set_cons_succ]
          refine take_at (i := 34) (v := ?_) rfl (by kernel_rfl) (by kernel_rfl) (by kernel_rfl) (fun _ _ _ h => h) (Or.inl ⟨by rfl, ?_⟩) (by assumption) ?_
          rotate_left
          · intro w hSw
            try dsimp only at hSw
            go_simp
            all_goals (with_reducible rfl)
          try simp only [Act.put, List.setIfInBounds_toArray, List.set_cons_zero, List.set_cons_succ]
          refine wpAnyH_done (by kernel_rfl) ?_ _
          go_wp2_with fail
          go_ret
          exact ⟨rfl, HLB2.out _ (by repeat (first | (with_reducible exact Hid.out (by assumption)) | (with_reducible refine HLD.out _ ?_) | (with_reducible refine HLA2.out _ _ ?_)))⟩
        refine cons_at (i := 22) rfl (fun Kk hK => ?_) ?_
        · skip
          go_simp
          refine hK.out _ _ ?_ (fun hHeld => ?_)
          · (try dsimp only); go_keep
          clear hK Kk
          try simp only [Act.put, List.setIfInBounds_toArray, List.set_cons_zero, List.set_cons_succ]
          refine wpAnyH_ready (rs := [20]) (by kernel_rfl) (by simp) ?_
          refine cons_at (i := 20) rfl (fun Kk hK => ?_) AllReadyH.nil
          go_simp
          clear a0 a1 a2 a3 a4 b0 b1 b2 b3 b4 u0 u1 u2 u3 u4 hHeld
          ((with_reducible refine Calls.mono (HSZA.out _ _ (by repeat (first | (with_reducible exact Hid.out (by assumption)) | (with_reducible refine HLD.out _ ?_) | (with_reducible refine HLA2.out _ _ ?_))) (by repeat (first | (with_reducible exact Blk.new _ _ _) | ((with_reducible refine Blk.new' _ _ _ ?_); (focus (simp; done))) | (with_reducible refine Blk.drew ?_) | (with_reducible refine Blk.alloc ?_ _) | (with_reducible refine Blk.ext ?_ (Hid.out (by assumption)))))) ?_); rintro e wq ⟨rfl, hb⟩; have HKq := Lib.hid (HLX.out _ _ (by repeat (first | (with_reducible exact Hid.out (by assumption)) | (with_reducible refine HLD.out _ ?_) | (with_reducible refine HLA2.out _ _ ?_))) hb); obtain ⟨⟨a0, a1, a2, a3, a4⟩, ⟨b0, b1, b2, b3, b4⟩, ⟨u0, u1, u2, u3, u4⟩, za, zb, zu⟩ := HLF.out _ HKq.out; have HBq := Lib.hid hb; have hzq := hb.size; clear hb)
          first | refine hK.out _ _ ?_ (fun hHeld => ?_) | (dsimp only; refine hK.out _ _ ?_ (fun hHeld => ?_)) | (go_wp2_with fail; refine hK.out _ _ ?_ (fun hHeld => ?_))
          · try dsimp only
            exact ⟨a0, a1, a2, a3, a4, b0, b1, b2, b3, b4, u0, u1, u2, u3, u4⟩
          clear hK Kk
          try simp only [Act.put, List.setIfInBounds_toArray, List.set_cons_zero, List.set_cons_succ]
          refine wpAnyH_ready (rs := [23]) (by kernel_rfl) (by simp) ?_
          refine cons_at (i := 23) rfl (fun Kk hK => ?_) AllReadyH.nil
          go_simp
          clear a0 a1 a2 a3 a4 b0 b1 b2 b3 b4 u0 u1 u2 u3 u4 hHeld
          ((with_reducible refine Calls.mono (HSZB.out _ _ (by repeat (first | (with_reducible exact Hid.out (by assumption)) | (with_reducible refine HLD.out _ ?_) | (with_reducible refine HLA2.out _ _ ?_))) (by repeat (first | (with_reducible exact Blk.new _ _ _) | ((with_reducible refine Blk.new' _ _ _ ?_); (focus (simp; done))) | (with_reducible refine Blk.drew ?_) | (with_reducible refine Blk.alloc ?_ _) | (with_reducible refine Blk.ext ?_ (Hid.out (by assumption)))))) ?_); rintro e wq ⟨rfl, hb⟩; have HKq := Lib.hid (HLX.out _ _ (by repeat (first | (with_reducible exact Hid.out (by assumption)) | (with_reducible refine HLD.out _ ?_) | (with_reducible refine HLA2.out _ _ ?_))) hb); obtain ⟨⟨a0, a1, a2, a3, a4⟩, ⟨b0, b1, b2, b3, b4⟩, ⟨u0, u1, u2, u3, u4⟩, za, zb, zu⟩ := HLF.out _ HKq.out; have HBq := Lib.hid hb; have hzq := hb.size; clear hb)
          first | refine hK.out _ _ ?_ (fun hHeld => ?_) | (dsimp only; refine hK.out _ _ ?_ (fun hHeld => ?_)) | (go_wp2_with fail; refine hK.out _ _ ?_ (fun hHeld => ?_))
          · try dsimp only
            exact ⟨a0, a1, a2, a3, a4, b0, b1, b2, b3, b4, u0, u1, u2, u3, u4⟩
          clear hK Kk
          try simp only [Act.put, List.setIfInBounds_toArray, List.set_cons_zero, List.set_cons_succ]
          refine take_at (i := 24) (v := ?_) rfl (by kernel_rfl) (by kernel_rfl) (by kernel_rfl) (fun _ _ _ h => h) (Or.inl ⟨by rfl, ?_⟩) (by assumption) ?_
          rotate_left
          · intro w hSw
            try dsimp only at hSw
            go_simp
            all_goals (with_reducible rfl)
          try simp only [Act.put, List.setIfInBounds_toArray, List.set_cons_zero, List.set_cons_succ]
          refine take_at (i := 25) (v := ?_) rfl (by kernel_rfl) (by kernel_rfl) (by kernel_rfl) (fun _ _ _ h => h) (Or.inl ⟨by rfl, ?_⟩) (by assumption) ?_
          rotate_left
          · intro w hSw
            try dsimp only at hSw
            go_simp
            all_goals (with_reducible rfl)
          try simp only [Act.put, List.setIfInBounds_toArray, List.set_cons_zero, List.set_cons_succ]
          refine take_at (i := 26) (v := ?_) rfl (by kernel_rfl) (by kernel_rfl) (by kernel_rfl) (fun _ _ _ h => h) (Or.inl ⟨by rfl, ?_⟩) (by assumption) ?_
          rotate_left
          · intro w hSw
            try dsimp only at hSw
            go_simp
            all_goals (with_reducible rfl)
          try simp only [Act.put, List.setIfInBounds_toArray, List.set_cons_zero, List.set_cons_succ]
          refine take_at (i := 28) (v := ?_) rfl (by kernel_rfl) (by kernel_rfl) (by kernel_rfl) (fun _ _ _ h => h) (Or.inl ⟨by rfl, ?_⟩) (by assumption) ?_
          rotate_left
          · intro w hSw
            try dsimp only at hSw
            go_simp
            all_goals (with_reducible rfl)
          try simp only [Act.put, List.setIfInBounds_toArray, List.set_cons_zero, List.set_cons_succ]
          refine wpAnyH_ready (rs := [27]) (by kernel_rfl) (by simp) ?_
          refine cons_at (i := 27) rfl (fun Kk hK => ?_) AllReadyH.nil
          go_simp
          clear a0 a1 a2 a3 a4 b0 b1 b2 b3 b4 u0 u1 u2 u3 u4 hHeld
          ((with_reducible refine Calls.mono (HFRA.out _ (by repeat (first | (with_reducible exact Hid.out (by assumption)) | (with_reducible refine HLD.out _ ?_) | (with_reducible refine HLA2.out _ _ ?_)))) ?_); rintro e wq ⟨hb, A, c, rfl, hf⟩; have HRSq := Lib.hid (HRS0.out _ _ _ _ hf); clear hf; have HKq := Lib.hid (HLX.out _ _ (by repeat (first | (with_reducible exact Hid.out (by assumption)) | (with_reducible refine HLD.out _ ?_) | (with_reducible refine HLA2.out _ _ ?_))) hb); obtain ⟨⟨a0, a1, a2, a3, a4⟩, ⟨b0, b1, b2, b3, b4⟩, ⟨u0, u1, u2, u3, u4⟩, za, zb, zu⟩ := HLF.out _ HKq.out; have HBq := Lib.hid hb; have hzq := hb.size; clear hb)
          first | refine hK.out _ _ ?_ (fun hHeld => ?_) | (dsimp only; refine hK.out _ _ ?_ (fun hHeld => ?_)) | (go_wp2_with fail; refine hK.out _ _ ?_ (fun hHeld => ?_))
          · try dsimp only
            exact ⟨a0, a1, a2, a3, a4, b0, b1, b2, b3, b4, u0, u1, u2, u3, u4⟩
          clear hK Kk
          try simp only [Act.put, List.setIfInBounds_toArray, List.set_cons_zero, List.set_cons_succ]
          refine wpAnyH_ready (rs := [29]) (by kernel_rfl) (by simp) ?_
          refine cons_at (i := 29) rfl (fun Kk hK => ?_) AllReadyH.nil
          go_simp
          clear a0 a1 a2 a3 a4 b0 b1 b2 b3 b4 u0 u1 u2 u3 u4 hHeld
          ((with_reducible refine Calls.mono (HFRB.out _ (by repeat (first | (with_reducible exact Hid.out (by assumption)) | (with_reducible refine HLD.out _ ?_) | (with_reducible refine HLA2.out _ _ ?_)))) ?_); rintro e wq ⟨hb, A, c, rfl, hf⟩; have HRSq := Lib.hid (HRS0.out _ _ _ _ hf); clear hf; have HKq := Lib.hid (HLX.out _ _ (by repeat (first | (with_reducible exact Hid.out (by assumption)) | (with_reducible refine HLD.out _ ?_) | (with_reducible refine HLA2.out _ _ ?_))) hb); obtain ⟨⟨a0, a1, a2, a3, a4⟩, ⟨b0, b1, b2, b3, b4⟩, ⟨u0, u1, u2, u3, u4⟩, za, zb, zu⟩ := HLF.out _ HKq.out; have HBq := Lib.hid hb; have hzq := hb.size; clear hb)
          first | refine hK.out _ _ ?_ (fun hHeld => ?_) | (dsimp only; refine hK.out _ _ ?_ (fun hHeld => ?_)) | (go_wp2_with fail; refine hK.out _ _ ?_ (fun hHeld => ?_))
          · try dsimp only
            exact ⟨a0, a1, a2, a3, a4, b0, b1, b2, b3, b4, u0, u1, u2, u3, u4⟩
          clear hK Kk
          try simp only [Act.put, List.setIfInBounds_toArray, List.set_cons_zero, List.set_cons_succ]
          refine wpAnyH_ready (rs := [30]) (by kernel_rfl) (by simp) ?_
          refine cons_at (i := 30) rfl (fun Kk hK => ?_) AllReadyH.nil
          go_simp
          clear a0 a1 a2 a3 a4 b0 b1 b2 b3 b4 u0 u1 u2 u3 u4 hHeld
          ((with_reducible refine Calls.mono (HSTX.out _ _ _ _ _ (by repeat (first | (with_reducible exact Hid.out (by assumption)) | (with_reducible refine HRSD.out _ _ _ ?_) | (with_reducible refine HRSA.out _ _ _ _ ?_) | (with_reducible refine HRSX.out _ _ _ _ ?_ (Hid.out (by assumption))))) (by repeat (first | (with_reducible exact Hid.out (by assumption)) | (with_reducible refine HRSD.out _ _ _ ?_) | (with_reducible refine HRSA.out _ _ _ _ ?_) | (with_reducible refine HRSX.out _ _ _ _ ?_ (Hid.out (by assumption)))))) ?_); rintro e wq ⟨rfl, hb⟩; have HKq := Lib.hid (HLX.out _ _ (by repeat (first | (with_reducible exact Hid.out (by assumption)) | (with_reducible refine HLD.out _ ?_) | (with_reducible refine HLA2.out _ _ ?_))) hb); obtain ⟨⟨a0, a1, a2, a3, a4⟩, ⟨b0, b1, b2, b3, b4⟩, ⟨u0, u1, u2, u3, u4⟩, za, zb, zu⟩ := HLF.out _ HKq.out; have HBq := Lib.hid hb; have hzq := hb.size; clear hb)
          first | refine hK.out _ _ ?_ (fun hHeld => ?_) | (dsimp only; refine hK.out _ _ ?_ (fun hHeld => ?_)) | (go_wp2_with fail; refine hK.out _ _ ?_ (fun hHeld => ?_))
          · try dsimp only
            exact ⟨a0, a1, a2, a3, a4, b0, b1, b2, b3, b4, u0, u1, u2, u3, u4⟩
          clear hK Kk
          try simp only [Act.put, List.setIfInBounds_toArray, List.set_cons_zero, List.set_cons_succ]
          refine take_at (i := 31) (v := ?_) rfl (by kernel_rfl) (by kernel_rfl) (by kernel_rfl) (fun _ _ _ h => h) (Or.inl ⟨by rfl, ?_⟩) (by assumption) ?_
          rotate_left
          · intro w hSw
            try dsimp only at hSw
            go_simp
            all_goals (with_reducible rfl)
          try simp only [Act.put, List.setIfInBounds_toArray, List.set_cons_zero, List.set_cons_succ]
          refine take_at (i := 32) (v := ?_) rfl (by kernel_rfl) (by kernel_rfl) (by kernel_rfl) (fun _ _ _ h => h) (Or.inl ⟨by rfl, ?_⟩) (by assumption) ?_
          rotate_left
          · intro w hSw
            try dsimp only at hSw
            go_simp
            all_goals (with_reducible rfl)
          try simp only [Act.put, List.setIfInBounds_toArray, List.set_cons_zero, List.set_cons_succ]
          refine take_at (i := 33) (v := ?_) rfl (by kernel_rfl) (by kernel_rfl) (by kernel_rfl) (fun _ _ _ h => h) (Or.inl ⟨by rfl, ?_⟩) (by assumption) ?_
          rotate_left
          · intro w hSw
            try dsimp only at hSw
            go_simp
            all_goals (with_reducible rfl)
          try simp only [Act.put, List.setIfInBounds_toArray, List.set_cons_zero, List.set_cons_succ]
          refine take_at (i := 34) (v := ?_) rfl (by kernel_rfl) (by kernel_rfl) (by kernel_rfl) (fun _ _ _ h => h) (Or.inl ⟨by rfl, ?_⟩) (by assumption) ?_
          rotate_left
          · intro w hSw
            try dsimp only at hSw
            go_simp
            all_goals (with_reducible rfl)
          try simp only [Act.put, List.setIfInBounds_toArray, List.set_cons_zero, List.set_cons_succ]
          refine wpAnyH_done (by kernel_rfl) ?_ _
          go_wp2_with fail
          go_ret
          exact ⟨rfl, HLB2.out _ (by repeat (first | (with_reducible exact Hid.out (by assumption)) | (with_reducible refine HLD.out _ ?_) | (with_reducible refine HLA2.out _ _ ?_)))⟩
        exact AllReadyH.nil
      refine cons_at (i := 22) rfl (fun Kk hK => ?_) ?_
      · skip
        go_simp
        refine hK.out _ _ ?_ (fun hHeld => ?_)
        · (try dsimp only); go_keep
        clear hK Kk
        try simp only [Act.put, List.setIfInBounds_toArray, List.set_cons_zero, List.set_cons_succ]
        refine wpAnyH_ready (rs := [19]) (by kernel_rfl) (by simp) ?_
        refine cons_at (i := 19) rfl (fun Kk hK => ?_) AllReadyH.nil
        go_simp
        refine hK.out _ _ ?_ (fun hHeld => ?_)
        · (try dsimp only); go_keep
        clear hK Kk
        try simp only [Act.put, List.setIfInBounds_toArray, List.set_cons_zero, List.set_cons_succ]
        refine wpAnyH_ready (rs := [20]) (by kernel_rfl) (by simp) ?_
        refine cons_at (i := 20) rfl (fun Kk hK => ?_) AllReadyH.nil
        go_simp
        clear a0 a1 a2 a3 a4 b0 b1 b2 b3 b4 u0 u1 u2 u3 u4 hHeld
        ((with_reducible refine Calls.mono (HSZA.out _ _ (by repeat (first | (with_reducible exact Hid.out (by assumption)) | (with_reducible refine HLD.out _ ?_) | (with_reducible refine HLA2.out _ _ ?_))) (by repeat (first | (with_reducible exact Blk.new _ _ _) | ((with_reducible refine Blk.new' _ _ _ ?_); (focus (simp; done))) | (with_reducible refine Blk.drew ?_) | (with_reducible refine Blk.alloc ?_ _) | (with_reducible refine Blk.ext ?_ (Hid.out (by assumption)))))) ?_); rintro e wq ⟨rfl, hb⟩; have HKq := Lib.hid (HLX.out _ _ (by repeat (first | (with_reducible exact Hid.out (by assumption)) | (with_reducible refine HLD.out _ ?_) | (with_reducible refine HLA2.out _ _ ?_))) hb); obtain ⟨⟨a0, a1, a2, a3, a4⟩, ⟨b0, b1, b2, b3, b4⟩, ⟨u0, u1, u2, u3, u4⟩, za, zb, zu⟩ := HLF.out _ HKq.out; have HBq := Lib.hid hb; have hzq := hb.size; clear hb)
        first | refine hK.out _ _ ?_ (fun hHeld => ?_) | (dsimp only; refine hK.out _ _ ?_ (fun hHeld => ?_)) | (go_wp2_with fail; refine hK.out _ _ ?_ (fun hHeld => ?_))
        · try dsimp only
          exact ⟨a0, a1, a2, a3, a4, b0, b1, b2, b3, b4, u0, u1, u2, u3, u4⟩
        clear hK Kk
        try simp only [Act.put, List.setIfInBounds_toArray, List.set_cons_zero, List.set_cons_succ]
        refine wpAnyH_ready (rs := [23]) (by kernel_rfl) (by simp) ?_
        refine cons_at (i := 23) rfl (fun Kk hK => ?_) AllReadyH.nil
        go_simp
        clear a0 a1 a2 a3 a4 b0 b1 b2 b3 b4 u0 u1 u2 u3 u4 hHeld
        ((with_reducible refine Calls.mono (HSZB.out _ _ (by repeat (first | (with_reducible exact Hid.out (by assumption)) | (with_reducible refine HLD.out _ ?_) | (with_reducible refine HLA2.out _ _ ?_))) (by repeat (first | (with_reducible exact Blk.new _ _ _) | ((with_reducible refine Blk.new' _ _ _ ?_); (focus (simp; done))) | (with_reducible refine Blk.drew ?_) | (with_reducible refine Blk.alloc ?_ _) | (with_reducible refine Blk.ext ?_ (Hid.out (by assumption)))))) ?_); rintro e wq ⟨rfl, hb⟩; have HKq := Lib.hid (HLX.out _ _ (by repeat (first | (with_reducible exact Hid.out (by assumption)) | (with_reducible refine HLD.out _ ?_) | (with_reducible refine HLA2.out _ _ ?_))) hb); obtain ⟨⟨a0, a1, a2, a3, a4⟩, ⟨b0, b1, b2, b3, b4⟩, ⟨u0, u1, u2, u3, u4⟩, za, zb, zu⟩ := HLF.out _ HKq.out; have HBq := Lib.hid hb; have hzq := hb.size; clear hb)
        first | refine hK.out _ _ ?_ (fun hHeld => ?_) | (dsimp only; refine hK.out _ _ ?_ (fun hHeld => ?_)) | (go_wp2_with fail; refine hK.out _ _ ?_ (fun hHeld => ?_))
        · try dsimp only
          exact ⟨a0, a1, a2, a3, a4, b0, b1, b2, b3, b4, u0, u1, u2, u3, u4⟩
        clear hK Kk
        try simp only [Act.put, List.setIfInBounds_toArray, List.set_cons_zero, List.set_cons_succ]
        refine take_at (i := 24) (v := ?_) rfl (by kernel_rfl) (by kernel_rfl) (by kernel_rfl) (fun _ _ _ h => h) (Or.inl ⟨by rfl, ?_⟩) (by assumption) ?_
        rotate_left
        · intro w hSw
          try dsimp only at hSw
          go_simp
          all_goals (with_reducible rfl)
        try simp only [Act.put, List.setIfInBounds_toArray, List.set_cons_zero, List.set_cons_succ]
        refine take_at (i := 25) (v := ?_) rfl (by kernel_rfl) (by kernel_rfl) (by kernel_rfl) (fun _ _ _ h => h) (Or.inl ⟨by rfl, ?_⟩) (by assumption) ?_
        rotate_left
        · intro w hSw
          try dsimp only at hSw
          go_simp
          all_goals (with_reducible rfl)
        try simp only [Act.put, List.setIfInBounds_toArray, List.set_cons_zero, List.set_cons_succ]
        refine take_at (i := 26) (v := ?_) rfl (by kernel_rfl) (by kernel_rfl) (by kernel_rfl) (fun _ _ _ h => h) (Or.inl ⟨by rfl, ?_⟩) (by assumption) ?_
        rotate_left
        · intro w hSw
          try dsimp only at hSw
          go_simp
          all_goals (with_reducible rfl)
        try simp only [Act.put, List.setIfInBounds_toArray, List.set_cons_zero, List.set_cons_succ]
        refine take_at (i := 28) (v := ?_) rfl (by kernel_rfl) (by kernel_rfl) (by kernel_rfl) (fun _ _ _ h => h) (Or.inl ⟨by rfl, ?_⟩) (by assumption) ?_
        rotate_left
        · intro w hSw
          try dsimp only at hSw
          go_simp
          all_goals (with_reducible rfl)
        try simp only [Act.put, List.setIfInBounds_toArray, List.set_cons_zero, List.set_cons_succ]
        refine wpAnyH_ready (rs := [27]) (by kernel_rfl) (by simp) ?_
        refine cons_at (i := 27) rfl (fun Kk hK => ?_) AllReadyH.nil
        go_simp
        clear a0 a1 a2 a3 a4 b0 b1 b2 b3 b4 u0 u1 u2 u3 u4 hHeld
        ((with_reducible refine Calls.mono (HFRA.out _ (by repeat (first | (with_reducible exact Hid.out (by assumption)) | (with_reducible refine HLD.out _ ?_) | (with_reducible refine HLA2.out _ _ ?_)))) ?_); rintro e wq ⟨hb, A, c, rfl, hf⟩; have HRSq := Lib.hid (HRS0.out _ _ _ _ hf); clear hf; have HKq := Lib.hid (HLX.out _ _ (by repeat (first | (with_reducible exact Hid.out (by assumption)) | (with_reducible refine HLD.out _ ?_) | (with_reducible refine HLA2.out _ _ ?_))) hb); obtain ⟨⟨a0, a1, a2, a3, a4⟩, ⟨b0, b1, b2, b3, b4⟩, ⟨u0, u1, u2, u3, u4⟩, za, zb, zu⟩ := HLF.out _ HKq.out; have HBq := Lib.hid hb; have hzq := hb.size; clear hb)
        first | refine hK.out _ _ ?_ (fun hHeld => ?_) | (dsimp only; refine hK.out _ _ ?_ (fun hHeld => ?_)) | (go_wp2_with fail; refine hK.out _ _ ?_ (fun hHeld => ?_))
        · try dsimp only
          exact ⟨a0, a1, a2, a3, a4, b0, b1, b2, b3, b4, u0, u1, u2, u3, u4⟩
        clear hK Kk
        try simp only [Act.put, List.setIfInBounds_toArray, List.set_cons_zero, List.set_cons_succ]
        refine wpAnyH_ready (rs := [29]) (by kernel_rfl) (by simp) ?_
        refine cons_at (i := 29) rfl (fun Kk hK => ?_) AllReadyH.nil
        go_simp
        clear a0 a1 a2 a3 a4 b0 b1 b2 b3 b4 u0 u1 u2 u3 u4 hHeld
        ((with_reducible refine Calls.mono (HFRB.out _ (by repeat (first | (with_reducible exact Hid.out (by assumption)) | (with_reducible refine HLD.out _ ?_) | (with_reducible refine HLA2.out _ _ ?_)))) ?_); rintro e wq ⟨hb, A, c, rfl, hf⟩; have HRSq := Lib.hid (HRS0.out _ _ _ _ hf); clear hf; have HKq := Lib.hid (HLX.out _ _ (by repeat (first | (with_reducible exact Hid.out (by assumption)) | (with_reducible refine HLD.out _ ?_) | (with_reducible refine HLA2.out _ _ ?_))) hb); obtain ⟨⟨a0, a1, a2, a3, a4⟩, ⟨b0, b1, b2, b3, b4⟩, ⟨u0, u1, u2, u3, u4⟩, za, zb, zu⟩ := HLF.out _ HKq.out; have HBq := Lib.hid hb; have hzq := hb.size; clear hb)
        first | refine hK.out _ _ ?_ (fun hHeld => ?_) | (dsimp only; refine hK.out _ _ ?_ (fun hHeld => ?_)) | (go_wp2_with fail; refine hK.out _ _ ?_ (fun hHeld => ?_))
        · try dsimp only
          exact ⟨a0, a1, a2, a3, a4, b0, b1, b2, b3, b4, u0, u1, u2, u3, u4⟩
        clear hK Kk
        try simp only [Act.put, List.setIfInBounds_toArray, List.set_cons_zero, List.set_cons_succ]
        refine wpAnyH_ready (rs := [30]) (by kernel_rfl) (by simp) ?_
        refine cons_at (i := 30) rfl (fun Kk hK => ?_) AllReadyH.nil
        go_simp
        clear a0 a1 a2 a3 a4 b0 b1 b2 b3 b4 u0 u1 u2 u3 u4 hHeld
        ((with_reducible refine Calls.mono (HSTX.out _ _ _ _ _ (by repeat (first | (with_reducible exact Hid.out (by assumption)) | (with_reducible refine HRSD.out _ _ _ ?_) | (with_reducible refine HRSA.out _ _ _ _ ?_) | (with_reducible refine HRSX.out _ _ _ _ ?_ (Hid.out (by assumption))))) (by repeat (first | (with_reducible exact Hid.out (by assumption)) | (with_reducible refine HRSD.out _ _ _ ?_) | (with_reducible refine HRSA.out _ _ _ _ ?_) | (with_reducible refine HRSX.out _ _ _ _ ?_ (Hid.out (by assumption)))))) ?_); rintro e wq ⟨rfl, hb⟩; have HKq := Lib.hid (HLX.out _ _ (by repeat (first | (with_reducible exact Hid.out (by assumption)) | (with_reducible refine HLD.out _ ?_) | (with_reducible refine HLA2.out _ _ ?_))) hb); obtain ⟨⟨a0, a1, a2, a3, a4⟩, ⟨b0, b1, b2, b3, b4⟩, ⟨u0, u1, u2, u3, u4⟩, za, zb, zu⟩ := HLF.out _ HKq.out; have HBq := Lib.hid hb; have hzq := hb.size; clear hb)
        first | refine hK.out _ _ ?_ (fun hHeld => ?_) | (dsimp only; refine hK.out _ _ ?_ (fun hHeld => ?_)) | (go_wp2_with fail; refine hK.out _ _ ?_ (fun hHeld => ?_))
        · try dsimp only
          exact ⟨a0, a1, a2, a3, a4, b0, b1, b2, b3, b4, u0, u1, u2, u3, u4⟩
        clear hK Kk
        try simp only [Act.put, List.setIfInBounds_toArray, List.set_cons_zero, List.set_cons_succ]
        refine take_at (i := 31) (v := ?_) rfl (by kernel_rfl) (by kernel_rfl) (by kernel_rfl) (fun _ _ _ h => h) (Or.inl ⟨by rfl, ?_⟩) (by assumption) ?_
        rotate_left
        · intro w hSw
          try dsimp only at hSw
          go_simp
          all_goals (with_reducible rfl)
        try simp only [Act.put, List.setIfInBounds_toArray, List.set_cons_zero, List.set_cons_succ]
        refine take_at (i := 32) (v := ?_) rfl (by kernel_rfl) (by kernel_rfl) (by kernel_rfl) (fun _ _ _ h => h) (Or.inl ⟨by rfl, ?_⟩) (by assumption) ?_
        rotate_left
        · intro w hSw
          try dsimp only at hSw
          go_simp
          all_goals (with_reducible rfl)
        try simp only [Act.put, List.setIfInBounds_toArray, List.set_cons_zero, List.set_cons_succ]
        refine take_at (i := 33) (v := ?_) rfl (by kernel_rfl) (by kernel_rfl) (by kernel_rfl) (fun _ _ _ h => h) (Or.inl ⟨by rfl, ?_⟩) (by assumption) ?_
        rotate_left
        · intro w hSw
          try dsimp only at hSw
          go_simp
          all_goals (with_reducible rfl)
        try simp only [Act.put, List.setIfInBounds_toArray, List.set_cons_zero, List.set_cons_succ]
        refine take_at (i := 34) (v := ?_) rfl (by kernel_rfl) (by kernel_rfl) (by kernel_rfl) (fun _ _ _ h => h) (Or.inl ⟨by rfl, ?_⟩) (by assumption) ?_
        rotate_left
        · intro w hSw
          try dsimp only at hSw
          go_simp
          all_goals (with_reducible rfl)
        try simp only [Act.put, List.setIfInBounds_toArray, List.set_cons_zero, List.set_cons_succ]
        refine wpAnyH_done (by kernel_rfl) ?_ _
        go_wp2_with fail
        go_ret
        exact ⟨rfl, HLB2.out _ (by repeat (first | (with_reducible exact Hid.out (by assumption)) | (with_reducible refine HLD.out _ ?_) | (with_reducible refine HLA2.out _ _ ?_)))⟩
      exact AllReadyH.nil
    · have hne := str_no' (fun h => hab (hinj h))
      generalize hka : (⟨a.key.toArray⟩ : ByteArray) = ka at *
      generalize hkb : (⟨b.key.toArray⟩ : ByteArray) = kb at *
      have HKAE := Lib.hid hka
      rw [decide_eq_false hab]
      clear hka hkb hab hinj
      dsimp only
      go_wp2_with fail
      go_region_held3 (fun w' => w'.cell? ⟨w.heap.size, 0, none⟩ = some (.int .u8 k1) ∧ w'.cell? ⟨w.heap.size, 1, none⟩ = some (.string n1) ∧ w'.cell? ⟨w.heap.size, 2, none⟩ = some (.bool g1) ∧ w'.cell? ⟨w.heap.size, 3, none⟩ = some (.slice dA d1.length dc) ∧ w'.cell? ⟨w.heap.size, 4, none⟩ = some (.slice kA s1.length kc) ∧ w'.cell? ⟨w.heap.size + 1, 0, none⟩ = some (.int .u8 k2) ∧ w'.cell? ⟨w.heap.size + 1, 1, none⟩ = some (.string n2) ∧ w'.cell? ⟨w.heap.size + 1, 2, none⟩ = some (.bool g2) ∧ w'.cell? ⟨w.heap.size + 1, 3, none⟩ = some (.slice dA' d2.length dc') ∧ w'.cell? ⟨w.heap.size + 1, 4, none⟩ = some (.slice kA' s2.length kc'))
        (first | exact ⟨a0, a1, a2, a3, a4, b0, b1, b2, b3, b4⟩ | go_keep)
        (first
          | (go_at_call 7; (with_reducible refine Calls.mono (HKYA.out _ (by repeat (first | (with_reducible exact Hid.out (by assumption)) | (with_reducible refine HKD.out _ ?_) | (with_reducible refine HKA.out _ _ ?_)))) ?_); rintro e wq ⟨rfl, hb⟩; have HKq := Lib.hid (HKX.out _ _ (by repeat (first | (with_reducible exact Hid.out (by assumption)) | (with_reducible refine HKD.out _ ?_) | (with_reducible refine HKA.out _ _ ?_))) hb); obtain ⟨⟨a0, a1, a2, a3, a4⟩, ⟨b0, b1, b2, b3, b4⟩, za, zb⟩ := HKF.out _ HKq.out; have HBq := Lib.hid hb; have hzq := hb.size; clear hb)
          | (go_at_call 7; (with_reducible refine Calls.mono (HKYB.out _ (by repeat (first | (with_reducible exact Hid.out (by assumption)) | (with_reducible refine HKD.out _ ?_) | (with_reducible refine HKA.out _ _ ?_)))) ?_); rintro e wq ⟨rfl, hb⟩; have HKq := Lib.hid (HKX.out _ _ (by repeat (first | (with_reducible exact Hid.out (by assumption)) | (with_reducible refine HKD.out _ ?_) | (with_reducible refine HKA.out _ _ ?_))) hb); obtain ⟨⟨a0, a1, a2, a3, a4⟩, ⟨b0, b1, b2, b3, b4⟩, za, zb⟩ := HKF.out _ HKq.out; have HBq := Lib.hid hb; have hzq := hb.size; clear hb)
          | fail)
      go_wp2_with fail
      refine (HKYA.out _ HKq.out).mono ?_
      rintro e w5 ⟨rfl, hb5⟩
      have HK5 := Lib.hid (HKX.out _ _ HKq.out hb5)
      clear hb5
      dsimp only
      go_wp2_with fail
      refine (HOF.out _ HK5.out).mono ?_
      rintro e w6 ⟨hb6, us, rfl, hu⟩
      obtain ⟨uA, uc, vA, vc, rfl, _, _⟩ := Tm.open hu.rd
      have HK6 := Lib.hid (HKX.out _ _ HK5.out hb6)
      have HU6 := Lib.hid (D.rdRow_mono (fun g _ => ⟨trivial, rfl⟩) _ _ hu.rd : D.rdRow w6 (fun _ => True) _ _)
      clear hb6 hu a0 a1 a2 a3 a4 b0 b1 b2 b3 b4
      obtain ⟨⟨a0, a1, a2, a3, a4⟩, ⟨b0, b1, b2, b3, b4⟩, za, zb⟩ := HKF.out _ HK6.out
      dsimp only
      go_wp2_with fail
      obtain ⟨L, hL⟩ : ∃ L : World → Prop, L = fun W => K W ∧ Blk W w6.heap.size #[.int .u8 k1, .string n1, .bool g1, .slice uA d1.length uc, .slice vA s1.length vc] 28 ∧ D.rdRow W (fun _ => True) (Tm.mk k1 n1 g1 d1 s1).enc [.int .u8 k1, .string n1, .bool g1, .slice uA d1.length uc, .slice vA s1.length vc] := ⟨_, rfl⟩
      obtain ⟨RC, hRC⟩ : ∃ RC : Option Addr → Nat → Option Addr → Nat → World → Prop, RC = fun xA xc yA yc W => D.rdRow W (fun _ => True) (Tm.mk k1 n1 g1 d1 s1).enc [.int .u8 k1, .string n1, .bool g1, .slice xA d1.length xc, .slice yA s1.length yc] := ⟨_, rfl⟩
      obtain ⟨RS, hRS⟩ : ∃ RS : Option Addr → Nat → World → Prop, RS = fun A c W => D.rd W (fun _ => True) (.strs 9 (tidy a.frees)) (.slice A (tidy a.frees).length c) := ⟨_, rfl⟩
      have HL6 : Hid (L (w6.alloc (.cells #[.int .u8 k1, .string n1, .bool g1, .slice uA d1.length uc, .slice vA s1.length vc] 28))) := Lib.hid (by subst hL; exact ⟨HKA.out _ _ HK6.out, Blk.new _ _ _, D.rdRow_ext HU6.out (ext_alloc (Below.refl _ _) _)⟩)
      have HLX : Hid (∀ W W', L W → Below W.heap.size W W' → L W') := Lib.hid (by subst hL; exact fun W W' h hb => ⟨HKX.out _ _ h.1 hb, h.2.1.ext hb, D.rdRow_ext h.2.2 hb⟩)
      have HLD : Hid (∀ W, L W → L W.drew) := Lib.hid fun W h => HLX.out _ _ h (Below.refl _ _).drew
      have HLA2 : Hid (∀ W o, L W → L (W.alloc o)) := Lib.hid fun W o h => HLX.out _ _ h (ext_alloc (Below.refl _ _) _)
      have HLB2 : Hid (∀ W, L W → Below w.heap.size w W) := Lib.hid (by subst hL; exact fun W h => HKB.out _ h.1)
      have HLF : Hid (∀ W, L W → (W.cell? ⟨w.heap.size, 0, none⟩ = some (.int .u8 k1) ∧ W.cell? ⟨w.heap.size, 1, none⟩ = some (.string n1) ∧ W.cell? ⟨w.heap.size, 2, none⟩ = some (.bool g1) ∧ W.cell? ⟨w.heap.size, 3, none⟩ = some (.slice dA d1.length dc) ∧ W.cell? ⟨w.heap.size, 4, none⟩ = some (.slice kA s1.length kc)) ∧ (W.cell? ⟨w.heap.size + 1, 0, none⟩ = some (.int .u8 k2) ∧ W.cell? ⟨w.heap.size + 1, 1, none⟩ = some (.string n2) ∧ W.cell? ⟨w.heap.size + 1, 2, none⟩ = some (.bool g2) ∧ W.cell? ⟨w.heap.size + 1, 3, none⟩ = some (.slice dA' d2.length dc') ∧ W.cell? ⟨w.heap.size + 1, 4, none⟩ = some (.slice kA' s2.length kc')) ∧ (W.cell? ⟨w6.heap.size, 0, none⟩ = some (.int .u8 k1) ∧ W.cell? ⟨w6.heap.size, 1, none⟩ = some (.string n1) ∧ W.cell? ⟨w6.heap.size, 2, none⟩ = some (.bool g1) ∧ W.cell? ⟨w6.heap.size, 3, none⟩ = some (.slice uA d1.length uc) ∧ W.cell? ⟨w6.heap.size, 4, none⟩ = some (.slice vA s1.length vc)) ∧ w.heap.size < W.heap.size ∧ w.heap.size + 1 < W.heap.size ∧ w6.heap.size < W.heap.size) := Lib.hid (by subst hL; exact fun W h => ⟨(HKF.out _ h.1).1, (HKF.out _ h.1).2.1, (Blk.c5 h.2.1).1, (HKF.out _ h.1).2.2.1, (HKF.out _ h.1).2.2.2, h.2.1.lt⟩)
      have HKYA2 : Hid (∀ W, L W → Calls Tryz.prog 7 #[.agg #[.int .u8 k1, .string n1, .bool g1, .slice dA d1.length dc, .slice kA s1.length kc]] W fun e w' => e = .returned (.string ka) ∧ Below W.heap.size W w') := Lib.hid (by subst hL; exact fun W h => HKYA.out _ h.1)
      have HSB : Hid (∀ W, L W → Calls Tryz.prog 6 #[.agg #[.int .u8 k1, .string n1, .bool g1, .slice uA d1.length uc, .slice vA s1.length vc], .agg #[.int .u8 k1, .string n1, .bool g1, .slice dA d1.length dc, .slice kA s1.length kc]] W (Tells W (.bool true))) := Lib.hid (by
        subst hL
        intro W h
        have := sameTerm_calls (.mk k1 n1 g1 d1 s1) a W (fun _ => True) (fun _ => True) _ _ h.2.2 (HRDA.out _ h.1).1
        rw [decide_eq_true HTa.out] at this
        exact this)
      have HCP : Hid (∀ W, L W → Calls Tryz.prog 9 #[.agg #[.int .u8 k1, .string n1, .bool g1, .slice dA d1.length dc, .slice kA s1.length kc]] W (CopyPost W (.mk k1 n1 g1 d1 s1))) := Lib.hid (by
        subst hL
        intro W h
        have := copyTerm_calls a W (fun _ => True) _ HFC.out (HRDA.out _ h.1).1
        rw [← HTa.out] at this
        exact this)
      have HRCX : Hid (∀ xA xc yA yc W W', RC xA xc yA yc W → Below W.heap.size W W' → RC xA xc yA yc W') := Lib.hid (by subst hRC; exact fun xA xc yA yc W W' h hb => D.rdRow_ext h hb)
      have HRCD : Hid (∀ xA xc yA yc W, RC xA xc yA yc W → RC xA xc yA yc W.drew) := Lib.hid fun xA xc yA yc W h => HRCX.out _ _ _ _ _ _ h (Below.refl _ _).drew
      have HRCA : Hid (∀ xA xc yA yc W o, RC xA xc yA yc W → RC xA xc yA yc (W.alloc o)) := Lib.hid fun xA xc yA yc W o h => HRCX.out _ _ _ _ _ _ h (ext_alloc (Below.refl _ _) _)
      have HRC0 : Hid (∀ xA xc yA yc W W0, MadeRow W (fun g => W0 ≤ g) (Tm.mk k1 n1 g1 d1 s1).enc [.int .u8 k1, .string n1, .bool g1, .slice xA d1.length xc, .slice yA s1.length yc] → RC xA xc yA yc W) := Lib.hid (by subst hRC; exact fun xA xc yA yc W W0 h => D.rdRow_mono (fun g _ => ⟨trivial, rfl⟩) _ _ h.rd)
      have HKYC : Hid (∀ W xA xc yA yc, L W → RC xA xc yA yc W → Calls Tryz.prog 7 #[.agg #[.int .u8 k1, .string n1, .bool g1, .slice xA d1.length xc, .slice yA s1.length yc]] W fun e w' => e = .returned (.string ka) ∧ Below W.heap.size W w') := Lib.hid (by
        subst hL hRC
        intro W xA xc yA yc h hr
        have := key_calls a B W (fun _ => True) [.int .u8 k1, .string n1, .bool g1, .slice xA d1.length xc, .slice yA s1.length yc] (by rw [← HTa.out]; exact hr) (HENV.out W h.1).1.env HWA.out HFC.out HKL.out
        rw [HKAE.out] at this
        exact this)
      obtain ⟨⟨a0, a1, a2, a3, a4⟩, ⟨b0, b1, b2, b3, b4⟩, ⟨u0, u1, u2, u3, u4⟩, za, zb, zu⟩ := HLF.out _ HL6.out
      clear hL hRC hRS HKq HK5 HK6 HU6 HK3
      have hkk : (ka.toList == ka.toList) = true := by simp
      refine wp_region_held_drew (S := (fun w' => w'.cell? ⟨w.heap.size, 0, none⟩ = some (.int .u8 k1) ∧ w'.cell? ⟨w.heap.size, 1, none⟩ = some (.string n1) ∧ w'.cell? ⟨w.heap.size, 2, none⟩ = some (.bool g1) ∧ w'.cell? ⟨w.heap.size, 3, none⟩ = some (.slice dA d1.length dc) ∧ w'.cell? ⟨w.heap.size, 4, none⟩ = some (.slice kA s1.length kc) ∧ w'.cell? ⟨w.heap.size + 1, 0, none⟩ = some (.int .u8 k2) ∧ w'.cell? ⟨w.heap.size + 1, 1, none⟩ = some (.string n2) ∧ w'.cell? ⟨w.heap.size + 1, 2, none⟩ = some (.bool g2) ∧ w'.cell? ⟨w.heap.size + 1, 3, none⟩ = some (.slice dA' d2.length dc') ∧ w'.cell? ⟨w.heap.size + 1, 4, none⟩ = some (.slice kA' s2.length kc') ∧ w'.cell? ⟨w6.heap.size, 0, none⟩ = some (.int .u8 k1) ∧ w'.cell? ⟨w6.heap.size, 1, none⟩ = some (.string n1) ∧ w'.cell? ⟨w6.heap.size, 2, none⟩ = some (.bool g1) ∧ w'.cell? ⟨w6.heap.size, 3, none⟩ = some (.slice uA d1.length uc) ∧ w'.cell? ⟨w6.heap.size, 4, none⟩ = some (.slice vA s1.length vc))) (by kernel_rfl) ?_ (fun hHeld => ?_)
      · first | exact ⟨a0, a1, a2, a3, a4, b0, b1, b2, b3, b4, u0, u1, u2, u3, u4⟩ | go_keep
      refine take_at (i := 0) (v := ?_) rfl (by kernel_rfl) (by kernel_rfl) (by kernel_rfl) (fun _ _ _ h => h) (Or.inl ⟨by rfl, ?_⟩) (by assumption) ?_
      rotate_left
      · intro w hSw
        try dsimp only at hSw
        go_simp
        all_goals (with_reducible rfl)
      try simp only [Act.put, List.setIfInBounds_toArray, List.set_cons_zero, List.set_cons_succ]
      refine take_at (i := 1) (v := ?_) rfl (by kernel_rfl) (by kernel_rfl) (by kernel_rfl) (fun _ _ _ h => h) (Or.inl ⟨by rfl, ?_⟩) (by assumption) ?_
      rotate_left
      · intro w hSw
        try dsimp only at hSw
        go_simp
        all_goals (with_reducible rfl)
      try simp only [Act.put, List.setIfInBounds_toArray, List.set_cons_zero, List.set_cons_succ]
      refine take_at (i := 2) (v := ?_) rfl (by kernel_rfl) (by kernel_rfl) (by kernel_rfl) (fun _ _ _ h => h) (Or.inl ⟨by rfl, ?_⟩) (by assumption) ?_
      rotate_left
      · intro w hSw
        try dsimp only at hSw
        go_simp
        all_goals (with_reducible rfl)
      try simp only [Act.put, List.setIfInBounds_toArray, List.set_cons_zero, List.set_cons_succ]
      refine take_at (i := 3) (v := ?_) rfl (by kernel_rfl) (by kernel_rfl) (by kernel_rfl) (fun _ _ _ h => h) (Or.inl ⟨by rfl, ?_⟩) (by assumption) ?_
      rotate_left
      · intro w hSw
        try dsimp only at hSw
        go_simp
        all_goals (with_reducible rfl)
      try simp only [Act.put, List.setIfInBounds_toArray, List.set_cons_zero, List.set_cons_succ]
      refine wpAnyH_ready (rs := [4]) (by kernel_rfl) (by simp) ?_
      refine cons_at (i := 4) rfl (fun Kk hK => ?_) AllReadyH.nil
      go_simp
      clear a0 a1 a2 a3 a4 b0 b1 b2 b3 b4 u0 u1 u2 u3 u4 hHeld
      ((with_reducible refine Calls.mono (HSB.out _ (by repeat (first | (with_reducible exact Hid.out (by assumption)) | (with_reducible refine HLD.out _ ?_) | (with_reducible refine HLA2.out _ _ ?_)))) ?_); rintro e wq ⟨rfl, hb⟩; have HKq := Lib.hid (HLX.out _ _ (by repeat (first | (with_reducible exact Hid.out (by assumption)) | (with_reducible refine HLD.out _ ?_) | (with_reducible refine HLA2.out _ _ ?_))) hb); obtain ⟨⟨a0, a1, a2, a3, a4⟩, ⟨b0, b1, b2, b3, b4⟩, ⟨u0, u1, u2, u3, u4⟩, za, zb, zu⟩ := HLF.out _ HKq.out; have HBq := Lib.hid hb; have hzq := hb.size; clear hb)
      first | refine hK.out _ _ ?_ (fun hHeld => ?_) | (dsimp only; refine hK.out _ _ ?_ (fun hHeld => ?_)) | (go_wp2_with fail; refine hK.out _ _ ?_ (fun hHeld => ?_))
      · try dsimp only
        exact ⟨a0, a1, a2, a3, a4, b0, b1, b2, b3, b4, u0, u1, u2, u3, u4⟩
      clear hK Kk
      try simp only [Act.put, List.setIfInBounds_toArray, List.set_cons_zero, List.set_cons_succ]
      refine take_at (i := 5) (v := ?_) rfl (by kernel_rfl) (by kernel_rfl) (by kernel_rfl) (fun _ _ _ h => h) (Or.inl ⟨by rfl, ?_⟩) (by assumption) ?_
      rotate_left
      · intro w hSw
        try dsimp only at hSw
        go_simp
        all_goals (with_reducible rfl)
      try simp only [Act.put, List.setIfInBounds_toArray, List.set_cons_zero, List.set_cons_succ]
      refine take_at (i := 6) (v := ?_) rfl (by kernel_rfl) (by kernel_rfl) (by kernel_rfl) (fun _ _ _ h => h) (Or.inl ⟨by rfl, ?_⟩) (by assumption) ?_
      rotate_left
      · intro w hSw
        try dsimp only at hSw
        go_simp
        all_goals (with_reducible rfl)
      try simp only [Act.put, List.setIfInBounds_toArray, List.set_cons_zero, List.set_cons_succ]
      refine take_at (i := 7) (v := ?_) rfl (by kernel_rfl) (by kernel_rfl) (by kernel_rfl) (fun _ _ _ h => h) (Or.inl ⟨by rfl, ?_⟩) (by assumption) ?_
      rotate_left
      · intro w hSw
        try dsimp only at hSw
        go_simp
        all_goals (with_reducible rfl)
      try simp only [Act.put, List.setIfInBounds_toArray, List.set_cons_zero, List.set_cons_succ]
      refine take_at (i := 9) (v := ?_) rfl (by kernel_rfl) (by kernel_rfl) (by kernel_rfl) (fun _ _ _ h => h) (Or.inl ⟨by rfl, ?_⟩) (by assumption) ?_
      rotate_left
      · intro w hSw
        try dsimp only at hSw
        go_simp
        all_goals (with_reducible rfl)
      try simp only [Act.put, List.setIfInBounds_toArray, List.set_cons_zero, List.set_cons_succ]
      refine wpAnyH_ready (rs := [8]) (by kernel_rfl) (by simp) ?_
      refine cons_at (i := 8) rfl (fun Kk hK => ?_) AllReadyH.nil
      go_simp
      clear a0 a1 a2 a3 a4 b0 b1 b2 b3 b4 u0 u1 u2 u3 u4 hHeld
      ((with_reducible refine Calls.mono (HKYA2.out _ (by repeat (first | (with_reducible exact Hid.out (by assumption)) | (with_reducible refine HLD.out _ ?_) | (with_reducible refine HLA2.out _ _ ?_)))) ?_); rintro e wq ⟨rfl, hb⟩; have HKq := Lib.hid (HLX.out _ _ (by repeat (first | (with_reducible exact Hid.out (by assumption)) | (with_reducible refine HLD.out _ ?_) | (with_reducible refine HLA2.out _ _ ?_))) hb); obtain ⟨⟨a0, a1, a2, a3, a4⟩, ⟨b0, b1, b2, b3, b4⟩, ⟨u0, u1, u2, u3, u4⟩, za, zb, zu⟩ := HLF.out _ HKq.out; have HBq := Lib.hid hb; have hzq := hb.size; clear hb)
      first | refine hK.out _ _ ?_ (fun hHeld => ?_) | (dsimp only; refine hK.out _ _ ?_ (fun hHeld => ?_)) | (go_wp2_with fail; refine hK.out _ _ ?_ (fun hHeld => ?_))
      · try dsimp only
        exact ⟨a0, a1, a2, a3, a4, b0, b1, b2, b3, b4, u0, u1, u2, u3, u4⟩
      clear hK Kk
      try simp only [Act.put, List.setIfInBounds_toArray, List.set_cons_zero, List.set_cons_succ]
      refine wpAnyH_ready (rs := [10]) (by kernel_rfl) (by simp) ?_
      refine cons_at (i := 10) rfl (fun Kk hK => ?_) AllReadyH.nil
      go_simp
      clear a0 a1 a2 a3 a4 b0 b1 b2 b3 b4 u0 u1 u2 u3 u4 hHeld
      ((with_reducible refine copy_call (HCP.out _ (by repeat (first | (with_reducible exact Hid.out (by assumption)) | (with_reducible refine HLD.out _ ?_) | (with_reducible refine HLA2.out _ _ ?_)))) ?_); intro wq xA xc yA yc hb hu; have HRCq := Lib.hid (HRC0.out _ _ _ _ _ _ hu); clear hu; have HKq := Lib.hid (HLX.out _ _ (by repeat (first | (with_reducible exact Hid.out (by assumption)) | (with_reducible refine HLD.out _ ?_) | (with_reducible refine HLA2.out _ _ ?_))) hb); obtain ⟨⟨a0, a1, a2, a3, a4⟩, ⟨b0, b1, b2, b3, b4⟩, ⟨u0, u1, u2, u3, u4⟩, za, zb, zu⟩ := HLF.out _ HKq.out; have HBq := Lib.hid hb; have hzq := hb.size; clear hb)
      first | refine hK.out _ _ ?_ (fun hHeld => ?_) | (dsimp only; refine hK.out _ _ ?_ (fun hHeld => ?_)) | (go_wp2_with fail; refine hK.out _ _ ?_ (fun hHeld => ?_))
      · try dsimp only
        exact ⟨a0, a1, a2, a3, a4, b0, b1, b2, b3, b4, u0, u1, u2, u3, u4⟩
      clear hK Kk
      try simp only [Act.put, List.setIfInBounds_toArray, List.set_cons_zero, List.set_cons_succ]
      refine wpAnyH_ready (rs := [11]) (by kernel_rfl) (by simp) ?_
      refine cons_at (i := 11) rfl (fun Kk hK => ?_) AllReadyH.nil
      go_simp
      clear a0 a1 a2 a3 a4 b0 b1 b2 b3 b4 u0 u1 u2 u3 u4 hHeld
      ((with_reducible refine Calls.mono (HKYC.out _ _ _ _ _ (by repeat (first | (with_reducible exact Hid.out (by assumption)) | (with_reducible refine HLD.out _ ?_) | (with_reducible refine HLA2.out _ _ ?_))) (by repeat (first | (with_reducible exact Hid.out (by assumption)) | (with_reducible refine HRCD.out _ _ _ _ _ ?_) | (with_reducible refine HRCA.out _ _ _ _ _ _ ?_) | (with_reducible refine HRCX.out _ _ _ _ _ _ ?_ (Hid.out (by assumption)))))) ?_); rintro e wq ⟨rfl, hb⟩; have HKq := Lib.hid (HLX.out _ _ (by repeat (first | (with_reducible exact Hid.out (by assumption)) | (with_reducible refine HLD.out _ ?_) | (with_reducible refine HLA2.out _ _ ?_))) hb); obtain ⟨⟨a0, a1, a2, a3, a4⟩, ⟨b0, b1, b2, b3, b4⟩, ⟨u0, u1, u2, u3, u4⟩, za, zb, zu⟩ := HLF.out _ HKq.out; have HBq := Lib.hid hb; have hzq := hb.size; clear hb)
      first | refine hK.out _ _ ?_ (fun hHeld => ?_) | (dsimp only; refine hK.out _ _ ?_ (fun hHeld => ?_)) | (go_wp2_with fail; refine hK.out _ _ ?_ (fun hHeld => ?_))
      · try dsimp only
        exact ⟨a0, a1, a2, a3, a4, b0, b1, b2, b3, b4, u0, u1, u2, u3, u4⟩
      clear hK Kk
      try simp only [Act.put, List.setIfInBounds_toArray, List.set_cons_zero, List.set_cons_succ]
      refine take_at (i := 12) (v := ?_) rfl (by kernel_rfl) (by kernel_rfl) (by kernel_rfl) (fun _ _ _ h => h) (Or.inl ⟨by rfl, ?_⟩) (by assumption) ?_
      rotate_left
      · intro w hSw
        try dsimp only at hSw
        go_simp
        all_goals (with_reducible rfl)
      try simp only [Act.put, List.setIfInBounds_toArray, List.set_cons_zero, List.set_cons_succ]
      refine take_at (i := 13) (v := ?_) rfl (by kernel_rfl) (by kernel_rfl) (by kernel_rfl) (fun _ _ _ h => h) (Or.inl ⟨by rfl, ?_⟩) (by assumption) ?_
      rotate_left
      · intro w hSw
        try dsimp only at hSw
        go_simp
        all_goals (with_reducible rfl)
      try simp only [Act.put, List.setIfInBounds_toArray, List.set_cons_zero, List.set_cons_succ]
      refine take_at (i := 14) (v := ?_) rfl (by kernel_rfl) (by kernel_rfl) (by kernel_rfl) (fun _ _ _ h => h) (Or.inl ⟨by rfl, ?_⟩) (by assumption) ?_
      rotate_left
      · intro w hSw
        try dsimp only at hSw
        go_simp
        all_goals (with_reducible rfl)
      try simp only [Act.put, List.setIfInBounds_toArray, List.set_cons_zero, List.set_cons_succ]
      refine take_at (i := 15) (v := ?_) rfl (by kernel_rfl) (by kernel_rfl) (by kernel_rfl) (fun _ _ _ h => h) (Or.inl ⟨by rfl, ?_⟩) (by assumption) ?_
      rotate_left
      · intro w hSw
        try dsimp only at hSw
        go_simp
        all_goals (with_reducible rfl)
      try simp only [Act.put, List.setIfInBounds_toArray, List.set_cons_zero, List.set_cons_succ]
      refine take_at (i := 16) (v := ?_) rfl (by kernel_rfl) (by kernel_rfl) (by kernel_rfl) (fun _ _ _ h => h) (Or.inl ⟨by rfl, ?_⟩) (by assumption) ?_
      rotate_left
      · intro w hSw
        try dsimp only at hSw
        go_simp
        all_goals (with_reducible rfl)
      try simp only [Act.put, List.setIfInBounds_toArray, List.set_cons_zero, List.set_cons_succ]
      refine take_at (i := 17) (v := ?_) rfl (by kernel_rfl) (by kernel_rfl) (by kernel_rfl) (fun _ _ _ h => h) (Or.inl ⟨by rfl, ?_⟩) (by assumption) ?_
      rotate_left
      · intro w hSw
        try dsimp only at hSw
        go_simp
        all_goals (with_reducible rfl)
      try simp only [Act.put, List.setIfInBounds_toArray, List.set_cons_zero, List.set_cons_succ]
      refine take_at (i := 18) (v := undef) rfl (by kernel_rfl) (by kernel_rfl) (by kernel_rfl) (fun _ _ _ h => h) (Or.inr ⟨by rfl, rfl⟩) (by assumption) ?_
      try simp only [Act.put, List.setIfInBounds_toArray, List.set_cons_zero, List.set_cons_succ]
      refine take_at (i := 19) (v := undef) rfl (by kernel_rfl) (by kernel_rfl) (by kernel_rfl) (fun _ _ _ h => h) (Or.inr ⟨by rfl, rfl⟩) (by assumption) ?_
      try simp only [Act.put, List.setIfInBounds_toArray, List.set_cons_zero, List.set_cons_succ]
      refine take_at (i := 20) (v := undef) rfl (by kernel_rfl) (by kernel_rfl) (by kernel_rfl) (fun _ _ _ h => h) (Or.inr ⟨by rfl, rfl⟩) (by assumption) ?_
      try simp only [Act.put, List.setIfInBounds_toArray, List.set_cons_zero, List.set_cons_succ]
      refine take_at (i := 21) (v := undef) rfl (by kernel_rfl) (by kernel_rfl) (by kernel_rfl) (fun _ _ _ h => h) (Or.inr ⟨by rfl, rfl⟩) (by assumption) ?_
      try simp only [Act.put, List.setIfInBounds_toArray, List.set_cons_zero, List.set_cons_succ]
      refine take_at (i := 22) (v := undef) rfl (by kernel_rfl) (by kernel_rfl) (by kernel_rfl) (fun _ _ _ h => h) (Or.inr ⟨by rfl, rfl⟩) (by assumption) ?_
      try simp only [Act.put, List.setIfInBounds_toArray, List.set_cons_zero, List.set_cons_succ]
      refine take_at (i := 23) (v := undef) rfl (by kernel_rfl) (by kernel_rfl) (by kernel_rfl) (fun _ _ _ h => h) (Or.inr ⟨by rfl, rfl⟩) (by assumption) ?_
      try simp only [Act.put, List.setIfInBounds_toArray, List.set_cons_zero, List.set_cons_succ]
      refine take_at (i := 24) (v := undef) rfl (by kernel_rfl) (by kernel_rfl) (by kernel_rfl) (fun _ _ _ h => h) (Or.inr ⟨by rfl, rfl⟩) (by assumption) ?_
      try simp only [Act.put, List.setIfInBounds_toArray, List.set_cons_zero, List.set_cons_succ]
      refine take_at (i := 25) (v := undef) rfl (by kernel_rfl) (by kernel_rfl) (by kernel_rfl) (fun _ _ _ h => h) (Or.inr ⟨by rfl, rfl⟩) (by assumption) ?_
      try simp only [Act.put, List.setIfInBounds_toArray, List.set_cons_zero, List.set_cons_succ]
      refine take_at (i := 26) (v := undef) rfl (by kernel_rfl) (by kernel_rfl) (by kernel_rfl) (fun _ _ _ h => h) (Or.inr ⟨by rfl, rfl⟩) (by assumption) ?_
      try simp only [Act.put, List.setIfInBounds_toArray, List.set_cons_zero, List.set_cons_succ]
      refine take_at (i := 27) (v := undef) rfl (by kernel_rfl) (by kernel_rfl) (by kernel_rfl) (fun _ _ _ h => h) (Or.inr ⟨by rfl, rfl⟩) (by assumption) ?_
      try simp only [Act.put, List.setIfInBounds_toArray, List.set_cons_zero, List.set_cons_succ]
      refine take_at (i := 28) (v := undef) rfl (by kernel_rfl) (by kernel_rfl) (by kernel_rfl) (fun _ _ _ h => h) (Or.inr ⟨by rfl, rfl⟩) (by assumption) ?_
      try simp only [Act.put, List.setIfInBounds_toArray, List.set_cons_zero, List.set_cons_succ]
      refine take_at (i := 29) (v := undef) rfl (by kernel_rfl) (by kernel_rfl) (by kernel_rfl) (fun _ _ _ h => h) (Or.inr ⟨by rfl, rfl⟩) (by assumption) ?_
      try simp only [Act.put, List.setIfInBounds_toArray, List.set_cons_zero, List.set_cons_succ]
      refine take_at (i := 30) (v := undef) rfl (by kernel_rfl) (by kernel_rfl) (by kernel_rfl) (fun _ _ _ h => h) (Or.inr ⟨by rfl, rfl⟩) (by assumption) ?_
      try simp only [Act.put, List.setIfInBounds_toArray, List.set_cons_zero, List.set_cons_succ]
      refine take_at (i := 31) (v := undef) rfl (by kernel_rfl) (by kernel_rfl) (by kernel_rfl) (fun _ _ _ h => h) (Or.inr ⟨by rfl, rfl⟩) (by assumption) ?_
      try simp only [Act.put, List.setIfInBounds_toArray, List.set_cons_zero, List.set_cons_succ]
      refine take_at (i := 32) (v := ?_) rfl (by kernel_rfl) (by kernel_rfl) (by kernel_rfl) (fun _ _ _ h => h) (Or.inl ⟨by rfl, ?_⟩) (by assumption) ?_
      rotate_left
      · intro w hSw
        try dsimp only at hSw
        go_simp
        all_goals (with_reducible rfl)
      try simp only [Act.put, List.setIfInBounds_toArray, List.set_cons_zero, List.set_cons_succ]
      refine take_at (i := 33) (v := ?_) rfl (by kernel_rfl) (by kernel_rfl) (by kernel_rfl) (fun _ _ _ h => h) (Or.inl ⟨by rfl, ?_⟩) (by assumption) ?_
      rotate_left
      · intro w hSw
        try dsimp only at hSw
        go_simp
        all_goals (with_reducible rfl)
      try simp only [Act.put, List.setIfInBounds_toArray, List.set_cons_zero, List.set_cons_succ]
      refine take_at (i := 34) (v := ?_) rfl (by kernel_rfl) (by kernel_rfl) (by kernel_rfl) (fun _ _ _ h => h) (Or.inl ⟨by rfl, ?_⟩) (by assumption) ?_
      rotate_left
      · intro w hSw
        try dsimp only at hSw
        go_simp
        all_goals (with_reducible rfl)
      try simp only [Act.put, List.setIfInBounds_toArray, List.set_cons_zero, List.set_cons_succ]
      refine wpAnyH_done (by kernel_rfl) ?_ _
      go_wp2_with fail
      go_ret
      exact ⟨rfl, HLB2.out _ (by repeat (first | (with_reducible exact Hid.out (by assumption)) | (with_reducible refine HLD.out _ ?_) | (with_reducible refine HLA2.out _ _ ?_)))⟩
end Wh
