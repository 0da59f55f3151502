import Derived.Test.YtlacfgnjljjdiaaDoorT4
set_option linter.unusedVariables false
set_option linter.unusedSimpArgs false
open Go Go.RowKit Go.Proofs
namespace Wh
set_option maxHeartbeats 4000000 in
set_option maxRecDepth 100000 in
theorem of_calls (n : Nat) (bn bl bt : Nat) (l : List ByteArray) (ts : List Tm) (hts : Tm.fitss ts) : ∀ (t : Tm) (w : World) (ok : Nat → Prop) (us : List Value) (bm : Nat) (made : Int), t.size ≤ n → t.fits → D.rdRow w ok t.enc us → (∀ g, ok g → g ≠ bm) →
    Blk w bm #[.int .i64 made, putFn bn bl bt] 109 → PutEnv w bm bn bl bt l ts → 0 ≤ made → made ≤ 20000 → Calls Tryd.prog 36 #[.pointer (some ⟨bm, 0, none⟩), .agg us.toArray] w (MakePost w bm made (putFn bn bl bt) (t.subst l ts)) := by
  induction n with
  | zero => intro t _ _ _ _ _ h; have := t.size_pos; omega
  | succ n ih =>
    rintro ⟨kind, name, neg, ds, ks⟩ w ok us bm made hn hf hr hok hm henv h0 h1
    cases hput : Tm.putOf l ts (.mk kind name neg ds ks) with
    | some x => exact of_some bn bl bt l ts hts kind name neg ds ks w ok us bm made x hput hf hr hok hm henv h0 h1
    | none =>
      have HRT := Lib.hid hr
      obtain ⟨dA, dc, kA, kc, rfl, hd, hk⟩ := Tm.open hr
      clear hr
      have HD := Lib.hid hd
      have HK := Lib.hid hk
      have HF := Lib.hid hf
      have HE := Lib.hid henv
      clear hd hk hf henv
      have HM := Lib.hid hm
      have HOK := Lib.hid hok
      have HTS := Lib.hid hts
      have hbm := hm.lt
      obtain ⟨m0, m1, mf0, mf1⟩ := Blk.c2 hm
      clear hm hok
      unfold putFn at m1
      have hbmA : bm < w.heap.size + 1 := by omega
      have hbmB : bm < w.heap.size + 1 + 1 := by omega
      have hs : (Tm.mk kind name neg ds ks).subst l ts = .mk kind name neg ds (Tm.substs l ts ks) := by simp [Tm.subst, hput]
      rw [hs]
      have HP := Lib.hid hput
      clear hput hs
      go_enter Tryd.func36, Tryd.ntmps36
      go_upto_region 1 with fail
      have hcall : ∀ W, w.grownBy W (some bm) → Blk W bm #[.int .i64 made, putFn bn bl bt] 109 → Calls Tryd.prog 54 #[.pointer (some ⟨bm, 0, none⟩), .agg #[.int .u8 kind, .string name, .bool neg, .slice dA ds.length dc, .slice kA ks.length kc], .pointer (some ⟨bn, 0, none⟩), .pointer (some ⟨bl, 0, none⟩), .pointer (some ⟨bt, 0, none⟩)] W (PutPost W bm made (putFn bn bl bt) none [.int .u8 kind, .string name, .bool neg, .slice dA ds.length dc, .slice kA ks.length kc]) := by
        intro W hg hb
        have := names1_calls (.mk kind name neg ds ks) W ok _ bm bn bl bt made (putFn bn bl bt) l ts (D.rdRow_grown (row := some bm) HRT.out hg (fun g hg' => by simpa using HOK.out g hg')) HTS.out hb h0 h1 (HE.out.keep hg)
        rwa [HP.out] at this
      have HC := Lib.hid hcall
      clear hcall
      go_cut [5, 6] (fun s5 s6 wx => ∃ (bx : Nat), s5 = .pointer (some ⟨bx, 0, none⟩) ∧ s6 = .bool false ∧ PutNo w wx bm made (putFn bn bl bt) [.int .u8 kind, .string name, .bool neg, .slice dA ds.length dc, .slice kA ks.length kc])
      case first =>
        go_region_law (refine step_call 54 rfl (by go_simp; rfl) ?_; refine put_none (HC.out _ (by repeat (first | (with_reducible refine grown_drew ?_) | (with_reducible refine grown_alloc ?_ _) | (with_reducible exact grown_refl _ _))) (by repeat (first | (with_reducible refine Blk.drew ?_) | (with_reducible refine Blk.alloc ?_ _) | (with_reducible exact HM.out)))) ?_; intro w2 hg2 hb2; have HB2 := Lib.hid hb2; have z2 := hg2.size; (first | (refine with_blk (t := 28) (g := w.heap.size + 1 + 1) (cs := #[.int .u8 0, .string ⟨#[]⟩, .bool false, .slice none 0 0, .slice none 0 0]) hg2 ?_ (by omega) ?_; (repeat (first | (with_reducible refine Blk.drew ?_) | ((with_reducible refine Blk.new' _ _ _ ?_); (focus (simp; done))) | (with_reducible refine Blk.alloc ?_ _))); intro hx2; obtain ⟨⟨q0, q1, q2, q3, q4⟩, r0, r1, r2, r3, r4⟩ := Blk.c5 hx2; have HX2 := Lib.hid hx2; clear hx2) | skip); have HD2 := Lib.hid (putNo_all (w := w) (us := [.int .u8 kind, .string name, .bool neg, .slice dA ds.length dc, .slice kA ks.length kc]) hbm (by repeat (first | (with_reducible refine grown_drew ?_) | (with_reducible refine grown_alloc ?_ _) | (with_reducible exact grown_refl _ _))) (by first | (simp; done) | (simp; omega)) (by repeat (first | (with_reducible refine Blk.drew ?_) | ((with_reducible refine Blk.new' _ _ _ ?_); (focus rfl)) | (with_reducible refine Blk.alloc ?_ _))) (by repeat (first | (with_reducible refine Blk.drew ?_) | ((with_reducible refine Blk.new' _ _ _ ?_); (focus (simp; done))) | (with_reducible refine Blk.alloc ?_ _))) hg2 hb2); have HGW := Lib.hid (grown_trans (a := w) (row := some bm) (by repeat (first | (with_reducible refine grown_drew ?_) | (with_reducible refine grown_alloc ?_ _) | (with_reducible exact grown_refl _ _))) hg2); clear hb2 hg2 HB2)
        all_goals
          go_wp2_with fail
          go_meet
        all_goals
          case rel =>
            first
            | (have _hx := HX2.out; exact ⟨w.heap.size + 1 + 1, rfl, rfl, HD2.out _ _ (by omega) (fun g _ hne => set5_keep hne) (set5_grown HGW.out (by omega) _ _ _ _ _)⟩)
            | exact ⟨w2.heap.size, rfl, rfl, HD2.out _ _ (by simp at z2; omega) (fun g hl _ => Below.heap_alloc _ _ _ hl) (grown_alloc HGW.out _)⟩
      case rest =>
        obtain ⟨bx, rfl, rfl, hno⟩ := hcut
        obtain ⟨hgx, hbx, hT, hZ⟩ := hno
        have HGX := Lib.hid hgx
        have HBX := Lib.hid hbx
        have HT0 := Lib.hid hT
        have HZ0 := Lib.hid hZ
        obtain ⟨m0, m1, mf0, mf1⟩ := Blk.c2 hbx
        obtain ⟨⟨k0, k1, k2, k3, k4⟩, f0, f1, f2, f3, f4⟩ := Blk.c5 hT
        have y0 := hT.lt
        have y1 := hZ.lt
        have y2 := hbx.lt
        have hne1 : bm ≠ w.heap.size := by omega
        have hne2 : w.heap.size ≠ bm := by omega
        clear hgx hbx hT hZ HM
        by_cases hmore : made < 20000
        · go_wp2_with (go_at_call 56; refine (more_ok bm 0 made _ h0 hmore (by go_simp) (by go_simp)).mono ?_; rintro e w1 ⟨rfl, rfl⟩)
          refine (alone_calls _ ok kind name neg ds _ _ (D.rd_grown (row := some bm) HD.out (grown_set HGX.out (.inl rfl) _) (fun g hg => by simpa using HOK.out g hg)) HF.out.1).mono ?_
          rintro e w1 ⟨A, c, rfl, hr, hbl⟩
          have hsz : (wc.setCell ⟨bm, 0, none⟩ (.int .i64 (made + 1))).heap.size = wc.heap.size := by simp [World.setCell]
          have HR := Lib.hid hr
          have HB := Lib.hid hbl
          have HT := Lib.hid ((HT0.out.other (p := ⟨bm, 0, none⟩) (by simpa using hne2) (.int .i64 (made + 1))).ext hbl)
          have HZ := Lib.hid ((HZ0.out.other (p := ⟨bm, 0, none⟩) (by show w.heap.size + 1 ≠ bm; omega) (.int .i64 (made + 1))).ext hbl)
          have HM1 := Lib.hid ((HBX.out.set 0 (.int .i64 (made + 1))).ext hbl)
          obtain ⟨⟨n0, n1, n2, n3, n4⟩, _⟩ := Blk.c5 HT.out
          have hg1 := Lib.hid (grown_below (grown_set HGX.out (.inl rfl) (.int .i64 (made + 1))) hbl (by rw [hsz]; exact HGX.out.size))
          have z0 := HT.out.lt
          have z1 := HZ.out.lt
          have z2 := HM1.out.lt
          clear hbl hr m0 m1 mf0 mf1 k0 k1 k2 k3 k4 f0 f1 f2 f3 f4
          have HSZ := Lib.hid hsz
          clear hsz
          go_wp2_with fail
          go_loopw [31] (fun i wr => ∃ k : Nat, k ≤ ks.length ∧ i = .int .i64 k ∧ MakeInv w wr bm made (putFn bn bl bt) kind name neg ds (.slice dA ds.length dc) (.slice kA ks.length kc) (.slice A ds.length c) (Tm.substs l ts ks) w.heap.size w1.heap.size k) (fun i _ => ks.length - (intOf i).toNat)
          case atStart => exact ⟨0, Nat.zero_le _, rfl, make_start rfl hmore hg1.out HM1.out HT.out HZ.out (Made.imp HR.out (fun g hg => by have := HSZ.out; omega))⟩
          case round =>
            obtain ⟨k, hkl, rfl, hinv⟩ := hrel
            by_cases hlt : k < ks.length
            · have b1 : (0 : Int) ≤ k := by omega
              have b2 : (k : Int) < ks.length := by omega
              obtain ⟨hg, hle, hbk, hN, hZ, hds, vk, xs, hB, hown, hcells⟩ := hinv
              obtain ⟨g, o, kd, nm, ng, xd, ls, dA2, dc2, lA2, lc2, rfl, hgok, hgl, hkk, hkid, e0, e1, e2, e3, e4⟩ := Tm.kid HK.out k hlt
              have HKK := Lib.hid hkk
              have HKID := Lib.hid hkid
              have hgg : some g ≠ some bm := by simpa using HOK.out g hgok
              rw [← World.cell?_of_block (hg.block g hgl hgg)] at e0 e1 e2 e3 e4
              obtain ⟨⟨t0, t1, t2, t3, t4⟩, nf⟩ := Blk.c5 hN
              obtain ⟨⟨p0, p1, p2, p3, p4⟩, q0, q1, q2, q3, q4⟩ := Blk.c5 hB
              have HGR := Lib.hid hg
              have HBK := Lib.hid hbk
              have HN := Lib.hid hN
              have HZ2 := Lib.hid hZ
              have HDS := Lib.hid hds
              have HBB := Lib.hid hB
              have HOWN := Lib.hid hown
              have HCELLS := Lib.hid hcells
              have y0 := hN.lt
              have y1 := hB.lt
              clear hkk hg hbk hN hZ hds hB hown hcells hkid nf n0 n1 n2 n3 n4
              have hkin : (Tm.mk kd nm ng xd ls).size ≤ n := by
                have e1 := Tm.sizes_take_succ ks k hlt
                have e2 := Tm.sizes_take_le ks (k + 1)
                rw [HKK.out] at e1
                simp only [Tm.size] at hn e1 ⊢
                omega
              have hkf : (Tm.mk kd nm ng xd ls).fits := by
                have := Tm.fitss_get ks HF.out.2.2 k hlt
                rwa [HKK.out] at this
              have HKF := Lib.hid hkf
              have hslt : k < (Tm.substs l ts ks).length := by simpa [Tm.substs_eq] using hlt
              have hsk : (Tm.substs l ts ks)[k] = (Tm.mk kd nm ng xd ls).subst l ts := by rw [← HKK.out]; exact Tm.subst_size_kid l ts ks k hlt
              have HSK := Lib.hid hsk
              clear hkf hsk
              generalize hsub : (Tm.mk kd nm ng xd ls).subst l ts = sub at HSK
              obtain ⟨kd2, nm2, ng2, xd2, ls2⟩ := sub
              have HSUB := Lib.hid hsub
              clear hsub
              have hb0 : 0 ≤ made + 1 + (Tm.sizes ((Tm.substs l ts ks).take k) : Int) := by omega
              have y2 := HBK.out.lt
              have hk6 : k < 1000000 := by have := HF.out.2.1; omega
              have hih : ∀ W, w.grownBy W (some bm) → Blk W bm #[.int .i64 (made + 1 + Tm.sizes ((Tm.substs l ts ks).take k)), putFn bn bl bt] 109 → Calls Tryd.prog 36 #[.pointer (some ⟨bm, 0, none⟩), .agg #[.int .u8 kd, .string nm, .bool ng, .slice dA2 xd.length dc2, .slice lA2 ls.length lc2]] W (MakePost W bm (made + 1 + Tm.sizes ((Tm.substs l ts ks).take k)) (putFn bn bl bt) (.mk kd2 nm2 ng2 xd2 ls2)) := by
                intro W hg hb
                have := ih (.mk kd nm ng xd ls) W ok _ bm (made + 1 + Tm.sizes ((Tm.substs l ts ks).take k)) hkin HKF.out (D.rdRow_grown (row := some bm) HKID.out hg (fun g hg' => by simpa using HOK.out g hg')) HOK.out hb (HE.out.keep hg) hb0 hle
                rwa [HSUB.out] at this
              have HIH := Lib.hid hih
              clear hih
              go_wp2_with fail
              go_region_law (first
                | (refine step_append rfl _ _ rfl Tryd.underlying26 infoTerm rfl (by decide) (by decide) _ vk k xs rfl (World.ownsRow.kept HOWN.out (grown_alloc (grown_trans (grown_drew (grown_alloc (grown_refl _ _) _)) hg2) _) (own_ne HOWN.out (by omega))) _ _ rfl (Blk.new _ _ _) rfl (by simp [Value.oneCell']) hk6 (by have := hg2.size; simp at this ⊢; omega) ?_; intro A3 c3 w3 ho3 hg3 hat3; have HAT := Lib.hid hat3; clear hat3; obtain ⟨⟨s0, s1, s2, s3, s4⟩, r0, r1, r2, r3, r4⟩ := Blk.c5 (((((HBB.out.alloc _).drew).grown hg2 (by simp; omega)).alloc _).grown hg3 (own_ne' HOWN.out (by omega))); have HO3 := Lib.hid ho3; have HG3 := Lib.hid hg3; clear ho3 hg3)
                | (refine step_call 36 rfl (by go_simp; rfl) ?_; refine make_call (HIH.out _ (grown_drew (grown_alloc HGR.out _)) ((HBK.out.alloc _).drew)) ?_ ?_; (intro w2 hlt2 hg2; exact ⟨rfl, make_panic hslt HSK.out hlt2 (grown_by (grown_drew (grown_alloc HGR.out _)) hg2 (fun k hk => .inl hk.symm))⟩); intro w2 dA3 dc3 lA3 lc3 hfit hg2 hb2 hr2; have HB2 := Lib.hid hb2; have HR2 := Lib.hid hr2; clear hb2 hr2; have y5 := (((HBB.out.alloc (.cells #[.int .u8 kd, .string nm, .bool ng, .slice dA2 xd.length dc2, .slice lA2 ls.length lc2] 28)).drew).grown hg2 (by simp; omega)).lt; obtain ⟨⟨x0, x1, x2, x3, x4⟩, _⟩ := Blk.c5 (((HBB.out.alloc _).drew).grown hg2 (by simp; omega))))
              all_goals
                go_wp2_with fail
                go_roundw
                case rel => exact ⟨k + 1, by omega, by go_num, make_step hslt HSK.out hbm rfl z1 y1 HGR.out HN.out HZ2.out HDS.out HBB.out HOWN.out HCELLS.out hfit hg2 HB2.out HR2.out rfl HG3.out HO3.out HAT.out⟩
                case measure => simp [intOf]; omega
            · have hkl2 : k = ks.length := by omega
              subst hkl2
              have hlen : (Tm.substs l ts ks).length = ks.length := by simp [Tm.substs_eq]
              rw [← hlen] at hinv
              obtain ⟨vk, hB, hZ, ⟨A2, c2, rfl⟩, hpost⟩ := make_done hbm rfl z1 hinv
              rw [hlen] at hB hpost
              obtain ⟨⟨p0, p1, p2, p3, p4⟩, _⟩ := Blk.c5 hB
              obtain ⟨⟨q0, q1, q2, q3, q4⟩, r0, r1, r2, r3, r4⟩ := Blk.c5 hZ
              have HP := Lib.hid hpost
              have hlast := Lib.hid (set5_blk (a := .int .u8 kind) (b := .string name) (c := .bool neg) (d := .slice A ds.length c) (e := .slice A2 ks.length c2) hZ)
              have y1 := hB.lt
              have y2 := hZ.lt
              clear hinv hB hZ hpost n0 n1 n2 n3 n4 hlen
              go_wp2_with fail
              have hl := Blk.c5 hlast.out
              unfold set5 at hl
              obtain ⟨⟨l0, l1, l2, l3, l4⟩, _⟩ := hl
              exact bodyPost_ret (by simp [results, Tryd.results36, go_sem, l0, l1, l2, l3, l4]) rfl HP.out
        · have hm20 : made = 20000 := by omega
          go_wp2_with (go_at_call 56; refine (more_bad bm 0 made _ hm20 (by go_simp) (by go_simp)).mono ?_; rintro e w1 ⟨rfl, rfl⟩)
          refine ⟨rfl, ?_, .inr ⟨?_, rfl⟩⟩
          · exact grown_set HGX.out (.inl rfl) _
          · have := (Tm.mk kind name neg ds (Tm.substs l ts ks)).size_pos
            omega
end Wh
