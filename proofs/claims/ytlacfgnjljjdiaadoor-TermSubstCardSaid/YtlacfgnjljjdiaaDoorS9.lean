import Derived.Test.YtlacfgnjljjdiaaDoorS8
set_option linter.unusedVariables false
set_option linter.unusedSimpArgs false
open Go Go.RowKit Go.Proofs
namespace Wh
/-! ### the law's plain -/
def PlainAt (t : Tm) : Prop := ∀ (w : World) (us : List Value), D.rdRow w (fun _ => True) t.enc us → Calls Tryd.prog 15 #[.agg us.toArray] w (Tells w (.bool t.plainB))
theorem plainBs_get : ∀ (l : List Tm), (∀ j (h : j < l.length), l[j].plainB = true) → Tm.plainBs l = true
  | [], _ => rfl
  | t :: ts, h => by
    have h0 : t.plainB = true := h 0 (by simp)
    rw [Tm.plainBs, h0, plainBs_get ts (fun j hj => h (j + 1) (by simpa using hj))]
    rfl
theorem plainBs_no : ∀ (l : List Tm) (j : Nat) (h : j < l.length), l[j].plainB = false → Tm.plainBs l = false
  | t :: ts, 0, _, h => by
    rw [List.getElem_cons_zero] at h
    rw [Tm.plainBs, h]
    rfl
  | t :: ts, j + 1, hj, h => by
    rw [Tm.plainBs, plainBs_no ts j (by simpa using hj) (by simpa using h)]
    simp
set_option maxHeartbeats 2000000 in
set_option maxRecDepth 100000 in
theorem plain_step (kind : Int) (name : ByteArray) (neg : Bool) (ds : List Int) (ks : List Tm) (ih : ∀ t ∈ ks, PlainAt t) : PlainAt (.mk kind name neg ds ks) := by
  intro w us hr
  have hr1 := D.rdRow_ext hr (ext_alloc (Below.refl w.heap.size w) (.cells us.toArray 28))
  have hb1 := Blk.new w us.toArray 28
  obtain ⟨dA, dc, kA, kc, rfl, hd0, hk0⟩ := Tm.open hr
  have HI := Lib.hid ih
  have HB1 := Lib.hid hb1
  have HK := Lib.hid (D.rd_ext hk0 (ext_alloc (Below.refl w.heap.size w) (.cells #[.int .u8 kind, .string name, .bool neg, .slice dA ds.length dc, .slice kA ks.length kc] 28)))
  obtain ⟨⟨a0, a1, a2, a3, a4⟩, y0, y1, y2, y3, y4⟩ := Blk.c5 hb1
  have hlt := hb1.lt
  clear ih hr hr1 hb1 hd0 hk0
  obtain ⟨r, hrr⟩ : ∃ r, r = (Tm.mk kind name neg ds ks).plainB := ⟨_, rfl⟩
  rw [← hrr]
  have HRR := Lib.hid hrr
  clear hrr
  go_enter Tryd.func15, Tryd.ntmps15
  go_upto_region 1 with fail
  go_cut [24] (fun s24 wx => ∃ bv : Bool, s24 = .bool bv ∧ wx = (w.alloc (.cells #[.int .u8 kind, .string name, .bool neg, .slice dA ds.length dc, .slice kA ks.length kc] 28)) ∧ Hid (r = (!bv && Tm.plainBs ks)))
  case first =>
    by_cases h1 : kind = 1
    · have e1 : (kind == 1) = true := by simp [h1]
      have H1 := Lib.hid h1
      clear h1
      by_cases h2 : ks.length = 0
      · have e2 : ((ks.length : Int) != 0) = false := by simp; exact List.length_eq_zero_iff.1 h2
        by_cases h3 : ds.length = 0
        · have e3 : ((ds.length : Int) != 0) = false := by simp; exact List.length_eq_zero_iff.1 h3
          have H := Lib.hid (show r = (!neg && Tm.plainBs ks) by rw [HRR.out, Tm.plainB]; simp [H1.out, List.length_eq_zero_iff.1 h2, List.length_eq_zero_iff.1 h3])
          clear h2 h3
          go_wp2_with fail
          go_meet
          case rel => exact ⟨neg, rfl, rfl, H⟩
        · have e3 : ((ds.length : Int) != 0) = true := by simp; exact fun h => h3 (by rw [h]; rfl)
          have H := Lib.hid (show r = (!true && Tm.plainBs ks) by rw [HRR.out, Tm.plainB]; simp [H1.out]; intro _ h; exact absurd (by rw [h]; rfl) h3)
          clear h2 h3
          go_wp2_with fail
          go_meet
          case rel => exact ⟨true, rfl, rfl, H⟩
      · have e2 : ((ks.length : Int) != 0) = true := by simp; exact fun h => h2 (by rw [h]; rfl)
        have H := Lib.hid (show r = (!true && Tm.plainBs ks) by rw [HRR.out, Tm.plainB]; simp [H1.out]; intro h; exact absurd (by rw [h]; rfl) h2)
        clear h2
        go_wp2_with fail
        go_meet
        case rel => exact ⟨true, rfl, rfl, H⟩
    · have e1 : (kind == 1) = false := beq_eq_false_iff_ne.2 h1
      have H := Lib.hid (show r = (!false && Tm.plainBs ks) by rw [HRR.out, Tm.plainB]; simp [h1])
      clear h1
      go_wp2_with fail
      go_meet
      case rel => exact ⟨false, rfl, rfl, H⟩
  case rest =>
    obtain ⟨bv, rfl, rfl, HR⟩ := hcut
    cases bv with
    | true =>
      have HI2 := Lib.hid (show false = r by rw [HR.out]; rfl)
      go_wp2_with fail
      go_ret
      exact ⟨ret_bool HI2.out, ext_alloc (Below.refl _ _) _⟩
    | false =>
      have HR2 := Lib.hid (show r = Tm.plainBs ks by rw [HR.out]; rfl)
      clear HR HRR
      have hkl : ks.length ≤ 9223372036854775807 := (rd_terms_A HK.out).elim (fun _ h => h.elim (fun _ h => h.2))
      go_wp2_with fail
      go_loopw [3] (fun i wr => ∃ k : Nat, k ≤ ks.length ∧ i = .int .i64 k ∧ Hid (Below (w.alloc (.cells #[.int .u8 kind, .string name, .bool neg, .slice dA ds.length dc, .slice kA ks.length kc] 28)).heap.size (w.alloc (.cells #[.int .u8 kind, .string name, .bool neg, .slice dA ds.length dc, .slice kA ks.length kc] 28)) wr) ∧ Hid (∀ j (hj : j < ks.length), j < k → ks[j].plainB = true)) (fun i _ => ks.length - (RowKit.intOf i).toNat)
      case atStart => exact ⟨0, Nat.zero_le _, rfl, Lib.hid (Below.refl _ _), Lib.hid (fun j hj h => absurd h (by omega))⟩
      case round =>
        obtain ⟨k, hk, rfl, HBW, HP⟩ := hrel
        rename World => wl
        clear a0 a1 a2 a3 a4 y0 y1 y2 y3 y4 hlt
        have HX := Lib.hid (HB1.out.ext HBW.out)
        obtain ⟨⟨a0, a1, a2, a3, a4⟩, y0, y1, y2, y3, y4⟩ := Blk.c5 HX.out
        have hlt := HX.out.lt
        have HLOW := Lib.hid (show Below w.heap.size w wl from Below.trans (ext_alloc (Below.refl _ _) _) (HBW.out.mono (by simp)))
        by_cases hlk : k < ks.length
        · have b1 : (0 : Int) ≤ k := by omega
          have b2 : (k : Int) < ks.length := by omega
          obtain ⟨g, o, kd, nm, ng, xd, ls, dA', dc', lA', lc', rfl, _, hg, hkk, hr, c0, c1, c2, c3, c4⟩ := Tm.kid (D.rd_ext HK.out HBW.out) k hlk
          have hcall := HI.out (ks[k]) (List.getElem_mem hlk) wl _ (by rw [hkk]; exact D.rdRow_imp hr (fun _ _ => trivial))
          have HC := Lib.hid hcall
          clear hcall hkk hr
          cases hpl : ks[k].plainB with
          | true =>
            rw [hpl] at HC
            have HP2 := Lib.hid (show ∀ j (hj : j < ks.length), j < k + 1 → ks[j].plainB = true from fun j hj h => by
              by_cases hjk : j = k
              · subst hjk
                exact hpl
              · exact HP.out j hj (by omega))
            clear hpl
            go_wp2_with fail
            refine HC.out.mono ?_
            rintro e w2 ⟨rfl, hb2⟩
            have HB2 := Lib.hid (HBW.out.trans (hb2.mono HBW.out.size))
            clear hb2
            dsimp only
            go_wp2_with fail
            go_roundw
            case rel => exact ⟨k + 1, by omega, by go_num, HB2, HP2⟩
            case measure => simp [RowKit.intOf]; omega
          | false =>
            rw [hpl] at HC
            have HNO := Lib.hid (show false = r by rw [HR2.out, plainBs_no ks k hlk hpl])
            clear hpl
            go_wp2_with fail
            refine HC.out.mono ?_
            rintro e w2 ⟨rfl, hb2⟩
            have HB2 := Lib.hid (HLOW.out.trans (hb2.mono HLOW.out.size))
            clear hb2
            dsimp only
            go_wp2_with fail
            go_ret
            exact ⟨ret_bool HNO.out, HB2.out⟩
        · have HYES := Lib.hid (show true = r by rw [HR2.out, plainBs_get ks (fun j hj => HP.out j hj (by omega))])
          have b2 : ¬ (k : Int) < ks.length := by omega
          go_wp2_with fail
          go_ret
          exact ⟨ret_bool HYES.out, HLOW.out⟩
mutual
theorem plain_calls : ∀ t : Tm, PlainAt t
  | .mk k n g ds ks => plain_step k n g ds ks (plain_all ks)
theorem plain_all : ∀ l : List Tm, ∀ t ∈ l, PlainAt t
  | [], t, h => by cases h
  | x :: l, t, h => by
    rcases List.mem_cons.1 h with hx | h
    · exact hx ▸ plain_calls x
    · exact plain_all l t h
end
end Wh
