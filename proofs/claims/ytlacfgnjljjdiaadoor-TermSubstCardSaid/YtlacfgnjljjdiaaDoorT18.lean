import Derived.Test.YtlacfgnjljjdiaaDoorT17
import Derived.Deep.DeepCutAuto
set_option linter.unusedVariables false
set_option linter.unusedSimpArgs false
open Go Go.RowKit Go.Proofs
namespace Wh
mutual
/-- Its numbers are of their kinds. -/
def Tm.wf : Tm → Prop
  | .mk k n g ds ks => 0 ≤ k ∧ k ≤ 255 ∧ (∀ d ∈ ds, 0 ≤ d ∧ d ≤ 4294967295) ∧ Tm.wfs ks
def Tm.wfs : List Tm → Prop
  | [] => True
  | t :: ts => t.wf ∧ Tm.wfs ts
end
theorem Tm.wfs_get : ∀ (l : List Tm), Tm.wfs l → ∀ i (h : i < l.length), (l[i]).wf
  | [], _, i, h => absurd h (by simp)
  | t :: ts, hf, 0, _ => hf.1
  | t :: ts, hf, i + 1, h => Tm.wfs_get ts hf.2 i (by simpa using h)
theorem Tm.keys_append : ∀ l m : List Tm, Tm.keys (l ++ m) = Tm.keys l ++ Tm.keys m
  | [], m => by simp [Tm.keys]
  | t :: ts, m => by simp [Tm.keys, Tm.keys_append ts m]
theorem Tm.keys_take_succ (l : List Tm) (k : Nat) (h : k < l.length) : Tm.keys (l.take (k + 1)) = Tm.keys (l.take k) ++ (l[k]).key := by
  rw [List.take_succ_eq_append_getElem h, Tm.keys_append]
  simp [Tm.keys]
theorem digKey_succ (ds : List Int) (k : Nat) (h : k < ds.length) : digKey (ds.take (k + 1)) = digKey (ds.take k) ++ (Lib.decDigits ds[k].toNat ++ [46]) := by
  unfold digKey
  rw [List.take_succ_eq_append_getElem h, List.map_append, List.flatten_append]
  simp
theorem digKey_le (ds : List Int) (k : Nat) : (digKey (ds.take k)).length ≤ (digKey ds).length := by
  have : digKey ds = digKey (ds.take k) ++ digKey (ds.drop k) := by
    unfold digKey
    rw [← List.flatten_append, ← List.map_append, List.take_append_drop]
  rw [this]
  simp
theorem keys_le (ks : List Tm) (k : Nat) : (Tm.keys (ks.take k)).length ≤ (Tm.keys ks).length := by
  have : Tm.keys ks = Tm.keys (ks.take k) ++ Tm.keys (ks.drop k) := by rw [← Tm.keys_append, List.take_append_drop]
  rw [this]
  simp
def KeyAt (t : Tm) : Prop := ∀ (B : Nat) (w : World) (ok : Nat → Prop) (us : List Value) (base b : Nat) (l : List UInt8), D.rdRow w ok t.enc us → (∀ g, ok g → g < base ∧ g ≠ b) → IsWr w base b l → Env B w → B ≤ base → base ≤ b → base ≤ w.heap.size → t.wf → t.fits → l.length + t.key.length ≤ 140737488355328 →
  Calls Tryd.prog 24 #[.pointer (some ⟨b, 0, none⟩), .agg us.toArray] w fun e w' => e = .returned (.tuple #[]) ∧ IsWr w' base b (l ++ t.key) ∧ Wrote w w' base b ∧ Env B w'
set_option maxHeartbeats 8000000 in
set_option maxRecDepth 100000 in
theorem wterm_step (kind : Int) (name : ByteArray) (neg : Bool) (ds : List Int) (ks : List Tm) (ih : ∀ t ∈ ks, KeyAt t) : KeyAt (.mk kind name neg ds ks) := by
  intro B w ok us base b l hr hok hwr henv hB hbb hbw hwf hfit hlen
  obtain ⟨dA, dc, kA, kc, rfl, hd, hk⟩ := Tm.open hr
  have hb : b < w.heap.size := by
    rcases hwr with ⟨_, v, h, _⟩ | ⟨_, v, h, _⟩
    · exact h.lt
    · exact h.lt
  obtain ⟨kn, rfl⟩ : ∃ kn : Nat, kind = (kn : Int) := ⟨kind.toNat, by have := hwf.1; omega⟩
  have hk0 : kn ≤ 255 := by have := hwf.2.1; omega
  have hst : WSt B w (w.alloc (.cells #[.int .u8 kn, .string name, .bool neg, .slice dA ds.length dc, .slice kA ks.length kc] 28)) base b w.heap.size #[.int .u8 kn, .string name, .bool neg, .slice dA ds.length dc, .slice kA ks.length kc] l :=
    ⟨hwr.ext (ext_alloc (Below.refl _ _) _), (Wrote.refl _ _ _).alloc _, Blk.new _ _ _, henv.below (((Below.refl _ _).alloc (Nat.le_refl _) _).mono henv.1)⟩
  have HST := Lib.hid hst
  have HD := Lib.hid hd
  have HK := Lib.hid hk
  have HWF := Lib.hid hwf
  have HFIT := Lib.hid hfit
  have hkl := hfit.2.1
  have HLEN := Lib.hid hlen
  have HI := Lib.hid ih
  have HOK := Lib.hid hok
  have hns : name.size ≤ 9223372036854775807 := by
    simp [Tm.key] at hlen
    omega
  have hl1 : l.length + (flat [⟨(Lib.decDigits kn).toArray⟩, ⟨#[32]⟩, ⟨(Lib.decDigits name.size).toArray⟩, ⟨#[58]⟩, name, ⟨#[32]⟩]).length ≤ 140737488355328 := by
    simp [Tm.key, flat] at hlen ⊢
    omega
  have HL1 := Lib.hid hl1
  have HNS := Lib.hid hns
  clear hr hd hk hwr henv hwf hfit hlen ih hok hst hl1 hns
  have wk : IntKind.i64.wrap (kn : Int) = (kn : Int) := wrap_id _ (by omega) (by omega)
  go_enter Tryd.func24, Tryd.ntmps24
  go_upto_region 1 with fail
  go_cut [] (fun wx => WSt B w wx base b w.heap.size #[.int .u8 kn, .string name, .bool neg, .slice dA ds.length dc, .slice kA ks.length kc] (l ++ flat [⟨(Lib.decDigits kn).toArray⟩, ⟨#[32]⟩, ⟨(Lib.decDigits name.size).toArray⟩, ⟨#[58]⟩, name, ⟨#[32]⟩]))
  case first =>
    go_region_law (first | (refine step_callq 43 rfl rfl (by go_simp; rfl) ?_; refine Calls.mono (itoaS (B := B) (w := w) (base := base) (b := b) (N := w.heap.size) (cs := #[.int .u8 kn, .string name, .bool neg, .slice dA ds.length dc, .slice kA ks.length kc]) (l := l) kn (by repeat (first | (with_reducible exact HST.out) | (with_reducible refine WSt.drew ?_) | (with_reducible refine WSt.alloc ?_ _))) (by omega)) ?_; rintro e wq ⟨rfl, hst2, hz⟩; obtain ⟨⟨p0, p1, p2, p3, p4⟩, _⟩ := Blk.c5 hst2.box; have hz2 := hst2.box.lt; have HST := Lib.hid hst2; clear hst2) | (refine step_callq 43 rfl rfl (by go_simp; rfl) ?_; refine Calls.mono (itoaS (B := B) (w := w) (base := base) (b := b) (N := w.heap.size) (cs := #[.int .u8 kn, .string name, .bool neg, .slice dA ds.length dc, .slice kA ks.length kc]) (l := l) name.size (by repeat (first | (with_reducible exact HST.out) | (with_reducible refine WSt.drew ?_) | (with_reducible refine WSt.alloc ?_ _))) HNS.out) ?_; rintro e wq ⟨rfl, hst2, hz⟩; obtain ⟨⟨p0, p1, p2, p3, p4⟩, _⟩ := Blk.c5 hst2.box; have hz2 := hst2.box.lt; have HST := Lib.hid hst2; clear hst2) | (refine step_callq 42 rfl rfl (by go_simp; rfl) ?_; refine Calls.mono (putS (B := B) (w := w) (base := base) (b := b) (N := w.heap.size) (cs := #[.int .u8 kn, .string name, .bool neg, .slice dA ds.length dc, .slice kA ks.length kc]) (l := l) [⟨(Lib.decDigits kn).toArray⟩, ⟨#[32]⟩, ⟨(Lib.decDigits name.size).toArray⟩, ⟨#[58]⟩, name, ⟨#[32]⟩] (by repeat (first | (with_reducible exact HST.out) | (with_reducible refine WSt.drew ?_) | (with_reducible refine WSt.alloc ?_ _))) (Blk.new _ _ _) (by have := HST.out.kept.size; omega) (by simp) HL1.out (by have := HST.out.kept.size; simp; omega) hB hbb (by omega)) ?_; rintro e wq ⟨rfl, hst2, hz⟩; have HST := Lib.hid hst2; clear hst2))
    all_goals
      go_wp2_with fail
      go_meet
    all_goals
      case rel => exact HST.out
  case rest =>
    have HS1 := Lib.hid hcut
    have hs1 := hcut.kept.size
    have hbx1 := hcut.box.lt
    obtain ⟨⟨x0, x1, x2, x3, x4⟩, y0, y1, y2, y3, y4⟩ := Blk.c5 hcut.box
    clear hcut
    generalize hL1 : l ++ flat [⟨(Lib.decDigits kn).toArray⟩, ⟨#[32]⟩, ⟨(Lib.decDigits name.size).toArray⟩, ⟨#[58]⟩, name, ⟨#[32]⟩] = L1 at HS1
    have hlen1 : L1.length + (if neg then 1 else 0) ≤ 140737488355328 := by
      rw [← hL1]
      have := HLEN.out
      simp [Tm.key, flat] at this ⊢
      split <;> simp_all <;> omega
    go_upto_if 23 with fail
    go_cut [] (fun wx => WSt B w wx base b w.heap.size #[.int .u8 kn, .string name, .bool neg, .slice dA ds.length dc, .slice kA ks.length kc] (L1 ++ (if neg then [45] else [])))
    case first =>
      cases neg
      · go_wp2_with fail
        go_meet
        case rel => simpa using HS1.out
      · go_wp2_with (go_at_call 42; refine Calls.mono (putS (B := B) (w := w) (base := base) (b := b) (N := w.heap.size) (cs := #[.int .u8 kn, .string name, .bool true, .slice dA ds.length dc, .slice kA ks.length kc]) (l := L1) [⟨#[45]⟩] (HS1.out.alloc _) (Blk.new _ _ _) (by omega) (by simp) (by simpa [flat] using hlen1) (by simp; omega) hB hbb (by omega)) ?_; rintro e wq ⟨rfl, hst2, hz⟩; have HST := Lib.hid hst2; clear hst2)
        go_meet
        case rel => simpa [flat] using HST.out
    case rest =>
      have HS2 := Lib.hid hcut
      have hs2 := hcut.kept.size
      have hbx2 := hcut.box.lt
      obtain ⟨⟨v0, v1, v2, v3, v4⟩, _⟩ := Blk.c5 hcut.box
      clear hcut hlen1 x0 x1 x2 x3 x4 y0 y1 y2 y3 y4 hs1 hbx1
      generalize hL2 : L1 ++ (if neg then [45] else []) = L2 at HS2
      have hlen2 : L2.length + (digKey ds).length ≤ 140737488355328 := by
        rw [← hL2, ← hL1]
        have := HLEN.out
        simp [Tm.key, flat] at this ⊢
        omega
      have hdl := HFIT.out.1
      have HLN2 := Lib.hid hlen2
      clear hlen2
      go_wp2_with fail
      go_loopw [31] (fun i wr => ∃ k : Nat, k ≤ ds.length ∧ i = .int .i64 k ∧ WSt B w wr base b w.heap.size #[.int .u8 kn, .string name, .bool neg, .slice dA ds.length dc, .slice kA ks.length kc] (L2 ++ digKey (ds.take k))) (fun i _ => ds.length - (RowKit.intOf i).toNat)
      case atStart => exact ⟨0, Nat.zero_le _, rfl, by simpa [digKey] using HS2.out⟩
      case round =>
        obtain ⟨k, hk, rfl, hst⟩ := hrel
        have HS := Lib.hid hst
        have hsz := hst.kept.size
        by_cases hlt : k < ds.length
        · have b1 : (0 : Int) ≤ k := by omega
          have b2 : (k : Int) < ds.length := by omega
          obtain ⟨g, o, x, rfl, _, hgl, hx, hc⟩ := D.ints_at (D.rd_wrote HD.out hst.kept HOK.out) k hlt
          have hxe : ds[k] = x := by
            rw [List.getElem?_eq_getElem hlt] at hx
            injection hx
          have hwx := HWF.out.2.2.1 x (hxe ▸ List.getElem_mem hlt)
          obtain ⟨xn, rfl⟩ : ∃ xn : Nat, x = (xn : Int) := ⟨x.toNat, by omega⟩
          have hk2 := digKey_succ ds k hlt
          have hk3 := digKey_le ds (k + 1)
          rw [hxe] at hk2
          simp only [Int.toNat_natCast] at hk2
          have hk4 : (digKey (ds.take (k + 1))).length = (digKey (ds.take k)).length + ((Lib.decDigits xn).length + 1) := by
            rw [hk2]
            simp
          have hxn : xn ≤ 4294967295 := by omega
          have wx : wrap64 (xn : Int) = (xn : Int) := by unfold wrap64; omega
          have HXN := Lib.hid hxn
          clear hxn
          have HK2 := Lib.hid hk2
          have hl3 : (L2 ++ digKey (ds.take k)).length + (flat [⟨(Lib.decDigits xn).toArray⟩, ⟨#[46]⟩]).length ≤ 140737488355328 := by
            have := HLN2.out
            simp [flat] at this ⊢
            omega
          have HL3 := Lib.hid hl3
          clear hx hxe hwx hk2 hk3 hk4 hst hl3
          go_wp2_with fail
          refine Calls.mono (itoaS (B := B) (w := w) (base := base) (b := b) (N := w.heap.size) (l := L2 ++ digKey (ds.take k)) xn HS.out (Nat.le_trans HXN.out (by decide))) ?_
          rintro e wq ⟨rfl, hst2, hz⟩
          have hz3 := hst2.kept.size
          have HT := Lib.hid hst2
          clear hst2
          dsimp only
          go_wp2_with fail
          refine Calls.mono (putS (B := B) (w := w) (base := base) (b := b) (N := w.heap.size) (l := L2 ++ digKey (ds.take k)) [⟨(Lib.decDigits xn).toArray⟩, ⟨#[46]⟩] (HT.out.alloc _) (Blk.new _ _ _) (by omega) (by simp) HL3.out (by simp; omega) hB hbb (by omega)) ?_
          rintro e wp ⟨rfl, hst2, hz4⟩
          have HU := Lib.hid hst2
          clear hst2
          dsimp only
          go_wp2_with fail
          go_roundw
          case rel =>
            refine ⟨k + 1, by omega, by go_num, ?_⟩
            rw [HK2.out, ← List.append_assoc]
            simpa [flat] using HU.out
          case measure => simp [RowKit.intOf]; omega
        · obtain ⟨⟨x0, x1, x2, x3, x4⟩, _⟩ := Blk.c5 hst.box
          have hbx3 := hst.box.lt
          clear v0 v1 v2 v3 v4
          have hk2 : k = ds.length := by omega
          subst hk2
          rw [List.take_length] at HS
          generalize hL3 : L2 ++ digKey ds = L3 at HS
          have hlen3 : L3.length + (flat [⟨#[32]⟩, ⟨(Lib.decDigits ks.length).toArray⟩, ⟨#[59]⟩]).length + (Tm.keys ks).length ≤ 140737488355328 := by
            rw [← hL3, ← hL2, ← hL1]
            have := HLEN.out
            simp [Tm.key, flat] at this ⊢
            omega
          have hl4 : L3.length + (flat [⟨#[32]⟩, ⟨(Lib.decDigits ks.length).toArray⟩, ⟨#[59]⟩]).length ≤ 140737488355328 := by omega
          have HL4 := Lib.hid hl4
          have HL5 := Lib.hid hlen3
          clear hl4 hlen3 hst
          go_wp2_with fail
          refine Calls.mono (itoaS (B := B) (w := w) (base := base) (b := b) (N := w.heap.size) (l := L3) ks.length HS.out (Nat.le_trans hkl (by decide))) ?_
          rintro e wq ⟨rfl, hst2, hz⟩
          obtain ⟨⟨p0, p1, p2, p3, p4⟩, _⟩ := Blk.c5 hst2.box
          have hbx4 := hst2.box.lt
          have hz3 := hst2.kept.size
          have HT := Lib.hid hst2
          clear hst2 x0 x1 x2 x3 x4
          dsimp only
          go_wp2_with fail
          refine Calls.mono (putS (B := B) (w := w) (base := base) (b := b) (N := w.heap.size) (l := L3) [⟨#[32]⟩, ⟨(Lib.decDigits ks.length).toArray⟩, ⟨#[59]⟩] (HT.out.alloc _) (Blk.new _ _ _) (by omega) (by simp) HL4.out (by simp; omega) hB hbb (by omega)) ?_
          rintro e wp ⟨rfl, hst2, hz4⟩
          obtain ⟨⟨q0, q1, q2, q3, q4⟩, _⟩ := Blk.c5 hst2.box
          have hbx5 := hst2.box.lt
          have hz5 := hst2.kept.size
          generalize hL6 : L3 ++ flat [⟨#[32]⟩, ⟨(Lib.decDigits ks.length).toArray⟩, ⟨#[59]⟩] = L4 at hst2
          have hL7 : L4.length + (Tm.keys ks).length ≤ 140737488355328 := by
            rw [← hL6]
            have := HL5.out
            rw [List.length_append]
            exact this
          have HL8 := Lib.hid hL7
          have HU := Lib.hid hst2
          clear hst2 p0 p1 p2 p3 p4 hL7
          dsimp only
          go_wp2_with fail
          go_loopw [52] (fun i wr => ∃ k : Nat, k ≤ ks.length ∧ i = .int .i64 k ∧ WSt B w wr base b w.heap.size #[.int .u8 kn, .string name, .bool neg, .slice dA ds.length dc, .slice kA ks.length kc] (L4 ++ Tm.keys (ks.take k))) (fun i _ => ks.length - (RowKit.intOf i).toNat)
          case atStart => exact ⟨0, Nat.zero_le _, rfl, by simpa [Tm.keys] using HU.out⟩
          case round =>
            obtain ⟨k, hk, rfl, hst⟩ := hrel
            by_cases hlt : k < ks.length
            · have b1 : (0 : Int) ≤ k := by omega
              have b2 : (k : Int) < ks.length := by omega
              obtain ⟨g, o, kd, nm, ng, xd, ls, eA, ec, lA, lc, rfl, _, hg, hkk, hr, c0, c1, c2, c3, c4⟩ := Tm.kid (D.rd_wrote HK.out hst.kept HOK.out) k hlt
              have hsk := Tm.keys_take_succ ks k hlt
              have hle := keys_le ks (k + 1)
              have hkey : (L4 ++ Tm.keys (ks.take k)).length + (ks[k]).key.length ≤ 140737488355328 := by
                have := HL8.out
                rw [hsk, List.length_append] at hle
                rw [List.length_append]
                omega
              have hcall := HI.out ks[k] (List.getElem_mem hlt) B (wr.alloc (.cells #[.int .u8 kd, .string nm, .bool ng, .slice eA xd.length ec, .slice lA ls.length lc] 28)) ok _ base b (L4 ++ Tm.keys (ks.take k)) (hkk ▸ D.rdRow_ext hr (ext_alloc (Below.refl _ _) _)) HOK.out (hst.wr.ext (ext_alloc (Below.refl _ _) _)) (hst.alloc _).env hB hbb (by have := hst.kept.size; simp; omega) (Tm.wfs_get ks HWF.out.2.2.2 k hlt) (Tm.fitss_get ks HFIT.out.2.2 k hlt) hkey
              have HC := Lib.hid hcall
              have HS := Lib.hid hst
              have HKS := Lib.hid hsk
              clear hcall hst hr hkk hsk hle hkey
              go_wp2_with fail
              refine HC.out.mono ?_
              rintro e w2 ⟨rfl, k1, k2, k3⟩
              have hst2 := WSt.mk (B := B) (w := w) (W := w2) (base := base) (b := b) k1 ((HS.out.kept.alloc _).trans k2) ((HS.out.box.alloc _).wrote k2 (by omega) (by decide)) k3
              have HS2 := Lib.hid hst2
              clear k1 k2 k3 hst2
              dsimp only
              go_wp2_with fail
              go_roundw
              case rel =>
                refine ⟨k + 1, by omega, by go_num, ?_⟩
                rw [HKS.out, ← List.append_assoc]
                exact HS2.out
              case measure => simp [RowKit.intOf]; omega
            · go_wp2_with fail
              go_end0
              have hk3 : k = ks.length := by omega
              subst hk3
              rw [List.take_length] at hst
              refine ⟨rfl, ?_, hst.kept, hst.env⟩
              have := hst.wr
              rw [← hL6, ← hL3, ← hL2, ← hL1] at this
              simpa [Tm.key, flat] using this
mutual
theorem wterm_calls : ∀ t : Tm, KeyAt t
  | .mk kind name neg ds ks => wterm_step kind name neg ds ks (wterm_all ks)
theorem wterm_all : ∀ l : List Tm, ∀ t ∈ l, KeyAt t
  | [], t, h => by simp at h
  | x :: xs, t, h => by
    rcases List.mem_cons.1 h with h | h
    · rw [h]
      exact wterm_calls x
    · exact wterm_all xs t h
end
end Wh
