import Derived.Test.YtlacfgnjljjdiaaDoorT46
import Derived.Deep.RegionHeld3
import Derived.Laws.Concat
set_option linter.unusedVariables false
set_option linter.unusedSimpArgs false
open Go Go.RowKit Go.Proofs
namespace Wh
/-! ### the reference's Key -/
def RefKeyAt (t : Tm) : Prop := ∀ (B : Nat) (w : World) (ok : Nat → Prop) (us : List Value), D.rdRow w ok t.enc us → Env B w → t.wf → t.key.length ≤ 140737488355328 →
  Calls Tryd.prog 31 #[.agg us.toArray] w fun e w' => e = .returned (.string ⟨t.key.toArray⟩) ∧ Below w.heap.size w w'
theorem add_text {P : Program} (x y : List UInt8) (a b : ByteArray) (ha : a.data.toList = x) (hb : b.data.toList = y) (h : x.length + y.length ≤ 9223372036854775807) : ∃ S : ByteArray, S.data.toList = x ++ y ∧ ∀ W, (Op.stringOp .add a b).run P W = .ok (.string S) W := by
  refine ⟨a ++ b, by simp [ha, hb], fun W => run_string_add_sum W a b ?_⟩
  have h1 : a.data.toList.length = a.size := by simp
  have h2 : b.data.toList.length = b.size := by simp
  rw [ha] at h1
  rw [hb] at h2
  omega
/-- As it goes on: the term's block, its reading, the library's table. -/
structure RK (B : Nat) (w : World) (us : List Value) (t : Tm) (W : World) : Prop where
  low : Below w.heap.size w W
  box : Blk W w.heap.size us.toArray 28
  env : Env B W
  rd : D.rdRow W (fun _ => True) t.enc us
theorem RK.ext {B : Nat} {w W W' : World} {us : List Value} {t : Tm} (h : RK B w us t W) (hb : Below W.heap.size W W') : RK B w us t W' :=
  ⟨h.low.trans (hb.mono h.low.size), h.box.ext hb, h.env.below (hb.mono h.env.1), D.rdRow_ext h.rd hb⟩
set_option maxHeartbeats 4000000 in
set_option maxRecDepth 100000 in
theorem refKey_step (kind : Int) (name : ByteArray) (neg : Bool) (ds : List Int) (ks : List Tm) (ih : ∀ t ∈ ks, RefKeyAt t) : RefKeyAt (.mk kind name neg ds ks) := by
  intro B w ok us hr henv hwf hlen
  have hr1 := D.rdRow_ext hr (ext_alloc (Below.refl w.heap.size w) (.cells us.toArray 28))
  have HK0 : Hid (RK B w us (.mk kind name neg ds ks) (w.alloc (.cells us.toArray 28))) := Lib.hid ⟨ext_alloc (Below.refl _ _) _, Blk.new _ _ _, henv.below ((ext_alloc (Below.refl _ _) _).mono henv.1), D.rdRow_mono (fun g _ => ⟨trivial, rfl⟩) _ _ hr1⟩
  obtain ⟨dA, dc, kA, kc, rfl, hd0, hk0⟩ := Tm.open hr
  obtain ⟨k0, k1, hds, hks⟩ := hwf
  have HI := Lib.hid ih
  have HDS := Lib.hid hds
  have HKS := Lib.hid hks
  have hnl : name.size ≤ 140737488355328 := by
    have e0 := key_split kind name neg ds ks []
    rw [List.append_nil, List.append_nil] at e0
    have hl : (Tm.mk kind name neg ds ks).key.length = _ := congrArg List.length e0
    simp only [List.length_append, List.length_cons] at hl
    have hn : name.data.toList.length = name.size := by simp
    omega
  obtain ⟨kn, rfl⟩ : ∃ kn : Nat, kind = kn := ⟨kind.toNat, by omega⟩
  have w1 : IntKind.i64.wrap (kn : Int) = kn := wrap_id _ (by omega) (by omega)
  clear hr hr1 hd0 hk0 ih hds hks henv
  obtain ⟨K, hKd⟩ : ∃ K : World → Prop, K = RK B w [.int .u8 (kn : Int), .string name, .bool neg, .slice dA ds.length dc, .slice kA ks.length kc] (.mk (kn : Int) name neg ds ks) := ⟨_, rfl⟩
  have HK : Hid (K (w.alloc (.cells #[.int .u8 (kn : Int), .string name, .bool neg, .slice dA ds.length dc, .slice kA ks.length kc] 28))) := Lib.hid (hKd ▸ HK0.out)
  have HKX : Hid (∀ W W', K W → Below W.heap.size W W' → K W') := Lib.hid (by subst hKd; exact fun W W' h hb => h.ext hb)
  have HKD : Hid (∀ W, K W → K W.drew) := Lib.hid fun W h => HKX.out _ _ h (Below.refl _ _).drew
  have HKI : Hid (∀ W (n : Nat), K W → n ≤ 9223372036854775807 → Calls Tryd.prog 43 #[.int .i64 (n : Int)] W fun e w' => e = .returned (.string ⟨(Lib.decDigits n).toArray⟩) ∧ Below W.heap.size W w') := Lib.hid (by subst hKd; exact fun W n h hn => itoa_calls B n hn W h.env)
  have HKF : Hid (∀ W, K W → (W.cell? ⟨w.heap.size, 0, none⟩ = some (.int .u8 (kn : Int)) ∧ W.cell? ⟨w.heap.size, 1, none⟩ = some (.string name) ∧ W.cell? ⟨w.heap.size, 2, none⟩ = some (.bool neg) ∧ W.cell? ⟨w.heap.size, 3, none⟩ = some (.slice dA ds.length dc) ∧ W.cell? ⟨w.heap.size, 4, none⟩ = some (.slice kA ks.length kc)) ∧ w.heap.size < W.heap.size) := Lib.hid (by subst hKd; exact fun W h => ⟨(Blk.c5 h.box).1, h.box.lt⟩)
  obtain ⟨⟨a0, a1, a2, a3, a4⟩, za⟩ := HKF.out _ HK.out
  have hdl := Lib.nDigits_le20 kn (by omega)
  have hdn := Lib.nDigits_le20 name.size (by omega)
  have hn : name.data.toList.length = name.size := by simp
  obtain ⟨S1, hS1, add1⟩ := add_text (P := Tryd.prog) (Lib.decDigits kn) [32] ⟨(Lib.decDigits kn).toArray⟩ ⟨#[32]⟩ (by simp) rfl (by rw [Lib.decDigits_length]; simp; omega)
  obtain ⟨S2, hS2, add2⟩ := add_text (P := Tryd.prog) _ (Lib.decDigits name.size) S1 ⟨(Lib.decDigits name.size).toArray⟩ hS1 (by simp) (by simp [Lib.decDigits_length]; omega)
  obtain ⟨S3, hS3, add3⟩ := add_text (P := Tryd.prog) _ [58] S2 ⟨#[58]⟩ hS2 rfl (by simp [Lib.decDigits_length]; omega)
  obtain ⟨S4, hS4, add4⟩ := add_text (P := Tryd.prog) _ name.data.toList S3 name hS3 rfl (by simp [Lib.decDigits_length]; omega)
  obtain ⟨S5, hS5, add5⟩ := add_text (P := Tryd.prog) _ [32] S4 ⟨#[32]⟩ hS4 rfl (by simp [Lib.decDigits_length]; omega)
  have HS5 := Lib.hid hS5
  clear hdl hdn hn hS1 hS2 hS3 hS4 hS5
  have HKE : Hid (∀ W, K W → Env B W) := Lib.hid (by subst hKd; exact fun W h => h.env)
  have HKB : Hid (∀ W, K W → Below w.heap.size w W) := Lib.hid (by subst hKd; exact fun W h => h.low)
  have HKR : Hid (∀ W, K W → D.rd W (fun _ => True) (.ints 53 .u32 ds) (.slice dA ds.length dc) ∧ D.rd W (fun _ => True) (.row 28 5 (Tm.encs ks)) (.slice kA ks.length kc)) := Lib.hid (by
    subst hKd
    intro W h
    obtain ⟨dA', dc', kA', kc', e, h1, h2⟩ := Tm.open h.rd
    simp only [List.cons.injEq, Value.slice.injEq, and_true, true_and] at e
    obtain ⟨⟨rfl, rfl⟩, rfl, rfl⟩ := e
    exact ⟨h1, h2⟩)
  clear HK0 hKd
  go_enter Tryd.func31, Tryd.ntmps31
  go_wp2_with fail
  go_region_held3 (fun w' => w'.cell? ⟨w.heap.size, 0, none⟩ = some (.int .u8 (kn : Int)) ∧ w'.cell? ⟨w.heap.size, 1, none⟩ = some (.string name) ∧ w'.cell? ⟨w.heap.size, 2, none⟩ = some (.bool neg) ∧ w'.cell? ⟨w.heap.size, 3, none⟩ = some (.slice dA ds.length dc) ∧ w'.cell? ⟨w.heap.size, 4, none⟩ = some (.slice kA ks.length kc))
    (first | exact ⟨a0, a1, a2, a3, a4⟩ | go_keep)
    (first
      | (go_at_call 43; (with_reducible refine Calls.mono (HKI.out _ _ (by repeat (first | (with_reducible exact Hid.out (by assumption)) | (with_reducible refine HKD.out _ ?_))) (by omega)) ?_); rintro e wq ⟨rfl, hb⟩; have HKq := Lib.hid (HKX.out _ _ (by repeat (first | (with_reducible exact Hid.out (by assumption)) | (with_reducible refine HKD.out _ ?_))) hb); obtain ⟨⟨a0, a1, a2, a3, a4⟩, za⟩ := HKF.out _ HKq.out; have hzq := hb.size; clear hb)
      | fail)
  clear a0 a1 a2 a3 a4 add1 add2 add3 add4 add5
  obtain ⟨⟨a0, a1, a2, a3, a4⟩, za⟩ := HKF.out _ HKq.out
  have hpre : ∃ S6 : ByteArray, S6.data.toList = S5.data.toList ++ (if neg then [45] else []) ∧ (neg = true → ∀ W, (Op.stringOp .add S5 ⟨#[45]⟩).run Tryd.prog W = .ok (.string S6) W) ∧ (neg = false → S6 = S5) := by
    cases neg with
    | true =>
      obtain ⟨S6, h1, h2⟩ := add_text (P := Tryd.prog) _ [45] S5 ⟨#[45]⟩ rfl rfl (by rw [HS5.out]; simp [Lib.decDigits_length]; have := Lib.nDigits_le20 kn (by omega); have := Lib.nDigits_le20 name.size (by omega); omega)
      exact ⟨S6, by simpa using h1, fun _ => h2, by simp⟩
    | false => exact ⟨S5, by simp, by simp, fun _ => rfl⟩
  obtain ⟨S6, hS6, hadd6, heq6⟩ := hpre
  have HS6 := Lib.hid hS6
  clear hS6
  have hdsl : ds.length ≤ 140737488355328 ∧ (digKey ds).length ≤ 140737488355328 ∧ ks.length ≤ 140737488355328 ∧ (Tm.keys ks).length ≤ 140737488355328 ∧ Lib.nDigits ks.length ≤ 20 ∧ S6.data.toList.length + (digKey ds).length + (Tm.keys ks).length ≤ 140737488355400 := by
    have e0 := key_split (kn : Int) name neg ds ks []
    rw [List.append_nil, List.append_nil] at e0
    have hl : (Tm.mk (kn : Int) name neg ds ks).key.length = _ := congrArg List.length e0
    simp only [List.length_append, List.length_cons, Lib.decDigits_length] at hl
    have h1 := digs_len ds
    have h0 := keys_len ks
    have h2 := Lib.nDigits_le20 kn (by omega)
    have h3 := Lib.nDigits_le20 name.size (by omega)
    have h4 : (if neg then [(45 : UInt8)] else []).length ≤ 1 := by cases neg <;> simp
    have hn : name.data.toList.length = name.size := by simp
    have h7 := Lib.nDigits_le20 ks.length (by omega)
    refine ⟨by omega, by omega, by omega, by omega, h7, ?_⟩
    rw [HS6.out, HS5.out]
    simp only [List.length_append, List.length_cons, List.length_nil, Lib.decDigits_length]
    omega
  obtain ⟨hds1, hdk1, hks1, hkk1, hnd1, hs61⟩ := hdsl
  cases neg with
  | true =>
    have add6 := hadd6 rfl
    clear hadd6 heq6
    go_wp2_with fail
    go_loopw [3, 4] (fun t i wr => ∃ (k : Nat) (S : ByteArray), k ≤ ds.length ∧ t = .string S ∧ i = .int .i64 k ∧ Hid (K wr) ∧ Hid (S.data.toList = S6.data.toList ++ digKey (ds.take k))) (fun _ i _ => ds.length - (Go.RowKit.intOf i).toNat)
    case atStart => exact ⟨0, S6, Nat.zero_le _, rfl, rfl, HKq, Lib.hid (by simp [digKey])⟩
    case round =>
      obtain ⟨k, S, hk, rfl, rfl, HKr, HS⟩ := hrel
      clear a0 a1 a2 a3 a4
      obtain ⟨⟨a0, a1, a2, a3, a4⟩, zr⟩ := HKF.out _ HKr.out
      by_cases hlt : k < ds.length
      · obtain ⟨g, o, x, rfl, _, hg, hx, hc⟩ := D.ints_at (HKR.out _ HKr.out).1 k hlt
        have hxm := HDS.out x (List.mem_of_getElem? hx)
        obtain ⟨xn, rfl⟩ : ∃ xn : Nat, x = xn := ⟨x.toNat, by omega⟩
        have b1 : (0 : Int) ≤ k := by omega
        have b2 : (k : Int) < ds.length := by omega
        have w2 : IntKind.i64.wrap (xn : Int) = xn := wrap_id _ (by omega) (by omega)
        have hgl := digKey_bound (ds.take k) (fun d hd => HDS.out d (List.mem_of_mem_take hd))
        have htl : (ds.take k).length = k := by rw [List.length_take]; omega
        have hxl := Lib.nDigits_le20 xn (by omega)
        obtain ⟨T1, hT1, add7⟩ := add_text (P := Tryd.prog) _ (Lib.decDigits xn) S ⟨(Lib.decDigits xn).toArray⟩ HS.out (by simp) (by rw [List.length_append, Lib.decDigits_length]; omega)
        obtain ⟨T2, hT2, add8⟩ := add_text (P := Tryd.prog) _ [46] T1 ⟨#[46]⟩ hT1 rfl (by rw [List.length_append, List.length_append, Lib.decDigits_length]; simp only [List.length_cons, List.length_nil]; omega)
        have hnew : T2.data.toList = S6.data.toList ++ digKey (ds.take (k + 1)) := by
          rw [hT2, List.take_add_one, hx]
          simp [digKey]
        have HNEW := Lib.hid hnew
        clear hT1 hT2 hnew hgl htl hxl
        go_wp2_with (go_at_call 43; (with_reducible refine Calls.mono (HKI.out _ xn HKr.out (by omega)) ?_); rintro e wz ⟨rfl, hb⟩; have HKz := Lib.hid (HKX.out _ _ HKr.out hb); clear hb)
        all_goals
          exact ⟨⟨k + 1, T2, by omega, rfl, by go_num, HKz, HNEW⟩, by simp [Go.RowKit.intOf]; omega⟩
      · have hkk : k = ds.length := by omega
        subst hkk
        have HSD : Hid (S.data.toList = S6.data.toList ++ digKey ds) := Lib.hid (by have := HS.out; rwa [List.take_length] at this)
        clear HS
        obtain ⟨U1, hU1, add9⟩ := add_text (P := Tryd.prog) _ [32] S ⟨#[32]⟩ HSD.out rfl (by rw [List.length_append]; simp only [List.length_cons, List.length_nil]; omega)
        obtain ⟨U2, hU2, add10⟩ := add_text (P := Tryd.prog) _ (Lib.decDigits ks.length) U1 ⟨(Lib.decDigits ks.length).toArray⟩ hU1 (by simp) (by rw [List.length_append, List.length_append, Lib.decDigits_length]; simp only [List.length_cons, List.length_nil]; omega)
        obtain ⟨U3, hU3, add11⟩ := add_text (P := Tryd.prog) _ [59] U2 ⟨#[59]⟩ hU2 rfl (by rw [List.length_append, List.length_append, List.length_append, Lib.decDigits_length]; simp only [List.length_cons, List.length_nil]; omega)
        have HU3 := Lib.hid hU3
        have hu3 : U3.data.toList.length + (Tm.keys ks).length ≤ 150000000000000 := by
          rw [hU3]
          simp only [List.length_append, List.length_cons, List.length_nil, Lib.decDigits_length]
          omega
        clear hU1 hU2 hU3
        go_wp2_with (go_at_call 43; (with_reducible refine Calls.mono (HKI.out _ ks.length HKr.out (by omega)) ?_); rintro e wz ⟨rfl, hb⟩; have HKz := Lib.hid (HKX.out _ _ HKr.out hb); clear hb)
        rename World => wo
        go_loopw [3, 5] (fun t i wr => ∃ (k : Nat) (S : ByteArray), k ≤ ks.length ∧ t = .string S ∧ i = .int .i64 k ∧ Hid (K wr) ∧ Hid (S.data.toList = U3.data.toList ++ Tm.keys (ks.take k))) (fun _ i _ => ks.length - (Go.RowKit.intOf i).toNat)
        case atStart => exact ⟨0, U3, Nat.zero_le _, rfl, rfl, HKz, Lib.hid (by simp [Tm.keys])⟩
        case round =>
          obtain ⟨k, S, hk, rfl, rfl, HKr, HS⟩ := hrel
          clear a0 a1 a2 a3 a4
          obtain ⟨⟨a0, a1, a2, a3, a4⟩, zr⟩ := HKF.out _ HKr.out
          by_cases hlt : k < ks.length
          · obtain ⟨g, o, kd, nm, ng, xd, ls, dA', dc', lA', lc', rfl, _, hg, hkk, hr, c0, c1, c2, c3, c4⟩ := Tm.kid (HKR.out _ HKr.out).2 k hlt
            have b1 : (0 : Int) ≤ k := by omega
            have b2 : (k : Int) < ks.length := by omega
            have hkl : ∀ m, (Tm.keys (ks.take m)).length ≤ (Tm.keys ks).length := fun m => by
              have := Tm.keys_append (ks.take m) (ks.drop m)
              rw [List.take_append_drop] at this
              rw [this, List.length_append]
              omega
            have hk1 := hkl (k + 1)
            rw [Tm.keys_take_succ ks k hlt, List.length_append] at hk1
            have hcall := HI.out (ks[k]) (List.getElem_mem hlt) B wr (fun _ => True) _ (by rw [hkk]; exact hr) (HKE.out _ HKr.out) (Tm.wfs_get ks HKS.out k hlt) (by omega)
            obtain ⟨T1, hT1, add12⟩ := add_text (P := Tryd.prog) _ (ks[k]).key S ⟨(ks[k]).key.toArray⟩ HS.out (by simp) (by rw [List.length_append]; have := hkl k; omega)
            have HNEW : Hid (T1.data.toList = U3.data.toList ++ Tm.keys (ks.take (k + 1))) := Lib.hid (by rw [hT1, Tm.keys_take_succ ks k hlt, List.append_assoc])
            have HC := Lib.hid hcall
            generalize (⟨(ks[k]).key.toArray⟩ : ByteArray) = kk at add12 HC
            clear hkl hk1 hcall hT1 hkk hr
            go_wp2_with (go_at_call 31; (with_reducible refine Calls.mono (HC.out) ?_); rintro e wz ⟨rfl, hb⟩; have HKy := Lib.hid (HKX.out _ _ HKr.out hb); clear hb)
            all_goals
              exact ⟨⟨k + 1, T1, by omega, rfl, by go_num, HKy, HNEW⟩, by simp [Go.RowKit.intOf]; omega⟩
          · have hkk : k = ks.length := by omega
            subst hkk
            have hfin : S = ⟨(Tm.mk (kn : Int) name true ds ks).key.toArray⟩ := by
              apply ByteArray.ext
              apply Array.toList_inj.1
              rw [HS.out, List.take_length, HU3.out, HS6.out, HS5.out]
              simp [Tm.key]
            have HFIN := Lib.hid hfin
            clear hfin
            go_wp2_with fail
            go_ret
            exact ⟨by rw [HFIN.out]; rfl, HKB.out _ HKr.out⟩
  | false =>
    have e6 := heq6 rfl
    subst e6
    clear hadd6 heq6
    go_wp2_with fail
    go_loopw [3, 4] (fun t i wr => ∃ (k : Nat) (S : ByteArray), k ≤ ds.length ∧ t = .string S ∧ i = .int .i64 k ∧ Hid (K wr) ∧ Hid (S.data.toList = S6.data.toList ++ digKey (ds.take k))) (fun _ i _ => ds.length - (Go.RowKit.intOf i).toNat)
    case atStart => exact ⟨0, S6, Nat.zero_le _, rfl, rfl, HKq, Lib.hid (by simp [digKey])⟩
    case round =>
      obtain ⟨k, S, hk, rfl, rfl, HKr, HS⟩ := hrel
      clear a0 a1 a2 a3 a4
      obtain ⟨⟨a0, a1, a2, a3, a4⟩, zr⟩ := HKF.out _ HKr.out
      by_cases hlt : k < ds.length
      · obtain ⟨g, o, x, rfl, _, hg, hx, hc⟩ := D.ints_at (HKR.out _ HKr.out).1 k hlt
        have hxm := HDS.out x (List.mem_of_getElem? hx)
        obtain ⟨xn, rfl⟩ : ∃ xn : Nat, x = xn := ⟨x.toNat, by omega⟩
        have b1 : (0 : Int) ≤ k := by omega
        have b2 : (k : Int) < ds.length := by omega
        have w2 : IntKind.i64.wrap (xn : Int) = xn := wrap_id _ (by omega) (by omega)
        have hgl := digKey_bound (ds.take k) (fun d hd => HDS.out d (List.mem_of_mem_take hd))
        have htl : (ds.take k).length = k := by rw [List.length_take]; omega
        have hxl := Lib.nDigits_le20 xn (by omega)
        obtain ⟨T1, hT1, add7⟩ := add_text (P := Tryd.prog) _ (Lib.decDigits xn) S ⟨(Lib.decDigits xn).toArray⟩ HS.out (by simp) (by rw [List.length_append, Lib.decDigits_length]; omega)
        obtain ⟨T2, hT2, add8⟩ := add_text (P := Tryd.prog) _ [46] T1 ⟨#[46]⟩ hT1 rfl (by rw [List.length_append, List.length_append, Lib.decDigits_length]; simp only [List.length_cons, List.length_nil]; omega)
        have hnew : T2.data.toList = S6.data.toList ++ digKey (ds.take (k + 1)) := by
          rw [hT2, List.take_add_one, hx]
          simp [digKey]
        have HNEW := Lib.hid hnew
        clear hT1 hT2 hnew hgl htl hxl
        go_wp2_with (go_at_call 43; (with_reducible refine Calls.mono (HKI.out _ xn HKr.out (by omega)) ?_); rintro e wz ⟨rfl, hb⟩; have HKz := Lib.hid (HKX.out _ _ HKr.out hb); clear hb)
        all_goals
          exact ⟨⟨k + 1, T2, by omega, rfl, by go_num, HKz, HNEW⟩, by simp [Go.RowKit.intOf]; omega⟩
      · have hkk : k = ds.length := by omega
        subst hkk
        have HSD : Hid (S.data.toList = S6.data.toList ++ digKey ds) := Lib.hid (by have := HS.out; rwa [List.take_length] at this)
        clear HS
        obtain ⟨U1, hU1, add9⟩ := add_text (P := Tryd.prog) _ [32] S ⟨#[32]⟩ HSD.out rfl (by rw [List.length_append]; simp only [List.length_cons, List.length_nil]; omega)
        obtain ⟨U2, hU2, add10⟩ := add_text (P := Tryd.prog) _ (Lib.decDigits ks.length) U1 ⟨(Lib.decDigits ks.length).toArray⟩ hU1 (by simp) (by rw [List.length_append, List.length_append, Lib.decDigits_length]; simp only [List.length_cons, List.length_nil]; omega)
        obtain ⟨U3, hU3, add11⟩ := add_text (P := Tryd.prog) _ [59] U2 ⟨#[59]⟩ hU2 rfl (by rw [List.length_append, List.length_append, List.length_append, Lib.decDigits_length]; simp only [List.length_cons, List.length_nil]; omega)
        have HU3 := Lib.hid hU3
        have hu3 : U3.data.toList.length + (Tm.keys ks).length ≤ 150000000000000 := by
          rw [hU3]
          simp only [List.length_append, List.length_cons, List.length_nil, Lib.decDigits_length]
          omega
        clear hU1 hU2 hU3
        go_wp2_with (go_at_call 43; (with_reducible refine Calls.mono (HKI.out _ ks.length HKr.out (by omega)) ?_); rintro e wz ⟨rfl, hb⟩; have HKz := Lib.hid (HKX.out _ _ HKr.out hb); clear hb)
        rename World => wo
        go_loopw [3, 5] (fun t i wr => ∃ (k : Nat) (S : ByteArray), k ≤ ks.length ∧ t = .string S ∧ i = .int .i64 k ∧ Hid (K wr) ∧ Hid (S.data.toList = U3.data.toList ++ Tm.keys (ks.take k))) (fun _ i _ => ks.length - (Go.RowKit.intOf i).toNat)
        case atStart => exact ⟨0, U3, Nat.zero_le _, rfl, rfl, HKz, Lib.hid (by simp [Tm.keys])⟩
        case round =>
          obtain ⟨k, S, hk, rfl, rfl, HKr, HS⟩ := hrel
          clear a0 a1 a2 a3 a4
          obtain ⟨⟨a0, a1, a2, a3, a4⟩, zr⟩ := HKF.out _ HKr.out
          by_cases hlt : k < ks.length
          · obtain ⟨g, o, kd, nm, ng, xd, ls, dA', dc', lA', lc', rfl, _, hg, hkk, hr, c0, c1, c2, c3, c4⟩ := Tm.kid (HKR.out _ HKr.out).2 k hlt
            have b1 : (0 : Int) ≤ k := by omega
            have b2 : (k : Int) < ks.length := by omega
            have hkl : ∀ m, (Tm.keys (ks.take m)).length ≤ (Tm.keys ks).length := fun m => by
              have := Tm.keys_append (ks.take m) (ks.drop m)
              rw [List.take_append_drop] at this
              rw [this, List.length_append]
              omega
            have hk1 := hkl (k + 1)
            rw [Tm.keys_take_succ ks k hlt, List.length_append] at hk1
            have hcall := HI.out (ks[k]) (List.getElem_mem hlt) B wr (fun _ => True) _ (by rw [hkk]; exact hr) (HKE.out _ HKr.out) (Tm.wfs_get ks HKS.out k hlt) (by omega)
            obtain ⟨T1, hT1, add12⟩ := add_text (P := Tryd.prog) _ (ks[k]).key S ⟨(ks[k]).key.toArray⟩ HS.out (by simp) (by rw [List.length_append]; have := hkl k; omega)
            have HNEW : Hid (T1.data.toList = U3.data.toList ++ Tm.keys (ks.take (k + 1))) := Lib.hid (by rw [hT1, Tm.keys_take_succ ks k hlt, List.append_assoc])
            have HC := Lib.hid hcall
            generalize (⟨(ks[k]).key.toArray⟩ : ByteArray) = kk at add12 HC
            clear hkl hk1 hcall hT1 hkk hr
            go_wp2_with (go_at_call 31; (with_reducible refine Calls.mono (HC.out) ?_); rintro e wz ⟨rfl, hb⟩; have HKy := Lib.hid (HKX.out _ _ HKr.out hb); clear hb)
            all_goals
              exact ⟨⟨k + 1, T1, by omega, rfl, by go_num, HKy, HNEW⟩, by simp [Go.RowKit.intOf]; omega⟩
          · have hkk : k = ks.length := by omega
            subst hkk
            have hfin : S = ⟨(Tm.mk (kn : Int) name false ds ks).key.toArray⟩ := by
              apply ByteArray.ext
              apply Array.toList_inj.1
              rw [HS.out, List.take_length, HU3.out, HS5.out]
              simp [Tm.key]
            have HFIN := Lib.hid hfin
            clear hfin
            go_wp2_with fail
            go_ret
            exact ⟨by rw [HFIN.out]; rfl, HKB.out _ HKr.out⟩
mutual
theorem refKey_calls : ∀ t : Tm, RefKeyAt t
  | .mk kind name neg ds ks => refKey_step kind name neg ds ks (refKey_all ks)
theorem refKey_all : ∀ l : List Tm, ∀ t ∈ l, RefKeyAt t
  | [], t, h => by simp at h
  | x :: xs, t, h => by
    rcases List.mem_cons.1 h with h | h
    · rw [h]
      exact refKey_calls x
    · exact refKey_all xs t h
end
end Wh
