import Derived.Test.YtlacfgnjljjdiaaDoorT49
import Derived.Test.YtlacfgnjljjdiaaDoorT50
import Derived.Laws.IdiomStrings
import Derived.Laws.BitsAllLaws
set_option linter.unusedVariables false
set_option linter.unusedSimpArgs false
open Go Go.RowKit Go.Proofs
namespace Wh
/-! ### TermReads -/
theorem TermPost.tells {w : World} {r : Option Tm} {e : Ending} {w' : World} (h : TermPost w r e w') : Below w.heap.size w w' ∧ ∃ kd nm ng dA dn dc kA kn kc, e = .returned (.tuple #[.agg #[.int .u8 kd, .string nm, .bool ng, .slice dA dn dc, .slice kA kn kc], .bool r.isSome]) ∧
    D.rdRow w' (fun _ => True) (r.getD Tm.zero).enc [.int .u8 kd, .string nm, .bool ng, .slice dA dn dc, .slice kA kn kc] := by
  obtain ⟨hb, hm⟩ := h
  refine ⟨hb, ?_⟩
  cases r with
  | none => exact ⟨_, _, _, _, _, _, _, _, _, hm, rd_tm (D.rd_nil _ _) (D.rd_nil _ _)⟩
  | some t =>
    obtain ⟨us, rfl, hu⟩ := hm
    obtain ⟨kd, nm, ng, xd, ls⟩ := t
    obtain ⟨dA, dc, lA, lc, rfl, _, _⟩ := Tm.open hu.rd
    exact ⟨_, _, _, _, _, _, _, _, _, rfl, D.rdRow_imp hu.rd (fun _ _ => trivial)⟩
mutual
theorem fits_of_parts' : ∀ t : Tm, t.low → t.parts ≤ 3000 → t.fits ∧ (t.size : Int) ≤ t.parts ∧ 1 ≤ t.parts
  | .mk k n g ds ks, hlow, hp => by
    rw [Tm.parts] at hp
    obtain ⟨l1, l2, l3, l4⟩ := hlow
    have h0 := partss_nonneg' ks
    obtain ⟨f1, f2, f3⟩ := fitss_of_parts' ks l4 (by omega)
    rw [Tm.fits, Tm.size, Tm.parts]
    exact ⟨⟨by omega, by omega, f1⟩, by omega, by omega⟩
theorem fitss_of_parts' : ∀ l : List Tm, Tm.lows l → Tm.partss l ≤ 3000 → Tm.fitss l ∧ (Tm.sizes l : Int) ≤ Tm.partss l ∧ (l.length : Int) ≤ Tm.partss l
  | [], _, _ => by simp [Tm.fitss, Tm.sizes, Tm.partss]
  | t :: ts, hlow, hp => by
    rw [Tm.partss] at hp
    have h0 := partss_nonneg' ts
    have h1 := parts_nonneg' t
    obtain ⟨f1, f2, f3⟩ := fits_of_parts' t hlow.1 (by omega)
    obtain ⟨g1, g2, g3⟩ := fitss_of_parts' ts hlow.2 (by omega)
    rw [Tm.fitss, Tm.sizes, Tm.partss, List.length_cons]
    exact ⟨⟨f1, g1⟩, by omega, by omega⟩
theorem parts_nonneg' : ∀ t : Tm, 0 ≤ t.parts
  | .mk k n g ds ks => by
    have := partss_nonneg' ks
    rw [Tm.parts]
    omega
theorem partss_nonneg' : ∀ l : List Tm, 0 ≤ Tm.partss l
  | [] => by simp [Tm.partss]
  | t :: ts => by
    have := partss_nonneg' ts
    have := parts_nonneg' t
    rw [Tm.partss]
    omega
end
structure TrK (w0 : World) (B N : Nat) (t : Tm) (ut : List Value) (W : World) : Prop where
  low : Below N w0 W
  env : Env2 B W
  hB : B ≤ N
  hN : N ≤ W.heap.size
  bx : Blk W N ut.toArray 28
  rd : D.rdRow W (fun _ => True) t.enc ut
theorem TrK.ext {w0 : World} {B N : Nat} {t : Tm} {ut : List Value} {W W' : World} (h : TrK w0 B N t ut W) (hb : Below W.heap.size W W') : TrK w0 B N t ut W' :=
  ⟨h.low.trans (hb.mono h.hN), h.env.ext hb, h.hB, Nat.le_trans h.hN hb.size, h.bx.ext hb, D.rdRow_ext h.rd hb⟩
theorem TrK.set {w0 : World} {B N : Nat} {t : Tm} {ut : List Value} {W W' : World} (h : TrK w0 B N t ut W) {M : Nat} (hN : N < M) (hM : M ≤ W.heap.size) (hb : Below M W W') (hr : D.rdRow W' (fun _ => True) t.enc ut) : TrK w0 B N t ut W' :=
  ⟨h.low.trans (hb.mono (by omega)), h.env.below (hb.mono (by have := h.hB; omega)), h.hB, Nat.le_trans h.hN hb.size, h.bx.below hb hN, hr⟩
theorem key_pos (t : Tm) : 0 < t.key.length := List.length_pos_iff.2 t.key_ne
theorem bytes_row (w : World) (s : ByteArray) : ∃ (w' : World) (cap : Nat), (convert 9 32 (.string s)).run Tryd.prog w = .ok (.slice (some ⟨w.heap.size, 0, none⟩) s.size cap) w' ∧ Below w.heap.size w w' ∧
    ∀ k (h : k < s.size), w'.cell? ⟨w.heap.size, k, none⟩ = some (.int .u8 (s[k].toNat : Int)) ∧ w'.frozen? ⟨w.heap.size, k, none⟩ = false := by
  refine ⟨_, _, run_bytes_of_string w 9 32 5 s Tryd.underlying9 Tryd.underlying32 Tryd.underlying5, ext_alloc (w := w) (W := w.drew) (Below.refl _ _).drew _, fun k h => ?_⟩
  have hl : ∀ o : Obj, (w.drew.alloc o).heap[w.heap.size]? = some o := fun o => heap_alloc_new w.drew o
  constructor
  · simp only [World.cell?, hl]
    simp [bytesRow, Array.getElem?_append, h]
    rfl
  · simp only [World.frozen?, hl]
    have : s.size ≤ (bytesRow s (grownCap w s.size 0 5)).size := by simp [bytesRow]
    simp
    omega
theorem bytes_turn (w : World) (s : ByteArray) (g k cap : Nat) (y : Int) (hrow : ∀ j (h : j < s.size), w.cell? ⟨g, j, none⟩ = some (.int .u8 (s[j].toNat : Int)) ∧ w.frozen? ⟨g, j, none⟩ = false) (hk : k < s.size) (hy : 0 ≤ y ∧ y ≤ 255) :
    ∃ od : ByteArray, od.size = s.size ∧ ∀ W, (∀ j, W.cell? ⟨g, j, none⟩ = (w.setCell ⟨g, k, none⟩ (.int .u8 (bits .xor .u8 (s[k].toNat : Int) y))).cell? ⟨g, j, none⟩) → (convert 32 9 (.slice (some ⟨g, 0, none⟩) s.size cap)).run Tryd.prog W = .ok (.string od) W := by
  have hs : s.data.toList.length = s.size := by simp
  obtain ⟨Y, rfl⟩ := Int.eq_ofNat_of_zero_le hy.1
  have hY : Y < 256 := by omega
  have hlt : s[k].toNat < 256 := UInt8.toNat_lt _
  have hx := u8_xor_nat s[k].toNat Y hlt hY
  have hx2 : s[k].toNat ^^^ Y < 2 ^ 8 := Nat.xor_lt_two_pow (by omega) (by omega)
  refine ⟨⟨(s.data.toList.set k (UInt8.ofNat (s[k].toNat ^^^ Y))).toArray⟩, (by show (List.toArray _).size = _; rw [List.size_toArray, List.length_set]; exact hs), fun W hW => ?_⟩
  have hl : (s.data.toList.set k (UInt8.ofNat (s[k].toNat ^^^ Y))).length = s.size := by simp
  have := run_convert_bytes_back (P := Tryd.prog) W 32 9 5 ⟨g, 0, none⟩ cap (s.data.toList.set k (UInt8.ofNat (s[k].toNat ^^^ Y))) Tryd.underlying32 Tryd.underlying5 Tryd.underlying9 (fun j hj => by
    rw [add_lit', Nat.zero_add, hW, cell_set _ _ _ _ (by rw [(hrow k hk).1]; rfl)]
    by_cases hjk : k = j
    · subst hjk
      rw [if_pos rfl, hx]
      simp [Nat.mod_eq_of_lt hx2, Nat.mod_eq_of_lt hY]
    · rw [if_neg (by simp [hjk]), (hrow j (by omega)).1]
      simp [List.getElem_set, hjk]
      rfl)
  rw [hl] at this
  exact this
set_option maxHeartbeats 1000000 in
set_option maxRecDepth 100000 in
theorem termReads_calls (s : ByteArray) (t : Tm) (x y : Int) (B : Nat) (w : World) (ok : Nat → Prop) (ut : List Value) (hrt : D.rdRow w ok t.enc ut) (henv : Env2 B w) (wt : t.wf) (lt : t.low) (hs : s.size ≤ 140737488355328) (hx : -9223372036854775808 ≤ x ∧ x ≤ 9223372036854775807) (hy : 0 ≤ y ∧ y ≤ 255) :
    Calls Tryd.prog 3 #[.string s, .agg ut.toArray, .int .i64 x, .int .u8 y] w (Tells w (.bool true)) := by
  have hBw := henv.env.1
  have hrt1 := D.rdRow_ext hrt (ext_alloc (Below.refl w.heap.size w) (.cells ut.toArray 28))
  have hK0 : TrK w B w.heap.size t ut (w.alloc (.cells ut.toArray 28)) := ⟨ext_alloc (Below.refl _ _) _, henv.ext (ext_alloc (Below.refl _ _) _), hBw, by simp, Blk.new _ _ _, D.rdRow_mono (fun g _ => ⟨trivial, rfl⟩) _ _ hrt1⟩
  have hgr : ∀ W g, TrK w B w.heap.size t ut W → Blk W g ut.toArray 28 → Calls Tryd.prog 5 #[.slice none 0 0, .slice (some ⟨g, 0, none⟩) 1 1] W (GreatPost W [t]) := by
    intro W g hK hb
    obtain ⟨k1, n1, g1, d1, s1⟩ := t
    obtain ⟨dA, dc, kA, kc, rfl, _, _⟩ := Tm.open hrt
    exact great_calls [] _ W (fun _ => True) (fun _ => True) _ _ (D.rd_nil _ _) (rd_blk (n := 1) hb rfl rfl (by decide) trivial (rdCells_cons (xs := []) rfl hK.rd rdCells_nil)) ⟨lt, trivial⟩
  have HK0 := Lib.hid hK0
  have HGR := Lib.hid hgr
  clear hK0 hrt1 hgr henv
  obtain ⟨k1, n1, g1, d1, s1⟩ := t
  obtain ⟨dA, dc, kA, kc, rfl, _, _⟩ := Tm.open hrt
  have HWT := Lib.hid wt
  have HLT := Lib.hid lt
  clear hrt wt lt
  generalize hT : Tm.mk k1 n1 g1 d1 s1 = t at *
  clear hT
  have HKX : Hid (∀ W W', TrK w B w.heap.size t [.int .u8 k1, .string n1, .bool g1, .slice dA d1.length dc, .slice kA s1.length kc] W → Below W.heap.size W W' → TrK w B w.heap.size t [.int .u8 k1, .string n1, .bool g1, .slice dA d1.length dc, .slice kA s1.length kc] W') := Lib.hid fun W W' h hb => h.ext hb
  have HKF : Hid (∀ W, TrK w B w.heap.size t [.int .u8 k1, .string n1, .bool g1, .slice dA d1.length dc, .slice kA s1.length kc] W → (W.cell? ⟨w.heap.size, 0, none⟩ = some (.int .u8 k1) ∧ W.cell? ⟨w.heap.size, 1, none⟩ = some (.string n1) ∧ W.cell? ⟨w.heap.size, 2, none⟩ = some (.bool g1) ∧ W.cell? ⟨w.heap.size, 3, none⟩ = some (.slice dA d1.length dc) ∧ W.cell? ⟨w.heap.size, 4, none⟩ = some (.slice kA s1.length kc)) ∧ w.heap.size < W.heap.size) := Lib.hid fun W h => ⟨(Blk.c5 h.bx).1, h.bx.lt⟩
  have HAW : Hid (∀ W, TrK w B w.heap.size t [.int .u8 k1, .string n1, .bool g1, .slice dA d1.length dc, .slice kA s1.length kc] W → Calls Tryd.prog 6 #[] W (Tells W (.bool true))) := Lib.hid fun W h => awake_calls B W h.env.env
  have HKB : Hid (∀ W, TrK w B w.heap.size t [.int .u8 k1, .string n1, .bool g1, .slice dA d1.length dc, .slice kA s1.length kc] W → Below w.heap.size w W) := Lib.hid fun W h => h.low
  have HKE : Hid (∀ W, TrK w B w.heap.size t [.int .u8 k1, .string n1, .bool g1, .slice dA d1.length dc, .slice kA s1.length kc] W → Env2 B W ∧ B ≤ W.heap.size) := Lib.hid fun W h => ⟨h.env, Nat.le_trans h.hB h.hN⟩
  have HKR : Hid (∀ W, TrK w B w.heap.size t [.int .u8 k1, .string n1, .bool g1, .slice dA d1.length dc, .slice kA s1.length kc] W → D.rdRow W (fun _ => True) t.enc [.int .u8 k1, .string n1, .bool g1, .slice dA d1.length dc, .slice kA s1.length kc]) := Lib.hid fun W h => h.rd
  have HGR2 : Hid (∀ W g, TrK w B w.heap.size t [.int .u8 k1, .string n1, .bool g1, .slice dA d1.length dc, .slice kA s1.length kc] W → Blk W g #[.int .u8 k1, .string n1, .bool g1, .slice dA d1.length dc, .slice kA s1.length kc] 28 → Calls Tryd.prog 5 #[.slice none 0 0, .slice (some ⟨g, 0, none⟩) 1 1] W (GreatPost W [t])) := HGR
  clear HGR
  generalize TrK w B w.heap.size t [.int .u8 k1, .string n1, .bool g1, .slice dA d1.length dc, .slice kA s1.length kc] = K at *
  go_enter Tryd.func3, Tryd.ntmps3
  go_wp2_with fail
  have HK0a := Lib.hid (HKX.out _ _ HK0.out (ext_alloc (Below.refl _ _) (.cells #[.int .u8 k1, .string n1, .bool g1, .slice dA d1.length dc, .slice kA s1.length kc] 28)))
  refine (HGR2.out _ _ HK0a.out (Blk.new' _ _ _ (by simp))).mono ?_
  rintro e w2 ⟨hb2, (rfl | ⟨rfl, hp⟩)⟩
  · have HK2 := Lib.hid (HKX.out _ _ HK0a.out hb2)
    clear hb2 HK0 HK0a
    dsimp only
    go_wp2_with fail
    refine (HAW.out _ HK2.out).mono ?_
    rintro e w3 ⟨rfl, hb3⟩
    have HK3 := Lib.hid (HKX.out _ _ HK2.out hb3)
    clear hb3
    dsimp only
    go_wp2_with fail
    go_ret
    exact ⟨rfl, HKB.out _ HK3.out⟩
  · have HK2 := Lib.hid (HKX.out _ _ HK0a.out hb2)
    have HP := Lib.hid hp
    clear hb2 hp HK0 HK0a
    dsimp only
    by_cases hlen : 3000 < s.size
    · have l1 : (3000 : Int) < s.size := by omega
      go_wp2_with fail
      refine (HAW.out _ HK2.out).mono ?_
      rintro e w3 ⟨rfl, hb3⟩
      have HK3 := Lib.hid (HKX.out _ _ HK2.out hb3)
      clear hb3
      dsimp only
      go_wp2_with fail
      go_ret
      exact ⟨rfl, HKB.out _ HK3.out⟩
    · have l1 : ¬ (3000 : Int) < s.size := by omega
      obtain ⟨⟨a0, a1, a2, a3, a4⟩, z1⟩ := HKF.out _ HK2.out
      go_wp2_with fail
      have hps := HP.out
      simp only [Tm.partss] at hps
      have hkb := key_bound t HWT.out HLT.out
      refine (key_calls t B w2 (fun _ => True) _ (HKR.out _ HK2.out) (HKE.out _ HK2.out).1.env HWT.out (fits_of_parts' t HLT.out (by omega)).1 (by omega)).mono ?_
      rintro e w3 ⟨rfl, hb3⟩
      have HK3 := Lib.hid (HKX.out _ _ HK2.out hb3)
      clear hb3 a0 a1 a2 a3 a4 z1
      have hky : 0 < t.key.length := key_pos t
      obtain ⟨ky, hkyd⟩ : ∃ ky : ByteArray, ky = ⟨t.key.toArray⟩ := ⟨_, rfl⟩
      have hkz : ky.size = t.key.length := by rw [hkyd]; simp [ByteArray.size]
      have hkz1 : ky.size ≤ 300000 := by omega
      have hkz2 : 0 < ky.size := by omega
      rw [← hkyd]
      clear hkyd hkz hky hkb hps
      obtain ⟨w4, cap, hcv, hb4, hrow⟩ := bytes_row w3 ky
      have HK4 := Lib.hid (HKX.out _ _ HK3.out hb4)
      have HB4 := Lib.hid hb4
      have HROW := Lib.hid hrow
      have hk0 : ((ky.size : Int) == 0) = false := beq_eq_false_iff_ne.2 (by omega)
      have hz4 := hb4.size
      clear hb4 hrow
      dsimp only
      go_wp2_with fail
      refine (pick_calls x ky.size w4 hx (by omega) (by omega)).mono ?_
      rintro e w5 ⟨k, hk, rfl, rfl⟩
      obtain ⟨hc, hf⟩ := HROW.out k hk
      have q0 : (0 : Int) ≤ k := by omega
      have q1 : (k : Int) < ky.size := by omega
      dsimp only
      go_wp2_with fail
      obtain ⟨od, hod, hcv2⟩ := bytes_turn w5 ky w3.heap.size k cap y HROW.out hk hy
      obtain ⟨w6, hw6⟩ : ∃ w6, w6 = w5.setCell ⟨w3.heap.size, k, none⟩ (.int .u8 (bits .xor .u8 (ky[k].toNat : Int) y)) := ⟨_, rfl⟩
      have hb6 : Below w3.heap.size w3 w6 := by
        rw [hw6]
        exact HB4.out.setCell (by show w3.heap.size ≤ w3.heap.size; omega) _
      have HK6 := Lib.hid (HKX.out _ _ HK3.out hb6)
      rw [← hw6] at hcv2 ⊢
      have hcv3 := hcv2 w6.drew (fun _ => rfl)
      obtain ⟨sm, hsm, hadd⟩ := add_text (P := Tryd.prog) _ _ ky s rfl rfl (by simp; omega)
      have hsm2 : sm.size = ky.size + s.size := by
        have := congrArg List.length hsm
        simpa using this
      clear hcv hcv2 hw6 hb6 HB4 HROW hc hf hsm
      have q2 : (k : Int) ≤ ky.size := by omega
      refine still_begin 10 (by kernel_rfl) (by kernel_rfl) (fun lq Qq HLq HQq => ?_)
      refine StillAt.take' (i := 0) (v := ?_) (a' := ?_) HLq rfl (by rfl) ?_ ?_ ?_
      rotate_left 2
      · go_simp
        all_goals (with_reducible rfl)
      · simp only [Act.put, List.setIfInBounds_toArray, List.set_cons_zero, List.set_cons_succ]
        rfl
      refine StillAt.take' (i := 1) (v := ?_) (a' := ?_) HLq rfl (by rfl) ?_ ?_ ?_
      rotate_left 2
      · go_simp
        all_goals (with_reducible rfl)
      · simp only [Act.put, List.setIfInBounds_toArray, List.set_cons_zero, List.set_cons_succ]
        rfl
      refine StillAt.take' (i := 2) (v := ?_) (a' := ?_) HLq rfl (by rfl) ?_ ?_ ?_
      rotate_left 2
      · go_simp
        all_goals (with_reducible rfl)
      · simp only [Act.put, List.setIfInBounds_toArray, List.set_cons_zero, List.set_cons_succ]
        rfl
      refine StillAt.take' (i := 3) (v := ?_) (a' := ?_) HLq rfl (by rfl) ?_ ?_ ?_
      rotate_left 2
      · go_simp
        all_goals (with_reducible rfl)
      · simp only [Act.put, List.setIfInBounds_toArray, List.set_cons_zero, List.set_cons_succ]
        rfl
      refine StillAt.take' (i := 4) (v := ?_) (a' := ?_) HLq rfl (by rfl) ?_ ?_ ?_
      rotate_left 2
      · go_simp
        all_goals (with_reducible rfl)
      · simp only [Act.put, List.setIfInBounds_toArray, List.set_cons_zero, List.set_cons_succ]
        rfl
      refine StillAt.take' (i := 5) (v := ?_) (a' := ?_) HLq rfl (by rfl) ?_ ?_ ?_
      rotate_left 2
      · go_simp
        all_goals (with_reducible rfl)
      · simp only [Act.put, List.setIfInBounds_toArray, List.set_cons_zero, List.set_cons_succ]
        rfl
      refine StillAt.take' (i := 6) (v := ?_) (a' := ?_) HLq rfl (by rfl) ?_ ?_ ?_
      rotate_left 2
      · go_simp
        all_goals (with_reducible rfl)
      · simp only [Act.put, List.setIfInBounds_toArray, List.set_cons_zero, List.set_cons_succ]
        rfl
      refine StillAt.take' (i := 7) (v := ?_) (a' := ?_) HLq rfl (by rfl) ?_ ?_ ?_
      rotate_left 2
      · go_simp
        all_goals (with_reducible rfl)
      · simp only [Act.put, List.setIfInBounds_toArray, List.set_cons_zero, List.set_cons_succ]
        rfl
      refine StillAt.take' (i := 8) (v := ?_) (a' := ?_) HLq rfl (by rfl) ?_ ?_ ?_
      rotate_left 2
      · go_simp
        all_goals (with_reducible rfl)
      · simp only [Act.put, List.setIfInBounds_toArray, List.set_cons_zero, List.set_cons_succ]
        rfl
      refine StillAt.take' (i := 9) (v := ?_) (a' := ?_) HLq rfl (by rfl) ?_ ?_ ?_
      rotate_left 2
      · go_simp
        all_goals (with_reducible rfl)
      · simp only [Act.put, List.setIfInBounds_toArray, List.set_cons_zero, List.set_cons_succ]
        rfl
      refine StillAt.done' HLq rfl ?_
      refine HQq.out _ ?_
      clear HQq HLq Qq lq
      simp only [List.drop_succ_cons, List.drop_zero]
      go_wp2_with fail
      have HK7 := Lib.hid (HKX.out _ _ HK6.out (ext_alloc (Below.refl w6.heap.size w6) (.cells #[.string s, .string ky, .string od, .string (ky.extract 0 k), .string sm] 9)).drew)
      have X7 := Lib.hid (Blk.new w6 #[.string s, .string ky, .string od, .string (ky.extract 0 k), .string sm] 9).drew
      have hex : (ky.extract 0 k).size ≤ 300000 := by simp only [ByteArray.size_extract]; omega
      generalize ky.extract 0 k = pre at *
      have htx : ∀ i : Nat, i < 5 → ∃ tx : ByteArray, tx.size ≤ 900000 ∧ ∀ W, Blk W w6.heap.size #[.string s, .string ky, .string od, .string pre, .string sm] 9 → W.cell? ⟨w6.heap.size, i, none⟩ = some (.string tx) := by
        intro i hi
        match i, hi with
        | 0, _ => exact ⟨s, by omega, fun W h => h.cell 0⟩
        | 1, _ => exact ⟨ky, by omega, fun W h => h.cell 1⟩
        | 2, _ => exact ⟨od, by omega, fun W h => h.cell 2⟩
        | 3, _ => exact ⟨pre, by omega, fun W h => h.cell 3⟩
        | 4, _ => exact ⟨sm, by omega, fun W h => h.cell 4⟩
        | n + 5, h => omega
      have HTX := Lib.hid htx
      clear htx hcv3 hadd q2 hex hsm2 hod
      go_loopw [13] (fun i wr => ∃ j : Nat, j ≤ 5 ∧ i = .int .i64 j ∧ Hid (K wr) ∧ Hid (Blk wr w6.heap.size #[.string s, .string ky, .string od, .string pre, .string sm] 9)) (fun i _ => 5 - (RowKit.intOf i).toNat)
      case atStart => exact ⟨0, by omega, rfl, HK7, X7⟩
      case round =>
        obtain ⟨j, hj, rfl, HK, HX⟩ := hrel
        rename World => wl
        by_cases hlt : j < 5
        · obtain ⟨tx, htz, htc⟩ := HTX.out j hlt
          have c1 := htc _ HX.out
          have HTC := Lib.hid htc
          have j1 : (0 : Int) ≤ j := by omega
          have j2 : (j : Int) < 5 := by omega
          clear htc
          go_wp2_with fail
          refine (termOf_reads B tx _ htz (HKE.out _ HK.out).1 (HKE.out _ HK.out).2).mono ?_
          intro e w8 h8
          obtain ⟨hb8, kd, nm, ng, eA, en, ec, mA, mn, mc, rfl, hr8⟩ := h8.tells
          generalize hu : (ofS tx).getD Tm.zero = u at hr8
          generalize ho : (ofS tx).isSome = o
          have HK8 := Lib.hid (HKX.out _ _ HK.out hb8)
          have HX8 := Lib.hid (HX.out.ext hb8)
          have HR8 := Lib.hid hr8
          have c2 := HTC.out _ HX8.out
          have z8 := hb8.size
          have hx8 := HX8.out.lt
          clear hb8 hr8 h8 c1
          dsimp only
          go_wp2_with fail
          have HK8a := Lib.hid (HKX.out _ _ HK8.out (ext_alloc (Below.refl w8.heap.size w8) (.cells #[.int .u8 kd, .string nm, .bool ng, .slice eA en ec, .slice mA mn mc] 28)))
          refine (refOf_reads B tx _ htz (HKE.out _ HK8a.out).1 (HKE.out _ HK8a.out).2).mono ?_
          intro e w9 h9
          obtain ⟨hb9, kd2, nm2, ng2, eA2, en2, ec2, mA2, mn2, mc2, rfl, hr9⟩ := h9.tells
          rw [hu] at hr9
          rw [ho]
          have HK9 := Lib.hid (HKX.out _ _ HK8a.out hb9)
          have HX9 := Lib.hid ((HX8.out.alloc (.cells #[.int .u8 kd, .string nm, .bool ng, .slice eA en ec, .slice mA mn mc] 28)).ext hb9)
          have HR9 := Lib.hid hr9
          have HR8b := Lib.hid (D.rdRow_ext (D.rdRow_ext HR8.out (ext_alloc (Below.refl w8.heap.size w8) (.cells #[.int .u8 kd, .string nm, .bool ng, .slice eA en ec, .slice mA mn mc] 28))) hb9)
          have HB9 := Lib.hid ((Blk.new w8 #[.int .u8 kd, .string nm, .bool ng, .slice eA en ec, .slice mA mn mc] 28).ext hb9)
          obtain ⟨⟨x0, x1, x2, x3, x4⟩, y0, y1, y2, y3, y4⟩ := Blk.c5 HB9.out
          have hx9 := HB9.out.lt
          have hoo : (o != o) = false := by simp
          clear hb9 hr9 h9 c2 hu ho HR8 HX8 HK8
          dsimp only
          go_wp2_with fail
          have HK9a := Lib.hid (HKX.out _ _ HK9.out (ext_alloc (Below.refl w9.heap.size w9) (.cells #[.int .u8 kd2, .string nm2, .bool ng2, .slice eA2 en2 ec2, .slice mA2 mn2 mc2] 28)))
          have HX9a := Lib.hid (HX9.out.alloc (.cells #[.int .u8 kd2, .string nm2, .bool ng2, .slice eA2 en2 ec2, .slice mA2 mn2 mc2] 28))
          refine (sameTerm_calls u u _ (fun _ => True) (fun _ => True) _ _ (D.rdRow_ext HR8b.out (ext_alloc (Below.refl w9.heap.size w9) (.cells #[.int .u8 kd2, .string nm2, .bool ng2, .slice eA2 en2 ec2, .slice mA2 mn2 mc2] 28))) (D.rdRow_ext HR9.out (ext_alloc (Below.refl w9.heap.size w9) (.cells #[.int .u8 kd2, .string nm2, .bool ng2, .slice eA2 en2 ec2, .slice mA2 mn2 mc2] 28)))).mono ?_
          rintro e w10 ⟨rfl, hb10⟩
          have HK10 := Lib.hid (HKX.out _ _ HK9a.out hb10)
          have HX10 := Lib.hid (HX9a.out.ext hb10)
          rw [decide_eq_true rfl]
          clear hb10 x0 x1 x2 x3 x4 y0 y1 y2 y3 y4
          dsimp only
          go_wp2_with fail
          go_roundw
          case rel => exact ⟨j + 1, by omega, by go_num, HK10, HX10⟩
          case measure => simp [RowKit.intOf]; omega
        · have j1 : ¬ (j : Int) < 5 := by omega
          go_wp2_with fail
          refine (HAW.out _ HK.out).mono ?_
          rintro e w8 ⟨rfl, hb8⟩
          have HK8 := Lib.hid (HKX.out _ _ HK.out hb8)
          clear hb8
          dsimp only
          go_wp2_with fail
          go_ret
          exact ⟨rfl, HKB.out _ HK8.out⟩
end Wh
