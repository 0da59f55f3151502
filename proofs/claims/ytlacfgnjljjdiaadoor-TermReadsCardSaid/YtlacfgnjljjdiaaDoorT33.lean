import Derived.Test.YtlacfgnjljjdiaaDoorT32
set_option linter.unusedVariables false
set_option linter.unusedSimpArgs false
open Go Go.RowKit Go.Proofs
namespace Wh
def zeroCells : Array Value := #[.int .u8 0, .string ⟨#[]⟩, .bool false, .slice none 0 0, .slice none 0 0]
/-- As a term is read: what is left of the text; the result's own block. -/
structure RS (B : Nat) (w W : World) (b : Nat) (s : ByteArray) : Prop where
  hg : w.grownBy W (some b)
  rd : Rd W b s
  zero : Blk W w.heap.size zeroCells 28
  env : Env2 B W
theorem grown_B {w w' : World} {b B : Nat} (h : w.grownBy w' (some b)) (hB : B ≤ b) (hs : B ≤ w.heap.size) : Below B w w' := ⟨h.os, h.tape, h.output, h.size, fun g hg => h.block g (by omega) (by simp; omega)⟩
theorem RS.ext {B : Nat} {w W W' : World} {b : Nat} {s : ByteArray} (h : RS B w W b s) (hb : Below W.heap.size W W') : RS B w W' b s := ⟨grown_below h.hg hb h.hg.size, Blk.ext h.rd hb, h.zero.ext hb, h.env.ext hb⟩
theorem RS.next {B : Nat} {w W W' : World} {b : Nat} {s y : ByteArray} (h : RS B w W b s) (hg : W.grownBy W' (some b)) (hr : Rd W' b y) (hbw : b < w.heap.size) (hB : B ≤ b) : RS B w W' b y :=
  ⟨grown_by h.hg hg (fun k hk => .inl hk.symm), hr, h.zero.grown hg (by simp; omega), h.env.below (grown_B hg hB h.env.env.1)⟩
theorem RS.set {B : Nat} {w W : World} {b : Nat} {s : ByteArray} (h : RS B w W b s) {T i : Nat} {u : Value} (hT : w.heap.size < T) (hbw : b < w.heap.size) (hB : B ≤ b) : RS B w (W.setCell ⟨T, i, none⟩ u) b s :=
  ⟨grown_set h.hg (.inr (by show w.heap.size ≤ T; omega)) _, Blk.other h.rd (by show b ≠ T; omega) _, h.zero.other (by show w.heap.size ≠ T; omega) _, h.env.below (Below.setCell (Below.refl _ _) (by show B ≤ T; omega) _)⟩
theorem RS.row {B : Nat} {w W W' : World} {b : Nat} {s : ByteArray} {row : Option Nat} (h : RS B w W b s) (hg : W.grownBy W' row) (hrow : ∀ g, row = some g → w.heap.size < g) (hbw : b < w.heap.size) (hB : B ≤ b) : RS B w W' b s := by
  have hne : ∀ k, k ≤ w.heap.size → some k ≠ row := fun k hk e => by
    have := hrow k e.symm
    omega
  exact ⟨grown_by h.hg hg (fun k hk => .inr (by have := hrow k hk; omega)), Blk.grown h.rd hg (hne b (by omega)), h.zero.grown hg (hne _ (Nat.le_refl _)), h.env.below ⟨hg.os, hg.tape, hg.output, hg.size, fun g hgl => hg.block g (by have := h.hg.size; omega) (hne g (by omega))⟩⟩
theorem MadeCells.next2 {wr w2 wa w3 : World} {B b e sz k : Nat} {v v' : Value} {es : List (List D)} {d : List D} {xs us : List Value} (hb : wr.grownBy w2 (some b)) (hbB : b < B) (ha : Below w2.heap.size w2 wa) (hg : wa.grownBy w3 v.ownBlock)
    (hown : wr.ownsRow B e sz v k xs) (hat : v'.ownBlock = v.ownBlock ∨ v'.ownBlock = some wa.heap.size) (hcells : MadeCells wr (fun g => B ≤ g ∧ v.ownBlock ≠ some g) sz es xs) (hus : us.length = sz) (hr : MadeRow w2 (fun g => wr.heap.size ≤ g) d us) (hB : B ≤ wr.heap.size) :
    MadeCells w3 (fun g => B ≤ g ∧ v'.ownBlock ≠ some g) sz (es ++ [d]) (xs ++ us) := by
  have hz2 := hb.size
  have hza := ha.size
  have hvl : ∀ g, v.ownBlock = some g → g < wr.heap.size := fun g hg => (hown.lt g hg).2
  have hne : ∀ g, g < w2.heap.size → v.ownBlock ≠ some g → v'.ownBlock ≠ some g := by
    intro g hg hn hc
    rcases hat with h | h
    · exact hn (h ▸ hc)
    · rw [h] at hc
      simp at hc
      omega
  refine MadeCells.snoc (N := wr.heap.size) hus ?_ ?_
  · have hn : ∀ g, wr.heap.size ≤ g → v.ownBlock ≠ some g := by
      intro g hg' hc
      have := hvl g hc
      omega
    exact hr.keep (fun g hg' hl => ⟨⟨⟨by omega, hne g hl (hn g hg')⟩, hg'⟩, by rw [hg.block g (by omega) (Ne.symm (hn g hg')), ha.block g hl]⟩)
  · exact hcells.keep (fun g hg' hl => ⟨⟨⟨hg'.1, hne g (by omega) hg'.2⟩, hl⟩, by rw [hg.block g (by omega) (Ne.symm hg'.2), ha.block g (by omega), hb.block g hl (by simp; omega)]⟩)
def strLen : Value → Nat
  | .string s => s.size
  | _ => 0
theorem rdDigits_nil {F : Nat} {s : ByteArray} (h : s.size = 0) : rdDigits (F + 1) s = some [] := by simp [rdDigits, h]
theorem str_empty {s : ByteArray} (h : s.size = 0) : s = ⟨#[]⟩ := by
  obtain ⟨d⟩ := s
  have : d = #[] := by simpa [ByteArray.size] using h
  rw [this]
theorem trimD_size (s : ByteArray) : (trimD s).size ≤ s.size := by
  unfold trimD Lib.trimPrefix
  have : s.data.toList.length = s.size := by simp
  split
  · simp only [ByteArray.size, List.size_toArray, List.length_drop]
    simp
  · simp
theorem empty_no {s : ByteArray} (h : s.size ≠ 0) : (s.toList == []) = false := by
  rw [beq_eq_false_iff_ne]
  intro e
  rw [ByteArray.toList_eq] at e
  have : s.data.toList.length = 0 := by rw [e]; rfl
  exact h (by simpa using this)
theorem cutS_of {s x y : ByteArray} {c : UInt8} {f : Bool} (h : cutS s c = (x, y, f)) : cutO s c = if f = true then some (x, y) else none := by unfold cutO; rw [h]
theorem kidsO_size {f : ByteArray → Option (Tm × ByteArray)} (hf : ∀ s p, f s = some p → p.2.size < s.size) : ∀ (m : Nat) (s : ByteArray) (q : List Tm × ByteArray), kidsO f m s = some q → q.2.size ≤ s.size
  | 0, s, q, h => by
    simp only [kidsO, Option.some.injEq] at h
    subst h
    exact Nat.le_refl _
  | m + 1, s, q, h => by
    simp only [kidsO, Option.bind_eq_some_iff, Option.map_eq_some_iff] at h
    obtain ⟨p, hp, r, hr, rfl⟩ := h
    have h1 := hf s p hp
    have h2 := kidsO_size hf m p.2 r hr
    show r.2.size ≤ s.size
    omega
theorem rdTerm_size : ∀ (F : Nat) (s : ByteArray) (p : Tm × ByteArray), rdTerm F s = some p → p.2.size < s.size
  | 0, s, p, h => by simp [rdTerm] at h
  | F + 1, s, p, h => by
    simp only [rdTerm, Option.bind_eq_some_iff, Option.map_eq_some_iff] at h
    obtain ⟨a, ha, b, hb, k, _, n, _, c, hc, d, hd, ds, _, e, he, m, _, q, hq, rfl⟩ := h
    have h1 := cutO_size ha
    have h2 := cutO_size hb
    have h3 := nameO_size hc
    have h4 := cutO_size hd
    have h5 := cutO_size he
    have h6 := kidsO_size (rdTerm_size F) m e.2 q hq
    show q.2.size < s.size
    omega
def RtAt (F : Nat) : Prop := ∀ (B : Nat) (s : ByteArray) (w : World) (b : Nat), s.size < F → s.size ≤ 900000 → Rd w b s → Env2 B w → B ≤ b → Calls Tryd.prog 28 #[.pointer (some ⟨b, 0, none⟩)] w (RtermPost w b (rdTerm F s))
set_option maxHeartbeats 4000000 in
set_option maxRecDepth 100000 in
theorem rterm_step (F : Nat) (ih : RtAt F) : RtAt (F + 1) := by
  intro B s w b hF hs hrd henv hBb
  have hbw := Blk.lt hrd
  have H0 : RS B w (w.alloc (.cells zeroCells 28)) b s := ⟨grown_alloc (grown_refl _ _) _, Blk.alloc hrd _, Blk.new _ _ _, henv.ext (ext_alloc (Below.refl _ _) _)⟩
  have H0 := Lib.hid H0
  have HIH := Lib.hid ih
  clear ih hrd henv
  unfold zeroCells at H0
  go_enter Tryd.func28, Tryd.ntmps28
  go_wp2_with fail
  refine until_call (until_calls b s 32 _ H0.out.rd (by omega)) ?_ ?_
  · intro w' hn hg
    exact ⟨rfl, RtermPost.bad (by simp [rdTerm, hn]) (grown_by H0.out.hg hg (fun k hk => .inl hk.symm))⟩
  intro w1 kd s1 c1 hg1 hr1
  have z1 := cutO_size c1
  have H1 := Lib.hid (H0.out.next hg1 hr1 hbw hBb)
  have C1 := Lib.hid c1
  clear hg1 hr1 c1 H0
  dsimp only
  go_wp2_with fail
  refine until_call (until_calls b s1 58 _ H1.out.rd (by omega)) ?_ ?_
  · intro w' hn hg
    exact ⟨rfl, RtermPost.bad (by simp [rdTerm, C1.out, hn]) (grown_by H1.out.hg hg (fun k hk => .inl hk.symm))⟩
  intro w2 lg s2 c2 hg2 hr2
  have z2 := cutO_size c2
  have H2 := Lib.hid (H1.out.next hg2 hr2 hbw hBb)
  have C2 := Lib.hid c2
  clear hg2 hr2 c2 H1
  dsimp only
  go_wp2_with fail
  refine number_call (number_calls B kd 255 (by omega) (by omega) _ H2.out.env) ?_ ?_
  · intro w' hn hb
    exact ⟨rfl, RtermPost.bad (by simp [rdTerm, C1.out, C2.out, hn]) (H2.out.ext hb).hg⟩
  intro w3 k c3 hb3
  have hk := numOf_le c3
  have H3 := Lib.hid (H2.out.ext hb3)
  have C3 := Lib.hid c3
  have hwk : IntKind.u8.wrap (k : Int) = k := by rw [IntKind.wrap_u8]; omega
  have hz3 := H3.out.zero.lt
  clear hb3 c3 H2
  dsimp only
  go_wp2_with fail
  have H3a := Lib.hid (H3.out.ext (ext_alloc (Below.refl w3.heap.size w3) (.cells #[.int .u8 (k : Int), .string ⟨#[]⟩, .bool false, .slice none 0 0, .slice none 0 0] 28)))
  refine number_call (number_calls B lg 2147483647 (by omega) (by omega) _ H3a.out.env) ?_ ?_
  · intro w' hn hb
    exact ⟨rfl, RtermPost.bad (by simp [rdTerm, C1.out, C2.out, C3.out, hn]) (H3a.out.ext hb).hg⟩
  intro w4 n c4 hb4
  have H4 := Lib.hid (H3a.out.ext hb4)
  have X4 := Lib.hid ((Blk.new w3 #[.int .u8 (k : Int), .string ⟨#[]⟩, .bool false, .slice none 0 0, .slice none 0 0] 28).ext hb4)
  have C4 := Lib.hid c4
  clear hb4 c4 H3a H3
  dsimp only
  go_wp2_with fail
  refine name_call (rname_calls b s2 n _ H4.out.rd (by omega)) ?_ ?_
  · intro w' hn hg
    exact ⟨rfl, RtermPost.bad (by simp [rdTerm, C1.out, C2.out, C3.out, C4.out, hn]) (grown_by H4.out.hg hg (fun k hk => .inl hk.symm))⟩
  intro w5 nm s3 c5 hg5 hr5
  have z5 := nameO_size c5
  have H5 := Lib.hid (H4.out.next hg5 hr5 hbw hBb)
  have X5 := Lib.hid (X4.out.grown hg5 (by simp; omega))
  have C5 := Lib.hid c5
  have hl5 := X5.out.lt
  obtain ⟨⟨p0, p1, p2, p3, p4⟩, q0, q1, q2, q3, q4⟩ := Blk.c5 X5.out
  clear hg5 hr5 c5 H4 X4
  dsimp only
  go_wp2_with fail
  have H5a := Lib.hid (H5.out.set (T := w3.heap.size) (i := 1) (u := .string nm) (by omega) hbw hBb)
  have X5a := Lib.hid (X5.out.set 1 (.string nm))
  refine until_call (until_calls b s3 32 _ H5a.out.rd (by omega)) ?_ ?_
  · intro w' hn hg
    exact ⟨rfl, RtermPost.bad (by simp [rdTerm, C1.out, C2.out, C3.out, C4.out, C5.out, hn]) (grown_by H5a.out.hg hg (fun k hk => .inl hk.symm))⟩
  intro w6 dg s4 c6 hg6 hr6
  have z6 := cutO_size c6
  have H6 := Lib.hid (H5a.out.next hg6 hr6 hbw hBb)
  have X6 := Lib.hid (X5a.out.grown hg6 (by simp; omega))
  have C6 := Lib.hid c6
  have hl6 := X6.out.lt
  clear hg6 hr6 c6 H5a X5a H5 X5 p0 p1 p2 p3 p4 q0 q1 q2 q3 q4
  dsimp only
  go_wp2_with fail
  refine (Tryd.strings_CutPrefix dg ⟨#[45]⟩ _).mono ?_
  rintro e w' ⟨rfl, rfl⟩
  rw [show (⟨(Lib.trimPrefix dg.data.toList (⟨#[45]⟩ : ByteArray).data.toList).toArray⟩ : ByteArray) = trimD dg from rfl, show Lib.hasPrefix dg.data.toList (⟨#[45]⟩ : ByteArray).data.toList = hasD dg from rfl]
  obtain ⟨⟨p0, p1, p2, p3, p4⟩, q0, q1, q2, q3, q4⟩ := Blk.c5 X6.out
  dsimp only
  go_wp2_with fail
  have htr := trimD_size dg
  have H7 := Lib.hid (H6.out.set (T := w3.heap.size) (i := 2) (u := .bool (hasD dg)) (by omega) hbw hBb)
  have X7 := Lib.hid (X6.out.set 2 (.bool (hasD dg)))
  clear H6 X6 p0 p1 p2 p3 p4 q0 q1 q2 q3 q4
  go_loopw [6] (fun d wr => ∃ (dh : ByteArray) (ds : List Int) (A : Option Addr) (c F1 : Nat), d = .string dh ∧ Hid (RS B w wr b s4) ∧ Hid (Blk wr w3.heap.size #[.int .u8 (k : Int), .string nm, .bool (hasD dg), .slice A ds.length c, .slice none 0 0] 28) ∧ Hid (wr.ownsRow (w3.heap.size + 1) 53 1 (.slice A ds.length c) ds.length (ds.map (Value.int .u32))) ∧ dh.size < F1 ∧ ds.length + dh.size ≤ dg.size ∧ Hid (rdDigits (dg.size + 1) (trimD dg) = (rdDigits F1 dh).map fun l => ds ++ l)) (fun d _ => strLen d)
  case atStart => exact ⟨trimD dg, [], none, 0, dg.size + 1, rfl, H7, X7, World.ownsRow_nil _ _ _ _, by omega, by simpa using htr, Lib.hid (by simp)⟩
  case round =>
    obtain ⟨dh, ds, A, c, F1, rfl, HR, HX, HO, hF1, hdl, hdig⟩ := hrel
    rename World => wl
    obtain ⟨⟨p0, p1, p2, p3, p4⟩, q0, q1, q2, q3, q4⟩ := Blk.c5 HX.out
    have hxl := HX.out.lt
    by_cases h0 : dh.size = 0
    · obtain ⟨F2, rfl⟩ : ∃ F2, F1 = F2 + 1 := ⟨F1 - 1, by omega⟩
      have hds : rdDigits (dg.size + 1) (trimD dg) = some ds := by rw [hdig.out, rdDigits_nil h0]; simp
      have HDS := Lib.hid hds
      have hde := str_empty h0
      subst hde
      clear hdig hds h0
      go_wp2_with fail
      refine until_call (until_calls b s4 59 _ HR.out.rd (by omega)) ?_ ?_
      · intro w' hn hg
        exact ⟨rfl, RtermPost.bad (by simp [rdTerm, C1.out, C2.out, C3.out, C4.out, C5.out, C6.out, HDS.out, hn]) (grown_by HR.out.hg hg (fun k hk => .inl hk.symm))⟩
      intro w7 mn s5 c7 hg7 hr7
      have z7 := cutO_size c7
      have H8 := Lib.hid (HR.out.next hg7 hr7 hbw hBb)
      have X8 := Lib.hid (HX.out.grown hg7 (by simp; omega))
      have O8 := Lib.hid (World.ownsRow.kept HO.out hg7 (own_ne HO.out (by omega)))
      have C7 := Lib.hid c7
      clear hg7 hr7 c7 HR HX HO p0 p1 p2 p3 p4 q0 q1 q2 q3 q4
      dsimp only
      go_wp2_with fail
      refine number_call (number_calls B mn 2147483647 (by omega) (by omega) _ H8.out.env) ?_ ?_
      · intro w' hn hb
        exact ⟨rfl, RtermPost.bad (by simp [rdTerm, C1.out, C2.out, C3.out, C4.out, C5.out, C6.out, HDS.out, C7.out, hn]) (H8.out.ext hb).hg⟩
      intro w8 m c8 hb8
      have hm := numOf_le c8
      have H9 := Lib.hid (H8.out.ext hb8)
      have X9 := Lib.hid (X8.out.ext hb8)
      have D9 := Lib.hid (show Made w8 (fun g => w3.heap.size + 1 ≤ g ∧ g < w8.heap.size) (.ints 53 .u32 ds) (.slice A ds.length c) from (Made.of_row (ok := fun g => w3.heap.size + 1 ≤ g) (ownsRow_mono O8.out (fun g hg => hb8.block g (O8.out.lt g hg).2)) (by simp) (MadeCells.ints ds) (fun g hg => (O8.out.lt g hg).1)).keep (fun g hg hl => ⟨⟨hg, hl⟩, rfl⟩))
      have C8 := Lib.hid c8
      have hend : ∀ r, kidsO (rdTerm F) m s5 = r → rdTerm (F + 1) s = r.map fun q => (Tm.mk k nm (hasD dg) ds q.1, q.2) := by
        intro r hr
        simp [rdTerm, C1.out, C2.out, C3.out, C4.out, C5.out, C6.out, HDS.out, C7.out, C8.out, hr]
      have HEND := Lib.hid hend
      have hx9 := X9.out.lt
      clear hb8 c8 H8 X8 O8 C1 C2 C3 C4 C5 C6 C7 C8 HDS hend
      dsimp only
      go_wp2_with fail
      go_loopw [59] (fun i wr => ∃ (j : Nat) (ks : List Tm) (rest : ByteArray) (A2 : Option Addr) (c2 : Nat) (xs : List Value), j ≤ m ∧ i = .int .i64 j ∧ ks.length = j ∧ Hid (RS B w wr b rest) ∧ Hid (Blk wr w3.heap.size #[.int .u8 (k : Int), .string nm, .bool (hasD dg), .slice A ds.length c, .slice A2 j c2] 28) ∧ Hid (wr.ownsRow w8.heap.size 28 5 (.slice A2 j c2) j xs) ∧ Hid (MadeCells wr (fun g => w8.heap.size ≤ g ∧ (Value.slice A2 j c2).ownBlock ≠ some g) 5 (Tm.encs ks) xs) ∧ Hid (Made wr (fun g => w3.heap.size + 1 ≤ g ∧ g < w8.heap.size) (.ints 53 .u32 ds) (.slice A ds.length c)) ∧ rest.size + j ≤ s5.size ∧ Hid (kidsO (rdTerm F) m s5 = (kidsO (rdTerm F) (m - j) rest).map fun q => (ks ++ q.1, q.2)) ∧ w8.heap.size ≤ wr.heap.size) (fun i _ => m - (RowKit.intOf i).toNat)
      case atStart => exact ⟨0, [], s5, none, 0, [], Nat.zero_le _, rfl, rfl, H9, X9, World.ownsRow_nil _ _ _ _, MadeCells.nil _ _ _, D9, by omega, Lib.hid (by simp), Nat.le_refl _⟩
      case round =>
        obtain ⟨j, ks, rest, A2, c2, xs, hj, rfl, hkl, HR, HX, HO, HC, HD, hrs, hkids, hwz⟩ := hrel
        rename World => wl
        obtain ⟨⟨p0, p1, p2, p3, p4⟩, q0, q1, q2, q3, q4⟩ := Blk.c5 HX.out
        have hxl := HX.out.lt
        have hb8 : b < w8.heap.size := by omega
        by_cases hlt : j < m
        · have b1 : (0 : Int) ≤ j := by omega
          have b2 : (j : Int) < m := by omega
          obtain ⟨mj, hmj⟩ : ∃ mj, m - j = mj + 1 := ⟨m - j - 1, by omega⟩
          rw [hmj] at hkids
          have hcall : ∀ W, wl.grownBy W (some b) → Rd W b rest → Calls Tryd.prog 28 #[.pointer (some ⟨b, 0, none⟩)] W (RtermPost W b (rdTerm F rest)) := fun W hg hr => HIH.out B rest W b (by omega) (by omega) hr (HR.out.env.below (grown_B hg hBb HR.out.env.env.1)) hBb
          have hbad : rdTerm F rest = none → rdTerm (F + 1) s = none := by
            intro hn
            have : kidsO (rdTerm F) m s5 = none := by rw [hkids.out]; simp [kidsO, hn]
            rw [HEND.out _ this]
            rfl
          have hgood : ∀ t y, rdTerm F rest = some (t, y) → kidsO (rdTerm F) m s5 = (kidsO (rdTerm F) (m - (j + 1)) y).map fun q => ((ks ++ [t]) ++ q.1, q.2) := by
            intro t y hn
            rw [hkids.out, show m - (j + 1) = mj by omega]
            simp only [kidsO, hn, Option.bind_some, Option.map_map]
            congr 1
            funext q
            simp
          have HCALL := Lib.hid hcall
          have HBAD := Lib.hid hbad
          have HGOOD := Lib.hid hgood
          clear hcall hbad hgood hkids hmj
          go_wp2_with fail
          go_region_law (first
            | (refine step_append rfl _ _ rfl Tryd.underlying26 infoTerm rfl (by decide) (by decide) _ (.slice A2 j c2) j xs rfl (World.ownsRow.kept HO.out (grown_alloc HGN.out _) (own_ne HO.out (by omega))) _ _ rfl (Blk.new _ _ _) rfl (by simp [Value.oneCell']) (by omega) (by simp; omega) ?_; intro A3 c3 wa3 ho3 hg3 hat3; have HO3 := Lib.hid ho3; have HG3 := Lib.hid hg3; have HAT3 := Lib.hid hat3; have HX3 := Lib.hid ((HXN.out.alloc _).grown hg3 (own_ne' HO.out (by omega))); obtain ⟨⟨r0, r1, r2, r3, r4⟩, t0, t1, t2, t3, t4⟩ := Blk.c5 HX3.out; have hx3 := HX3.out.lt; have hz3 := hg3.size; clear ho3 hg3 hat3)
            | (refine step_call 28 rfl (by go_simp; rfl) ?_; refine rterm_call (HCALL.out _ (by repeat (first | (with_reducible refine grown_drew ?_) | (with_reducible exact grown_refl _ _))) (Blk.drew HR.out.rd)) ?_ ?_; (intro wn hn hgn; exact ⟨rfl, RtermPost.bad (HBAD.out hn) (grown_by (grown_drew HR.out.hg) hgn (fun k hk => .inl hk.symm))⟩); intro wn kd2 nm2 ng2 xd2 ls2 y eA ec mA mc hn2 hgn hrn hun; have HN2 := Lib.hid hn2; have HGN := Lib.hid (grown_trans (grown_drew (grown_refl wl (some b))) hgn); have HRN := Lib.hid hrn; have HUN := Lib.hid hun; have hzn := HGN.out.size; have HXN := Lib.hid (HX.out.grown HGN.out (by simp; omega)); obtain ⟨⟨s0, s1', s2', s3', s4'⟩, _⟩ := Blk.c5 HXN.out; have hxn := HXN.out.lt; clear hn2 hgn hrn hun))
          all_goals
            go_wp2_with fail
            have hys : y.size < rest.size := rdTerm_size F rest _ HN2.out
            go_roundw
            case rel =>
              refine ⟨j + 1, ks ++ [.mk kd2 nm2 ng2 xd2 ls2], y, A3, c3, _, by omega, by go_num, by simp [hkl], Lib.hid ?_, Lib.hid ?_, Lib.hid (ownsRow_setCell_below HO3.out (a := ⟨w3.heap.size, 4, none⟩) (by show w3.heap.size < w8.heap.size; omega) _), Lib.hid ?_, Lib.hid ?_, by omega, Lib.hid (HGOOD.out _ _ HN2.out), ?_⟩
              · refine RS.set (RS.row (RS.ext (RS.next HR.out HGN.out HRN.out hbw hBb) (ext_alloc (Below.refl _ _) _)) HG3.out (fun g hg => ?_) hbw hBb) (by omega) hbw hBb
                have := (HO.out.lt g hg).1
                omega
              · simpa using HX3.out.set 4 (.slice A3 (j + 1) c3)
              · rw [Tm.encs_append]
                have := MadeCells.next2 HGN.out hb8 (ext_alloc (Below.refl _ _) _) HG3.out HO.out HAT3.out HC.out rfl (HUN.out.imp (fun g hg => hg)) (by omega)
                exact this.keep (fun g hg _ => ⟨hg, Below.heap_setCell _ _ _ _ (by show g ≠ w3.heap.size; omega)⟩)
              · refine HD.out.keep (fun g hg hl => ⟨hg, ?_⟩)
                rw [Below.heap_setCell _ _ _ _ (by show g ≠ w3.heap.size; omega), HG3.out.block g (by simp; omega) (fun e => by have := (HO.out.lt g e.symm).1; omega), Below.heap_alloc _ _ _ (by omega), HGN.out.block g hl (by simp; omega)]
              · show w8.heap.size ≤ (World.setCell _ _ _).heap.size
                simp [World.setCell]
                have := HG3.out.size
                simp at this
                omega
            case measure => simp [RowKit.intOf]; omega
        · have hjm : j = m := by omega
          subst hjm
          have hres : rdTerm (F + 1) s = some (Tm.mk k nm (hasD dg) ds ks, rest) := by
            rw [HEND.out _ hkids.out]
            simp [kidsO]
          have HRES := Lib.hid hres
          obtain ⟨⟨l0, l1, l2, l3, l4⟩, f0, f1, f2, f3, f4⟩ := Blk.c5 HR.out.zero
          have hzl := HR.out.zero.lt
          have HL5 := Lib.hid (set5_blk (a := .int .u8 (k : Int)) (b := .string nm) (c := .bool (hasD dg)) (d := .slice A ds.length c) (e := .slice A2 j c2) HR.out.zero)
          clear hres hkids
          go_wp2_with fail
          have hl := Blk.c5 HL5.out
          unfold set5 at hl
          obtain ⟨⟨m0, m1, m2, m3, m4⟩, _⟩ := hl
          refine bodyPost_ret (v := .agg #[.int .u8 (k : Int), .string nm, .bool (hasD dg), .slice A ds.length c, .slice A2 j c2]) (by simp [results, Tryd.results28, go_sem, m0, m1, m2, m3, m4]) rfl ?_
          refine RtermPost.good (us := [_, _, _, _, _]) HRES.out (set5_grown HR.out.hg (Nat.le_refl _) _ _ _ _ _) ?_ ?_
          · simp only [Tm.enc]
            refine MadeRow.num _ _ (MadeRow.txt _ (MadeRow.tru _ ?_))
            refine MadeRow.cons (ok1 := fun g => w3.heap.size + 1 ≤ g ∧ g < w8.heap.size) (ok2 := fun g => w8.heap.size ≤ g) ?_ (MadeRow.one ?_) (fun g hg => by omega) (fun g hg => by omega) (fun g h1 h2 => by omega)
            · exact Made.keep HD.out (fun g hg hl => ⟨hg, set5_keep (by omega)⟩)
            · exact Made.keep (Made.of_row (ok := fun g => w8.heap.size ≤ g) HO.out (by simp [Tm.encs_eq, hkl]) HC.out (fun g hg => (HO.out.lt g hg).1)) (fun g hg hl => ⟨hg, set5_keep (by omega)⟩)
          · exact Blk.keep HR.out.rd (set5_keep (by omega))
    · have he := empty_no h0
      obtain ⟨x, y, f, hcut⟩ : ∃ x y f, cutS dh 46 = (x, y, f) := ⟨_, _, _, rfl⟩
      have hcO := cutS_of hcut
      obtain ⟨F2, rfl⟩ : ∃ F2, F1 = F2 + 1 := ⟨F1 - 1, by omega⟩
      have hcalls := strCut_calls dh 46 wl (by omega)
      rw [hcut] at hcalls
      have HCC := Lib.hid hcalls
      have HCO := Lib.hid hcO
      clear hcalls hcO hcut
      cases f with
      | false =>
        have hbad : rdTerm (F + 1) s = none := by
          have : rdDigits (dg.size + 1) (trimD dg) = none := by rw [hdig.out]; simp [rdDigits, h0, HCO.out]
          simp [rdTerm, C1.out, C2.out, C3.out, C4.out, C5.out, C6.out, this]
        have HBAD := Lib.hid hbad
        clear hbad hdig
        go_wp2_with (first
          | (go_at_call 49; refine HCC.out.mono ?_; rintro e wz ⟨rfl, nz, rfl⟩)
          | (go_at_call 29; with_reducible refine Calls.mono (must_false _ _) ?_; rintro e w' ⟨rfl, rfl⟩))
        exact ⟨rfl, RtermPost.bad HBAD.out (grown_drewN HR.out.hg _)⟩
      | true =>
        have hsz := cutO_size HCO.out
        have hnum : ∀ W, Below wl.heap.size wl W → Calls Tryd.prog 46 #[.string x, .int .u64 4294967295] W (NumPost W (numOf x.data.toList 4294967295)) := fun W hb => number_calls B x 4294967295 (by omega) (by omega) W (HR.out.env.ext hb)
        have hbad : numOf x.data.toList 4294967295 = none → rdTerm (F + 1) s = none := by
          intro hn
          have : rdDigits (dg.size + 1) (trimD dg) = none := by rw [hdig.out]; simp [rdDigits, h0, HCO.out, hn]
          simp [rdTerm, C1.out, C2.out, C3.out, C4.out, C5.out, C6.out, this]
        have hgood : ∀ n2 : Nat, numOf x.data.toList 4294967295 = some n2 → rdDigits (dg.size + 1) (trimD dg) = (rdDigits F2 y).map fun l => (ds ++ [(n2 : Int)]) ++ l := by
          intro n2 hn
          rw [hdig.out]
          simp only [rdDigits, h0, HCO.out, hn, if_false, if_true, Option.bind_some, Option.map_map]
          congr 1
          funext l
          simp
        have HNUM := Lib.hid hnum
        have HBAD := Lib.hid hbad
        have HGOOD := Lib.hid hgood
        clear hnum hbad hgood hdig
        go_wp2_with (first
          | (go_at_call 49; refine HCC.out.mono ?_; rintro e wz ⟨rfl, nz, rfl⟩)
          | (go_at_call 29; with_reducible refine Calls.mono (must_true _ _) ?_; rintro e w' ⟨rfl, rfl⟩))
        go_region_law (first
          | (refine step_append rfl _ _ rfl Tryd.underlying23 infoU32 rfl (by decide) (by decide) _ (.slice A ds.length c) ds.length (ds.map (Value.int .u32)) rfl (ownsRow_mono HO.out (fun g hg => (ext_alloc HBN.out _).block g (HO.out.lt g hg).2)) _ _ rfl (Blk.new _ _ _) rfl (by simp [Value.oneCell']) (by omega) (by simp; omega) ?_; intro A3 c3 wa3 ho3 hg3 hat3; have HO3 := Lib.hid ho3; have HG3 := Lib.hid hg3; have HX3 := Lib.hid ((HXN.out.alloc _).grown hg3 (own_ne' HO.out (by omega))); obtain ⟨⟨r0, r1, r2, r3, r4⟩, t0, t1, t2, t3, t4⟩ := Blk.c5 HX3.out; have hx3 := HX3.out.lt; clear ho3 hg3 hat3)
          | (refine step_call 46 rfl (by go_simp; rfl) ?_; refine number_call (HNUM.out _ (by repeat (first | (with_reducible refine Below.drew ?_) | (with_reducible refine below_drewN ?_ _) | (with_reducible exact Below.refl _ _)))) ?_ ?_; (intro wn hn hbn; exact ⟨rfl, RtermPost.bad (HBAD.out hn) (RS.ext HR.out (Below.trans (by repeat (first | (with_reducible refine Below.drew ?_) | (with_reducible refine below_drewN ?_ _) | (with_reducible exact Below.refl _ _))) hbn)).hg⟩); intro wn n2 hn2 hbn; have hle2 := numOf_le hn2; have hwu : IntKind.u32.wrap (n2 : Int) = n2 := (by rw [IntKind.wrap_u32]; omega); have HN2 := Lib.hid hn2; have HBN := Lib.hid (Below.trans (a := wl) (by repeat (first | (with_reducible refine Below.drew ?_) | (with_reducible refine below_drewN ?_ _) | (with_reducible exact Below.refl _ _))) hbn); have hzn := HBN.out.size; have HXN := Lib.hid (HX.out.ext HBN.out); obtain ⟨⟨s0, s1', s2', s3', s4'⟩, _⟩ := Blk.c5 HXN.out; have hxn := HXN.out.lt; clear hn2 hbn))
        all_goals
          go_wp2_with fail
          go_roundw
          case rel =>
            refine ⟨y, ds ++ [(n2 : Int)], A3, c3, F2, rfl, Lib.hid ?_, Lib.hid ?_, Lib.hid ?_, by omega, by simp; omega, Lib.hid (HGOOD.out n2 HN2.out)⟩
            · refine RS.set (RS.row (RS.ext HR.out (ext_alloc HBN.out _)) HG3.out (fun g hg => ?_) hbw hBb) (by omega) hbw hBb
              have := (HO.out.lt g hg).1
              omega
            · simpa using HX3.out.set 3 (.slice A3 (ds.length + 1) c3)
            · have := ownsRow_setCell_below HO3.out (a := ⟨w3.heap.size, 3, none⟩) (by show w3.heap.size < w3.heap.size + 1; omega) (.slice A3 (ds.length + 1) c3)
              simpa using this
          case measure => simp [strLen]; omega
theorem rterm_calls : ∀ F, RtAt F
  | 0 => fun B s w b h => absurd h (by omega)
  | F + 1 => rterm_step F (rterm_calls F)
end Wh
