import Derived.Test.YtlacfgnjljjdiaaDoorT3
import Derived.Deep.RegionHeld3
import Derived.Deep.DeepCutAuto
set_option linter.unusedVariables false
set_option linter.unusedSimpArgs false
open Go Go.RowKit Go.Proofs
namespace Wh
/-- The closure of a maker that puts terms for names. -/
def putFn (bn bl bt : Nat) : Value := .func (.func 54) #[] #[.pointer (some ⟨bn, 0, none⟩), .pointer (some ⟨bl, 0, none⟩), .pointer (some ⟨bt, 0, none⟩)]
/-- The world that 'names' leaves. -/
def madeW (w : World) (l : List ByteArray) (ts : List Tm) (lA tA : Option Addr) (lc tc : Nat) (n : Int) : World :=
  (((w.alloc (.cells #[.slice lA l.length lc] 34)).alloc (.cells #[.slice tA ts.length tc] 26)).alloc (.cells #[.int .i64 n] 3)).alloc (.cells #[.int .i64 0, putFn (w.heap.size + 1 + 1) w.heap.size (w.heap.size + 1)] 109)
theorem madeW_env {w : World} {l : List ByteArray} {ts : List Tm} {lA tA : Option Addr} {lc tc : Nat} {n : Int} (hn : n = ((min l.length ts.length : Nat) : Int)) (hl : D.rd w (fun _ => True) (.strs 9 l) (.slice lA l.length lc)) (ht : D.rd w (fun _ => True) (.row 28 5 (Tm.encs ts)) (.slice tA ts.length tc)) :
    Blk (madeW w l ts lA tA lc tc n) (w.heap.size + 1 + 1 + 1) #[.int .i64 0, putFn (w.heap.size + 1 + 1) w.heap.size (w.heap.size + 1)] 109 ∧ PutEnv (madeW w l ts lA tA lc tc n) (w.heap.size + 1 + 1 + 1) (w.heap.size + 1 + 1) w.heap.size (w.heap.size + 1) l ts ∧ Below w.heap.size w (madeW w l ts lA tA lc tc n) := by
  subst hn
  have hb : Below w.heap.size w (madeW w l ts lA tA lc tc ((min l.length ts.length : Nat) : Int)) := ext_alloc (ext_alloc (ext_alloc (ext_alloc (Below.refl _ _) _) _) _) _
  refine ⟨Blk.new' _ _ _ (by simp), ⟨by omega, by omega, by omega, (Blk.new' _ _ _ (by simp)).alloc _, lA, lc, tA, tc, (((Blk.new _ _ _).alloc _).alloc _).alloc _, ((Blk.new' _ _ _ (by simp)).alloc _).alloc _, ?_, ?_⟩, hb⟩
  · exact D.rd_keep hl (fun g _ hg => ⟨by omega, hb.block g hg⟩)
  · exact D.rd_keep ht (fun g _ hg => ⟨by omega, hb.block g hg⟩)
def NamesPost (w : World) (l : List ByteArray) (ts : List Tm) (e : Ending) (w' : World) : Prop := ∃ bm bn bl bt, e = .returned (.pointer (some ⟨bm, 0, none⟩)) ∧ w.heap.size ≤ bm ∧ Blk w' bm #[.int .i64 0, putFn bn bl bt] 109 ∧ PutEnv w' bm bn bl bt l ts ∧ Below w.heap.size w w'
theorem names_calls (w : World) (l : List ByteArray) (ts : List Tm) (lA tA : Option Addr) (lc tc : Nat) (hl : D.rd w (fun _ => True) (.strs 9 l) (.slice lA l.length lc)) (ht : D.rd w (fun _ => True) (.row 28 5 (Tm.encs ts)) (.slice tA ts.length tc)) :
    Calls Tryd.prog 34 #[.slice lA l.length lc, .slice tA ts.length tc] w (NamesPost w l ts) := by
  have hmf : ∀ (fn : Fn) (first cap : Array Value) (w : World), (Instr.makeFunc fn first cap).run Tryd.prog w = .ok (.func fn first cap) w := fun _ _ _ _ => rfl
  have HL := Lib.hid hl
  have HT := Lib.hid ht
  clear hl ht
  go_enter Tryd.func34, Tryd.ntmps34
  go_wp2_with fail
  · obtain ⟨h1, h2, h3⟩ := madeW_env (n := (ts.length : Int)) (lc := lc) (tc := tc) (by omega) HL.out HT.out
    exact bodyPost_ret (results_tmp rfl _ _ _) rfl ⟨_, _, _, _, rfl, by omega, h1, h2, h3⟩
  · obtain ⟨h1, h2, h3⟩ := madeW_env (n := (l.length : Int)) (lc := lc) (tc := tc) (by omega) HL.out HT.out
    exact bodyPost_ret (results_tmp rfl _ _ _) rfl ⟨_, _, _, _, rfl, by omega, h1, h2, h3⟩
theorem put_some {f : FuncId} {args : Array Value} {w : World} {bm : Nat} {made : Int} {fv : Value} {kd : Int} {nm : ByteArray} {ng : Bool} {xd : List Int} {ls : List Tm} {us : List Value} {R : Ending → World → Prop}
    (h : Calls Tryd.prog f args w (PutPost w bm made fv (some (.mk kd nm ng xd ls)) us))
    (hp : ∀ w', 20000 < made + (Tm.mk kd nm ng xd ls).size → w.grownBy w' (some bm) → R (.panicked (thrown 34)) w')
    (hr : ∀ w' dA dc lA lc, made + (Tm.mk kd nm ng xd ls).size ≤ 20000 → w.grownBy w' (some bm) → Blk w' bm #[.int .i64 (made + (Tm.mk kd nm ng xd ls).size), fv] 109 →
      MadeRow w' (fun g => w.heap.size ≤ g) (Tm.mk kd nm ng xd ls).enc [.int .u8 kd, .string nm, .bool ng, .slice dA xd.length dc, .slice lA ls.length lc] → R (.returned (.tuple #[.agg #[.int .u8 kd, .string nm, .bool ng, .slice dA xd.length dc, .slice lA ls.length lc], .bool true])) w') :
    Calls Tryd.prog f args w R := by
  refine h.mono ?_
  rintro e w' ⟨hg, (⟨hle, hb, us', rfl, hu⟩ | ⟨hlt, rfl⟩)⟩
  · obtain ⟨dA, dc, lA, lc, rfl, _, _⟩ := Tm.open hu.rd
    exact hr w' dA dc lA lc hle hg hb hu
  · exact hp w' hlt hg
theorem put_none {f : FuncId} {args : Array Value} {w : World} {bm : Nat} {made : Int} {fv : Value} {us : List Value} {R : Ending → World → Prop}
    (h : Calls Tryd.prog f args w (PutPost w bm made fv none us))
    (hr : ∀ w', w.grownBy w' (some bm) → Blk w' bm #[.int .i64 made, fv] 109 → R (.returned (.tuple #[.agg us.toArray, .bool false])) w') :
    Calls Tryd.prog f args w R := by
  refine h.mono ?_
  rintro e w' ⟨hg, rfl, hb⟩
  exact hr w' hg hb
/-- What stands where a maker has asked what is put: x lies in block bx. -/
def PutDone (w wx : World) (bm : Nat) (made : Int) (fv : Value) (x : Tm) (bx : Nat) (us : List Value) : Prop :=
  w.grownBy wx (some bm) ∧ made + x.size ≤ 20000 ∧ Blk wx bm #[.int .i64 (made + x.size), fv] 109 ∧ Blk wx bx us.toArray 28 ∧ bx ≠ w.heap.size + 1 ∧ bx ≠ bm ∧
  Blk wx (w.heap.size + 1) #[.int .u8 0, .string ⟨#[]⟩, .bool false, .slice none 0 0, .slice none 0 0] 28 ∧ MadeRow wx (fun g => w.heap.size + 2 ≤ g) x.enc us
/-- What stands where a maker has asked what is put, and nothing is. -/
def PutNo (w wx : World) (bm : Nat) (made : Int) (fv : Value) (us : List Value) : Prop :=
  w.grownBy wx (some bm) ∧ Blk wx bm #[.int .i64 made, fv] 109 ∧ Blk wx w.heap.size us.toArray 28 ∧ Blk wx (w.heap.size + 1) #[.int .u8 0, .string ⟨#[]⟩, .bool false, .slice none 0 0, .slice none 0 0] 28
theorem putNo_all {w W w2 : World} {bm : Nat} {made : Int} {fv : Value} {us : List Value} (hbm : bm < w.heap.size) (hgW : w.grownBy W (some bm)) (hW : w.heap.size + 2 ≤ W.heap.size)
    (ht : Blk W w.heap.size us.toArray 28) (hz : Blk W (w.heap.size + 1) #[.int .u8 0, .string ⟨#[]⟩, .bool false, .slice none 0 0, .slice none 0 0] 28) (hg2 : W.grownBy w2 (some bm)) (hb2 : Blk w2 bm #[.int .i64 made, fv] 109) :
    ∀ wx bx, w.heap.size + 2 ≤ bx → (∀ g, g < w2.heap.size → g ≠ bx → wx.heap[g]? = w2.heap[g]?) → w.grownBy wx (some bm) → PutNo w wx bm made fv us := by
  intro wx bx hb hkeep hgx
  have h1 := ht.grown hg2 (by simp; omega)
  have h2 := hz.grown hg2 (by simp; omega)
  exact ⟨hgx, hb2.keep (hkeep _ hb2.lt (by omega)), h1.keep (hkeep _ h1.lt (by omega)), h2.keep (hkeep _ h2.lt (by omega))⟩
theorem putDone_mk {w W w2 wx : World} {bm : Nat} {made : Int} {fv : Value} {x : Tm} {bx : Nat} {us : List Value} (hbm : bm < w.heap.size) (hgW : w.grownBy W (some bm)) (hW : w.heap.size + 2 ≤ W.heap.size)
    (hz : Blk W (w.heap.size + 1) #[.int .u8 0, .string ⟨#[]⟩, .bool false, .slice none 0 0, .slice none 0 0] 28) (hg2 : W.grownBy w2 (some bm)) (hfit : made + x.size ≤ 20000) (hb2 : Blk w2 bm #[.int .i64 (made + x.size), fv] 109)
    (hr2 : MadeRow w2 (fun g => W.heap.size ≤ g) x.enc us) (hx : Blk wx bx us.toArray 28) (hkeep : ∀ g, g < w2.heap.size → g ≠ bx → wx.heap[g]? = w2.heap[g]?) (hb : w.heap.size + 2 ≤ bx) (hb3 : W.heap.size ≤ bx → w2.heap.size ≤ bx)
    (hgx : w.grownBy wx (some bm)) : PutDone w wx bm made fv x bx us := by
  refine ⟨hgx, hfit, hb2.keep (hkeep _ hb2.lt (by omega)), hx, by omega, by omega, ?_, MadeRow.keep hr2 (fun g hg hl => ⟨by omega, hkeep g hl (by omega)⟩)⟩
  have h1 := hz.grown hg2 (by simp; omega)
  exact h1.keep (hkeep _ h1.lt (by omega))
theorem putDone_all {w W w2 : World} {bm : Nat} {made : Int} {fv : Value} {x : Tm} {us : List Value} (hbm : bm < w.heap.size) (hgW : w.grownBy W (some bm)) (hW : w.heap.size + 2 ≤ W.heap.size)
    (hz : Blk W (w.heap.size + 1) #[.int .u8 0, .string ⟨#[]⟩, .bool false, .slice none 0 0, .slice none 0 0] 28) (hg2 : W.grownBy w2 (some bm)) (hfit : made + x.size ≤ 20000) (hb2 : Blk w2 bm #[.int .i64 (made + x.size), fv] 109)
    (hr2 : MadeRow w2 (fun g => W.heap.size ≤ g) x.enc us) : ∀ wx bx, Blk wx bx us.toArray 28 → (∀ g, g < w2.heap.size → g ≠ bx → wx.heap[g]? = w2.heap[g]?) → w.heap.size + 2 ≤ bx → (bx = w2.heap.size ∨ bx < W.heap.size) → w.grownBy wx (some bm) → PutDone w wx bm made fv x bx us :=
  fun wx bx hx hkeep hb hb3 hgx => putDone_mk hbm hgW hW hz hg2 hfit hb2 hr2 hx hkeep hb (fun h => by omega) hgx
/-! ### a maker's 'of' -/
theorem Tm.subst_size_kid (l : List ByteArray) (ts ks : List Tm) (k : Nat) (h : k < ks.length) : (Tm.substs l ts ks)[k]'(by simpa [Tm.substs_eq] using h) = (ks[k]).subst l ts := by simp [Tm.substs_eq]
set_option maxHeartbeats 4000000 in
set_option maxRecDepth 100000 in
theorem of_some (bn bl bt : Nat) (l : List ByteArray) (ts : List Tm) (hts : Tm.fitss ts) (kind : Int) (name : ByteArray) (neg : Bool) (ds : List Int) (ks : List Tm) (w : World) (ok : Nat → Prop) (us : List Value) (bm : Nat) (made : Int) (x : Tm) (hput : Tm.putOf l ts (.mk kind name neg ds ks) = some x)
    (hf : (Tm.mk kind name neg ds ks).fits) (hr : D.rdRow w ok (Tm.mk kind name neg ds ks).enc us) (hok : ∀ g, ok g → g ≠ bm)
    (hm : Blk w bm #[.int .i64 made, putFn bn bl bt] 109) (henv : PutEnv w bm bn bl bt l ts) (h0 : 0 ≤ made) (h1 : made ≤ 20000) : Calls Tryd.prog 36 #[.pointer (some ⟨bm, 0, none⟩), .agg us.toArray] w (MakePost w bm made (putFn bn bl bt) ((Tm.mk kind name neg ds ks).subst l ts)) := by
  have HRT := Lib.hid hr
  obtain ⟨dA, dc, kA, kc, rfl, hd, hk⟩ := Tm.open hr
  clear hr
  have HD := Lib.hid hd
  have HK := Lib.hid hk
  have HF := Lib.hid hf
  have HE := Lib.hid henv
  clear hd hk hf henv
  have HM := Lib.hid hm
  have HOK := Lib.hid hok
  have HTS := Lib.hid hts
  have hbm := hm.lt
  obtain ⟨m0, m1, mf0, mf1⟩ := Blk.c2 hm
  clear hm hok
  unfold putFn at m1
  have hbmA : bm < w.heap.size + 1 := by omega
  have hbmB : bm < w.heap.size + 1 + 1 := by omega
  have hs : (Tm.mk kind name neg ds ks).subst l ts = x := by simp [Tm.subst, hput]
  rw [hs]
  have HP := Lib.hid hput
  clear hput hs
  go_enter Tryd.func36, Tryd.ntmps36
  go_upto_region 1 with fail
  obtain ⟨kd, nm, ng, xd, ls⟩ := x
  have hcall : ∀ W, w.grownBy W (some bm) → Blk W bm #[.int .i64 made, putFn bn bl bt] 109 → Calls Tryd.prog 54 #[.pointer (some ⟨bm, 0, none⟩), .agg #[.int .u8 kind, .string name, .bool neg, .slice dA ds.length dc, .slice kA ks.length kc], .pointer (some ⟨bn, 0, none⟩), .pointer (some ⟨bl, 0, none⟩), .pointer (some ⟨bt, 0, none⟩)] W (PutPost W bm made (putFn bn bl bt) (some (.mk kd nm ng xd ls)) [.int .u8 kind, .string name, .bool neg, .slice dA ds.length dc, .slice kA ks.length kc]) := by
    intro W hg hb
    have := names1_calls (.mk kind name neg ds ks) W ok _ bm bn bl bt made (putFn bn bl bt) l ts (D.rdRow_grown (row := some bm) HRT.out hg (fun g hg' => by simpa using HOK.out g hg')) HTS.out hb h0 h1 (HE.out.keep hg)
    rwa [HP.out] at this
  have HC := Lib.hid hcall
  clear hcall
  go_cut [5, 6] (fun s5 s6 wx => ∃ (bx : Nat) (dA2 lA2 : Option Addr) (dc2 lc2 : Nat), s5 = .pointer (some ⟨bx, 0, none⟩) ∧ s6 = .bool true ∧ PutDone w wx bm made (putFn bn bl bt) (.mk kd nm ng xd ls) bx [.int .u8 kd, .string nm, .bool ng, .slice dA2 xd.length dc2, .slice lA2 ls.length lc2])
  case first =>
    go_region_law (refine step_call 54 rfl (by go_simp; rfl) ?_; refine put_some (HC.out _ (by repeat (first | (with_reducible refine grown_drew ?_) | (with_reducible refine grown_alloc ?_ _) | (with_reducible exact grown_refl _ _))) (by repeat (first | (with_reducible refine Blk.drew ?_) | (with_reducible refine Blk.alloc ?_ _) | (with_reducible exact HM.out)))) ?_ ?_; (intro w2 hbig hg2; exact ⟨rfl, grown_trans (by repeat (first | (with_reducible refine grown_drew ?_) | (with_reducible refine grown_alloc ?_ _) | (with_reducible exact grown_refl _ _))) hg2, .inr ⟨hbig, rfl⟩⟩); intro w2 dA3 dc3 lA3 lc3 hfit hg2 hb2 hr2; have HB2 := Lib.hid hb2; have HR2 := Lib.hid hr2; have HG2 := Lib.hid hg2; have z2 := hg2.size; (first | (refine with_blk (t := 28) (g := w.heap.size + 1 + 1) (cs := #[.int .u8 0, .string ⟨#[]⟩, .bool false, .slice none 0 0, .slice none 0 0]) hg2 ?_ (by omega) ?_; (repeat (first | (with_reducible refine Blk.drew ?_) | ((with_reducible refine Blk.new' _ _ _ ?_); (focus (simp; done))) | (with_reducible refine Blk.alloc ?_ _))); intro hx2; obtain ⟨⟨q0, q1, q2, q3, q4⟩, r0, r1, r2, r3, r4⟩ := Blk.c5 hx2; have HX2 := Lib.hid hx2; clear hx2) | skip); have HGW := Lib.hid (grown_trans (a := w) (row := some bm) (by repeat (first | (with_reducible refine grown_drew ?_) | (with_reducible refine grown_alloc ?_ _) | (with_reducible exact grown_refl _ _))) hg2); have HD2 := Lib.hid (putDone_all hbm (by repeat (first | (with_reducible refine grown_drew ?_) | (with_reducible refine grown_alloc ?_ _) | (with_reducible exact grown_refl _ _))) (by first | (simp; done) | (simp; omega)) (by repeat (first | (with_reducible refine Blk.drew ?_) | ((with_reducible refine Blk.new' _ _ _ ?_); (focus (simp; done))) | (with_reducible refine Blk.alloc ?_ _))) hg2 hfit hb2 hr2); clear hb2 hr2 hg2 HB2 HR2 HG2)
    all_goals
      go_wp2_with fail
      go_meet
    all_goals
      case rel =>
        first
        | (have _hx := HX2.out; exact ⟨w.heap.size + 1 + 1, _, _, _, _, rfl, rfl, HD2.out _ _ (set5_blk HX2.out) (fun g _ hne => set5_keep hne) (by omega) (.inr (by simp)) (set5_grown HGW.out (by omega) _ _ _ _ _)⟩)
        | exact ⟨w2.heap.size, _, _, _, _, rfl, rfl, HD2.out _ _ (Blk.new _ _ _) (fun g hl _ => Below.heap_alloc _ _ _ hl) (by simp at z2; omega) (.inl rfl) (grown_alloc HGW.out _)⟩
  case rest =>
    obtain ⟨bx, dA2, lA2, dc2, lc2, rfl, rfl, hput⟩ := hcut
    obtain ⟨hgx, hfit, hbx, hx, hx1, hx2, hz, hrx⟩ := hput
    obtain ⟨⟨p0, p1, p2, p3, p4⟩, _⟩ := Blk.c5 hx
    obtain ⟨⟨q0, q1, q2, q3, q4⟩, r0, r1, r2, r3, r4⟩ := Blk.c5 hz
    have HGX := Lib.hid hgx
    have HBX := Lib.hid hbx
    have HRX := Lib.hid hrx
    have HL := Lib.hid (set5_blk (a := .int .u8 kd) (b := .string nm) (c := .bool ng) (d := .slice dA2 xd.length dc2) (e := .slice lA2 ls.length lc2) hz)
    have y1 := hx.lt
    have y2 := hz.lt
    clear hgx hbx hrx hx hz m0 m1 mf0 mf1
    go_wp2_with fail
    have hl := Blk.c5 HL.out
    unfold set5 at hl
    obtain ⟨⟨l0, l1, l2, l3, l4⟩, _⟩ := hl
    refine bodyPost_ret (v := .agg #[.int .u8 kd, .string nm, .bool ng, .slice dA2 xd.length dc2, .slice lA2 ls.length lc2]) (by simp [results, Tryd.results36, go_sem, l0, l1, l2, l3, l4]) rfl ?_
    exact ⟨set5_grown HGX.out (by omega) _ _ _ _ _, .inl ⟨hfit, HBX.out.keep (set5_keep (by omega)), [_, _, _, _, _], rfl, MadeRow.keep HRX.out (fun g hg hl => ⟨by omega, set5_keep (by omega)⟩)⟩⟩
end Wh
