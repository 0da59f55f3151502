import Derived.Test.YtlacfgnjljjdiaaDoorT28
import Derived.Test.YtlacfgnjljjdiaaDoorT8
import Derived.Test.YtlacfgnjljjdiaaDoorT11
import Derived.Deep.RegionHeld3
set_option linter.unusedVariables false
set_option linter.unusedSimpArgs false
open Go Go.RowKit Go.Proofs
namespace Wh
theorem sub_call {f : FuncId} {args : Array Value} {w : World} {kd : Int} {nm : ByteArray} {ng : Bool} {xd : List Int} {ls : List Tm} {R : Ending → World → Prop} (hs : (Tm.mk kd nm ng xd ls).size ≤ 20000)
    (h : Calls Tryd.prog f args w (SubstPost w (.mk kd nm ng xd ls)))
    (hr : ∀ w' dA dc lA lc, Below w.heap.size w w' → MadeRow w' (fun g => w.heap.size ≤ g) (Tm.mk kd nm ng xd ls).enc [.int .u8 kd, .string nm, .bool ng, .slice dA xd.length dc, .slice lA ls.length lc] → R (.returned (.tuple #[.agg #[.int .u8 kd, .string nm, .bool ng, .slice dA xd.length dc, .slice lA ls.length lc], .int .i64 0])) w') :
    Calls Tryd.prog f args w R := by
  refine h.mono ?_
  rintro e w' ⟨hb, (⟨_, us, rfl, hu⟩ | ⟨hlt, _⟩)⟩
  · obtain ⟨dA, dc, lA, lc, rfl, _, _⟩ := Tm.open hu.rd
    exact hr w' dA dc lA lc hb hu
  · omega
def txx : ByteArray := ⟨#[120]⟩
def txy : ByteArray := ⟨#[121]⟩
def txz : ByteArray := ⟨#[67, 79, 78, 83, 46, 49]⟩
theorem rd_two_v {w : World} {ok : Nat → Prop} {g : Nat} {s u : ByteArray} (h : Blk w g #[.int .u8 1, .string s, .bool false, .slice none 0 0, .slice none 0 0, .int .u8 1, .string u, .bool false, .slice none 0 0, .slice none 0 0] 28) (hok : ok g) : D.rd w ok (.row 28 5 (Tm.encs [Tm.v s, Tm.v u])) (.slice (some ⟨g, 0, none⟩) 2 2) :=
  rd_blk (n := 2) h rfl rfl (by decide) hok (rdCells_cons (us := vCells s) rfl (rd_v s) (rdCells_cons (us := vCells u) rfl (rd_v u) rdCells_nil))
theorem funOf_cons : funOf listsD txz = some (txlist, txlist) := by decide
theorem sub_swap : (Tm.plus [Tm.v txx, Tm.v txy]).subst [txx, txy] [Tm.v txy, Tm.v txx] = Tm.plus [Tm.v txy, Tm.v txx] := by simp [Tm.plus, Tm.v, Tm.subst, Tm.substs, Tm.putOf, Tm.kind, Tm.name, look, lookTo, txx, txy]
/-- The number 1. -/
def Tm.one : Tm := .mk 2 txNone false [1] []
def oneCells (g : Nat) : List Value := [.int .u8 2, .string ⟨#[]⟩, .bool false, .slice (some ⟨g, 0, none⟩) 1 1, .slice none 0 0]
theorem rd_num1 {w : World} {ok : Nat → Prop} {g : Nat} (h : Blk w g #[.int .u32 1] 53) (hok : ok g) : D.rdRow w ok Tm.one.enc (oneCells g) :=
  rd_tm (rd_blk (n := 1) h rfl rfl (by decide) hok (rdCells_cons (us := [_]) rfl (rdRow_one (by simp only [D.rd])) rdCells_nil)) (D.rd_nil _ _)
theorem rd_plus {w : World} {ok : Nat → Prop} {l : List Tm} {v : Value} (h : D.rd w ok (.row 28 5 (Tm.encs l)) v) : D.rdRow w ok (Tm.plus l).enc [.int .u8 5, .string ⟨#[]⟩, .bool false, .slice none 0 0, v] := rd_tm (D.rd_nil _ _) h
theorem key_x : (Tm.v txx).key = [49, 32, 49, 58, 120, 32, 32, 48, 59] := by kernel_rfl
/-- What stays in the law's own example: the number 1, the term that was made. -/
structure AwK (w0 : World) (B N S : Nat) (ss : List Value) (W : World) : Prop where
  low : Below w0.heap.size w0 W
  env : Env B W
  one : Blk W N #[.int .u32 1] 53
  num : Blk W (N + 1) (oneCells N).toArray 28
  sub : Blk W S ss.toArray 28
  rd : D.rdRow W (fun _ => True) (Tm.plus [Tm.v txy, Tm.v txx]).enc ss
theorem below_then {a b c : World} (h : Below a.heap.size a b) (k : Below b.heap.size b c) : Below a.heap.size a c := h.trans (k.mono h.size)
theorem AwK.ext {w0 : World} {B N S : Nat} {ss : List Value} {W W' : World} (h : AwK w0 B N S ss W) (hb : Below W.heap.size W W') : AwK w0 B N S ss W' :=
  ⟨below_then h.low hb, h.env.below (hb.mono h.env.1), h.one.ext hb, h.num.ext hb, h.sub.ext hb, D.rdRow_ext h.rd hb⟩
theorem AwK.drew {w0 : World} {B N S : Nat} {ss : List Value} {W : World} (h : AwK w0 B N S ss W) : AwK w0 B N S ss W.drew := h.ext (Below.refl _ _).drew
theorem AwK.alloc {w0 : World} {B N S : Nat} {ss : List Value} {W : World} (h : AwK w0 B N S ss W) (o : Obj) : AwK w0 B N S ss (W.alloc o) := h.ext (ext_alloc (Below.refl _ _) _)
theorem rd_two_1 {w : World} {ok : Nat → Prop} {g N : Nat} {s : ByteArray} (h : Blk w g #[.int .u8 1, .string s, .bool false, .slice none 0 0, .slice none 0 0, .int .u8 2, .string ⟨#[]⟩, .bool false, .slice (some ⟨N, 0, none⟩) 1 1, .slice none 0 0] 28) (h1 : Blk w N #[.int .u32 1] 53) (hok : ok g) (hok2 : ok N) : D.rd w ok (.row 28 5 (Tm.encs [Tm.v s, Tm.one])) (.slice (some ⟨g, 0, none⟩) 2 2) :=
  rd_blk (n := 2) h rfl rfl (by decide) hok (rdCells_cons (us := vCells s) rfl (rd_v s) (rdCells_cons (us := oneCells N) rfl (rd_num1 h1 hok2) rdCells_nil))
theorem size_awk {w0 : World} {B N S g1 g2 : Nat} {ss : List Value} {W : World} (hK : AwK w0 B N S ss W) (h1 : Blk W g1 #[.int .u8 1, .string txx, .bool false, .slice none 0 0, .slice none 0 0, .int .u8 2, .string ⟨#[]⟩, .bool false, .slice (some ⟨N, 0, none⟩) 1 1, .slice none 0 0] 28)
    (h2 : Blk W g2 #[.int .u8 5, .string ⟨#[]⟩, .bool false, .slice none 0 0, .slice (some ⟨g1, 0, none⟩) 2 2] 28) : Calls Tryd.prog 23 #[.slice (some ⟨g2, 0, none⟩) 1 1] W (Tells W (.int .i64 3)) :=
  sizes_calls [Tm.plus [Tm.v txx, Tm.one]] W (fun _ => True) _ (rd_blk (n := 1) h2 rfl rfl (by decide) trivial (rdCells_cons (us := [_, _, _, _, _]) rfl (rd_plus (rd_two_1 h1 hK.one trivial trivial)) rdCells_nil)) (by decide)
theorem same_awk {w0 : World} {B N S g : Nat} {ss : List Value} {W : World} (hK : AwK w0 B N S ss W) (h1 : Blk W g #[.int .u8 1, .string txy, .bool false, .slice none 0 0, .slice none 0 0, .int .u8 1, .string txx, .bool false, .slice none 0 0, .slice none 0 0] 28) :
    Calls Tryd.prog 11 #[.agg ss.toArray, .agg #[.int .u8 5, .string ⟨#[]⟩, .bool false, .slice none 0 0, .slice (some ⟨g, 0, none⟩) 2 2]] W (Tells W (.bool true)) := by
  have := sameTerm_calls (Tm.plus [Tm.v txy, Tm.v txx]) (Tm.plus [Tm.v txy, Tm.v txx]) W (fun _ => True) (fun _ => True) ss [.int .u8 5, .string ⟨#[]⟩, .bool false, .slice none 0 0, .slice (some ⟨g, 0, none⟩) 2 2] hK.rd (rd_plus (rd_two_v h1 trivial))
  simpa using this
theorem key_awk {w0 : World} {B N S : Nat} {ss : List Value} {W : World} (hK : AwK w0 B N S ss W) : Calls Tryd.prog 7 #[.agg #[.int .u8 1, .string txx, .bool false, .slice none 0 0, .slice none 0 0]] W fun e w' => e = .returned (.string ⟨#[49, 32, 49, 58, 120, 32, 32, 48, 59]⟩) ∧ Below W.heap.size W w' := by
  have := key_calls (Tm.v txx) B W (fun _ => True) (vCells txx) (rd_v txx) hK.env (by simp [Tm.v, Tm.wf, Tm.wfs]) (by simp [Tm.v, Tm.fits, Tm.fitss]) (by rw [key_x]; decide)
  rw [key_x] at this
  exact this
set_option maxHeartbeats 1000000 in
set_option maxRecDepth 100000 in
theorem awake_calls (B : Nat) (w : World) (henv : Env B w) : Calls Tryd.prog 6 #[] w (Tells w (.bool true)) := by
  have HE := Lib.hid henv
  clear henv
  have hv := v_calls
  have hp := plus_calls
  have HV := Lib.hid hv
  have HP := Lib.hid hp
  clear hv hp
  go_enter Tryd.func6, Tryd.ntmps6
  go_wp2_with fail
  refine (HV.out _ _).mono ?_
  rintro e w1 ⟨rfl, hb1⟩
  have HB1 := Lib.hid hb1
  clear hb1
  dsimp only
  go_wp2_with fail
  refine (HV.out _ _).mono ?_
  rintro e w2 ⟨rfl, hb2⟩
  have HB2 := Lib.hid hb2
  clear hb2
  dsimp only
  go_wp2_with fail
  refine (HP.out _ _ _ _ rfl _).mono ?_
  rintro e w3 ⟨rfl, hb3⟩
  have HB3 := Lib.hid hb3
  clear hb3
  dsimp only
  go_wp2_with fail
  refine (HV.out _ _).mono ?_
  rintro e w4 ⟨rfl, hb4⟩
  have HB4 := Lib.hid hb4
  clear hb4
  dsimp only
  go_wp2_with fail
  refine (HV.out _ _).mono ?_
  rintro e w5 ⟨rfl, hb5⟩
  have HB5 := Lib.hid hb5
  clear hb5
  dsimp only
  go_wp2_with fail
  have hxy := ((((Blk.new w2 #[.int .u8 1, .string txx, .bool false, .slice none 0 0, .slice none 0 0, .int .u8 1, .string txy, .bool false, .slice none 0 0, .slice none 0 0] 28).ext HB3.out).alloc (.cells #[.string txx, .string txy] 9) |>.ext HB4.out).ext HB5.out).alloc (.cells #[.int .u8 1, .string txy, .bool false, .slice none 0 0, .slice none 0 0, .int .u8 1, .string txx, .bool false, .slice none 0 0, .slice none 0 0] 28)
  have hnm := (((Blk.new w3 #[.string txx, .string txy] 9).ext HB4.out).ext HB5.out).alloc (.cells #[.int .u8 1, .string txy, .bool false, .slice none 0 0, .slice none 0 0, .int .u8 1, .string txx, .bool false, .slice none 0 0, .slice none 0 0] 28)
  have hyx := Blk.new w5 #[.int .u8 1, .string txy, .bool false, .slice none 0 0, .slice none 0 0, .int .u8 1, .string txx, .bool false, .slice none 0 0, .slice none 0 0] 28
  have hsub := subst_calls (Tm.plus [Tm.v txx, Tm.v txy]) _ _ [txx, txy] [Tm.v txy, Tm.v txx] (some ⟨w3.heap.size, 0, none⟩) (some ⟨w5.heap.size, 0, none⟩) 2 2 (by simp [Tm.fitss, Tm.v, Tm.fits]) (by simp [Tm.plus, Tm.fitss, Tm.v, Tm.fits]) (rd_plus (rd_two_v hxy trivial)) (rd_blk (n := 2) hnm rfl rfl (by decide) trivial (rdCells_cons (us := [_]) rfl (rdRow_one rd_txt) (rdCells_cons (us := [_]) rfl (rdRow_one rd_txt) rdCells_nil))) (rd_two_v hyx trivial)
  rw [sub_swap] at hsub
  unfold Tm.plus at hsub
  refine sub_call (by decide) hsub ?_
  clear hsub hxy hnm hyx
  intro w6 eA ec mA mc hb6 hr6
  have HB6 := Lib.hid hb6
  have HR6 := Lib.hid hr6
  clear hb6 hr6
  dsimp only
  go_wp2_with fail
  refine (lists_calls _).mono ?_
  rintro e w7 ⟨lv, rfl, hr7, hb7⟩
  have HB7 := Lib.hid hb7
  have HR7 := Lib.hid hr7
  clear hb7 hr7
  dsimp only
  go_wp2_with fail
  refine (function_calls listsD txz w7 _ lv HR7.out (by decide)).mono ?_
  rw [funOf_cons]
  rintro e w8 ⟨hb8, rfl⟩
  have hb86 : Below (w6.heap.size + 1) (w6.alloc (.cells #[.int .u8 5, .string txNone, .bool false, .slice eA 0 ec, .slice mA 2 mc] 28)) w8 := by
    have := HB7.out
    simp at this
    exact Below.trans this (hb8.mono (by have := HB7.out.size; simpa using this))
  have hb62 : Below (w.heap.size + 2) ((w.alloc (.cells #[.int .u32 1] 53)).alloc (.cells #[.int .u8 2, .string ⟨#[]⟩, .bool false, .slice (some ⟨w.heap.size, 0, none⟩) 1 1, .slice none 0 0] 28)) w8 := by
    have h1 := ext_alloc (below_then HB1.out HB2.out) (.cells #[.int .u8 1, .string txx, .bool false, .slice none 0 0, .slice none 0 0, .int .u8 1, .string txy, .bool false, .slice none 0 0, .slice none 0 0] 28)
    have h2 := ext_alloc (below_then h1 HB3.out) (.cells #[.string txx, .string txy] 9)
    have h3 := ext_alloc (below_then (below_then h2 HB4.out) HB5.out) (.cells #[.int .u8 1, .string txy, .bool false, .slice none 0 0, .slice none 0 0, .int .u8 1, .string txx, .bool false, .slice none 0 0, .slice none 0 0] 28)
    have h4 := ext_alloc (below_then h3 HB6.out) (.cells #[.int .u8 5, .string txNone, .bool false, .slice eA 0 ec, .slice mA 2 mc] 28)
    have h5 := below_then (below_then h4 HB7.out) hb8
    exact h5.mono (by simp)
  have hs8 := (Blk.new w6 #[.int .u8 5, .string txNone, .bool false, .slice eA 0 ec, .slice mA 2 mc] 28).below hb86 (by omega)
  have hone := ((Blk.new w #[.int .u32 1] 53).alloc (.cells #[.int .u8 2, .string ⟨#[]⟩, .bool false, .slice (some ⟨w.heap.size, 0, none⟩) 1 1, .slice none 0 0] 28)).below hb62 (by omega)
  have hnum := (Blk.new' (w.alloc (.cells #[.int .u32 1] 53)) #[.int .u8 2, .string ⟨#[]⟩, .bool false, .slice (some ⟨w.heap.size, 0, none⟩) 1 1, .slice none 0 0] 28 (n := w.heap.size + 1) (by simp)).below hb62 (by omega)
  have hK : AwK w B w.heap.size w6.heap.size [.int .u8 5, .string txNone, .bool false, .slice eA 0 ec, .slice mA 2 mc] w8 := by
    have hlow : Below w.heap.size w w8 := Below.trans (ext_alloc (ext_alloc (Below.refl _ _) _) _) (hb62.mono (by omega))
    refine ⟨hlow, HE.out.below (hlow.mono HE.out.1), hone, hnum, hs8, ?_⟩
    have h6 := D.rdRow_ext (D.rdRow_ext HR6.out.rd (ext_alloc (Below.refl w6.heap.size w6) (.cells #[.int .u8 5, .string txNone, .bool false, .slice eA 0 ec, .slice mA 2 mc] 28))) (hb86.mono (by simp))
    exact D.rdRow_mono (fun g _ => ⟨trivial, rfl⟩) _ _ h6
  obtain ⟨K, hKdef⟩ : ∃ K : World → Prop, K = AwK w B w.heap.size w6.heap.size [.int .u8 5, .string txNone, .bool false, .slice eA 0 ec, .slice mA 2 mc] := ⟨_, rfl⟩
  have HK8 : Hid (K w8) := Lib.hid (hKdef ▸ hK)
  have HKX : Hid (∀ W W', K W → Below W.heap.size W W' → K W') := Lib.hid (by subst hKdef; exact fun W W' h hb => h.ext hb)
  have HKD : Hid (∀ W, K W → K W.drew) := Lib.hid (by subst hKdef; exact fun W h => h.drew)
  have HKA : Hid (∀ W o, K W → K (W.alloc o)) := Lib.hid (by subst hKdef; exact fun W o h => h.alloc o)
  have HKB : Hid (∀ W, K W → Below w.heap.size w W) := Lib.hid (by subst hKdef; exact fun W h => h.low)
  have HKF : Hid (∀ W, K W → (W.cell? ⟨w6.heap.size, 0, none⟩ = some (.int .u8 5) ∧ W.cell? ⟨w6.heap.size, 1, none⟩ = some (.string txNone) ∧ W.cell? ⟨w6.heap.size, 2, none⟩ = some (.bool false) ∧ W.cell? ⟨w6.heap.size, 3, none⟩ = some (.slice eA 0 ec) ∧ W.cell? ⟨w6.heap.size, 4, none⟩ = some (.slice mA 2 mc)) ∧ (W.cell? ⟨w.heap.size + 1, 0, none⟩ = some (.int .u8 2) ∧ W.cell? ⟨w.heap.size + 1, 1, none⟩ = some (.string ⟨#[]⟩) ∧ W.cell? ⟨w.heap.size + 1, 2, none⟩ = some (.bool false) ∧ W.cell? ⟨w.heap.size + 1, 3, none⟩ = some (.slice (some ⟨w.heap.size, 0, none⟩) 1 1) ∧ W.cell? ⟨w.heap.size + 1, 4, none⟩ = some (.slice none 0 0)) ∧ w6.heap.size < W.heap.size ∧ w.heap.size + 1 < W.heap.size) := Lib.hid (by subst hKdef; exact fun W h => ⟨(Blk.c5 h.sub).1, (Blk.c5 h.num).1, h.sub.lt, h.num.lt⟩)
  have HSZ : Hid (∀ W g1 g2, K W → Blk W g2 #[.int .u8 5, .string ⟨#[]⟩, .bool false, .slice none 0 0, .slice (some ⟨g1, 0, none⟩) 2 2] 28 → Blk W g1 #[.int .u8 1, .string ⟨#[120]⟩, .bool false, .slice none 0 0, .slice none 0 0, .int .u8 2, .string ⟨#[]⟩, .bool false, .slice (some ⟨w.heap.size, 0, none⟩) 1 1, .slice none 0 0] 28 → Calls Tryd.prog 23 #[.slice (some ⟨g2, 0, none⟩) 1 1] W (Tells W (.int .i64 3))) := Lib.hid (by subst hKdef; exact fun W g1 g2 h h2 h1 => size_awk h h1 h2)
  have HSM : Hid (∀ W g, K W → Blk W g #[.int .u8 1, .string ⟨#[121]⟩, .bool false, .slice none 0 0, .slice none 0 0, .int .u8 1, .string ⟨#[120]⟩, .bool false, .slice none 0 0, .slice none 0 0] 28 → Calls Tryd.prog 11 #[.agg #[.int .u8 5, .string txNone, .bool false, .slice eA 0 ec, .slice mA 2 mc], .agg #[.int .u8 5, .string ⟨#[]⟩, .bool false, .slice none 0 0, .slice (some ⟨g, 0, none⟩) 2 2]] W (Tells W (.bool true))) := Lib.hid (by subst hKdef; exact fun W g h h1 => same_awk h h1)
  have HKY : Hid (∀ W, K W → Calls Tryd.prog 7 #[.agg #[.int .u8 1, .string txx, .bool false, .slice none 0 0, .slice none 0 0]] W fun e w' => e = .returned (.string ⟨#[49, 32, 49, 58, 120, 32, 32, 48, 59]⟩) ∧ Below W.heap.size W w') := Lib.hid (by subst hKdef; exact fun W h => key_awk h)
  obtain ⟨⟨s0, s1, s2, s3, s4⟩, ⟨n0, n1, n2, n3, n4⟩, zs, zn⟩ := HKF.out _ HK8.out
  clear hb8 hb86 hb62 hs8 hone hnum hK hKdef HB1 HB2 HB3 HB4 HB5 HB6 HR6 HB7 HR7
  dsimp only
  go_wp2_with fail
  have htl : (txlist.toList == [108, 105, 115, 116]) = true := str_lit_yes (y := txlist) (by simp [txlist, ByteArray.toList_eq]) rfl
  go_region_held3 (fun w' => w'.cell? ⟨w6.heap.size, 0, none⟩ = some (.int .u8 5) ∧ w'.cell? ⟨w6.heap.size, 1, none⟩ = some (.string txNone) ∧ w'.cell? ⟨w6.heap.size, 2, none⟩ = some (.bool false) ∧ w'.cell? ⟨w6.heap.size, 3, none⟩ = some (.slice eA 0 ec) ∧ w'.cell? ⟨w6.heap.size, 4, none⟩ = some (.slice mA 2 mc) ∧ w'.cell? ⟨w.heap.size + 1, 0, none⟩ = some (.int .u8 2) ∧ w'.cell? ⟨w.heap.size + 1, 1, none⟩ = some (.string ⟨#[]⟩) ∧ w'.cell? ⟨w.heap.size + 1, 2, none⟩ = some (.bool false) ∧ w'.cell? ⟨w.heap.size + 1, 3, none⟩ = some (.slice (some ⟨w.heap.size, 0, none⟩) 1 1) ∧ w'.cell? ⟨w.heap.size + 1, 4, none⟩ = some (.slice none 0 0))
    (first | exact ⟨s0, s1, s2, s3, s4, n0, n1, n2, n3, n4⟩ | go_keep)
    (first
      | (go_at_call 13; refine Calls.mono (HV.out _ _) ?_; rintro e wq ⟨rfl, hb⟩; have HKq := Lib.hid (HKX.out _ _ (by repeat (first | (with_reducible exact Hid.out (by assumption)) | (with_reducible refine HKD.out _ ?_) | (with_reducible refine HKA.out _ _ ?_))) hb); obtain ⟨⟨s0, s1, s2, s3, s4⟩, ⟨n0, n1, n2, n3, n4⟩, zs, zn⟩ := HKF.out _ HKq.out; have HBq := Lib.hid hb; have hzq := hb.size; clear hb)
      | (go_at_call 20; refine Calls.mono (HP.out _ _ _ _ rfl _) ?_; rintro e wq ⟨rfl, hb⟩; have HKq := Lib.hid (HKX.out _ _ (by repeat (first | (with_reducible exact Hid.out (by assumption)) | (with_reducible refine HKD.out _ ?_) | (with_reducible refine HKA.out _ _ ?_))) hb); obtain ⟨⟨s0, s1, s2, s3, s4⟩, ⟨n0, n1, n2, n3, n4⟩, zs, zn⟩ := HKF.out _ HKq.out; have HBq := Lib.hid hb; have hzq := hb.size; clear hb)
      | (go_at_call 23; refine Calls.mono (HSZ.out _ _ _ (by repeat (first | (with_reducible exact Hid.out (by assumption)) | (with_reducible refine HKD.out _ ?_) | (with_reducible refine HKA.out _ _ ?_))) (by repeat (first | (with_reducible exact Blk.new _ _ _) | ((with_reducible refine Blk.new' _ _ _ ?_); (focus (simp; done))) | (with_reducible refine Blk.drew ?_) | (with_reducible refine Blk.alloc ?_ _) | (with_reducible refine Blk.ext ?_ (Hid.out (by assumption))))) (by repeat (first | (with_reducible exact Blk.new _ _ _) | ((with_reducible refine Blk.new' _ _ _ ?_); (focus (simp; done))) | (with_reducible refine Blk.drew ?_) | (with_reducible refine Blk.alloc ?_ _) | (with_reducible refine Blk.ext ?_ (Hid.out (by assumption)))))) ?_; rintro e wq ⟨rfl, hb⟩; have HKq := Lib.hid (HKX.out _ _ (by repeat (first | (with_reducible exact Hid.out (by assumption)) | (with_reducible refine HKD.out _ ?_) | (with_reducible refine HKA.out _ _ ?_))) hb); obtain ⟨⟨s0, s1, s2, s3, s4⟩, ⟨n0, n1, n2, n3, n4⟩, zs, zn⟩ := HKF.out _ HKq.out; have HBq := Lib.hid hb; have hzq := hb.size; clear hb)
      | (go_at_call 11; refine Calls.mono (HSM.out _ _ (by repeat (first | (with_reducible exact Hid.out (by assumption)) | (with_reducible refine HKD.out _ ?_) | (with_reducible refine HKA.out _ _ ?_))) (by repeat (first | (with_reducible exact Blk.new _ _ _) | ((with_reducible refine Blk.new' _ _ _ ?_); (focus (simp; done))) | (with_reducible refine Blk.drew ?_) | (with_reducible refine Blk.alloc ?_ _) | (with_reducible refine Blk.ext ?_ (Hid.out (by assumption)))))) ?_; rintro e wq ⟨rfl, hb⟩; have HKq := Lib.hid (HKX.out _ _ (by repeat (first | (with_reducible exact Hid.out (by assumption)) | (with_reducible refine HKD.out _ ?_) | (with_reducible refine HKA.out _ _ ?_))) hb); obtain ⟨⟨s0, s1, s2, s3, s4⟩, ⟨n0, n1, n2, n3, n4⟩, zs, zn⟩ := HKF.out _ HKq.out; have HBq := Lib.hid hb; have hzq := hb.size; clear hb)
      | (go_at_call 7; refine Calls.mono (HKY.out _ (by repeat (first | (with_reducible exact Hid.out (by assumption)) | (with_reducible refine HKD.out _ ?_) | (with_reducible refine HKA.out _ _ ?_)))) ?_; rintro e wq ⟨rfl, hb⟩; have HKq := Lib.hid (HKX.out _ _ (by repeat (first | (with_reducible exact Hid.out (by assumption)) | (with_reducible refine HKD.out _ ?_) | (with_reducible refine HKA.out _ _ ?_))) hb); obtain ⟨⟨s0, s1, s2, s3, s4⟩, ⟨n0, n1, n2, n3, n4⟩, zs, zn⟩ := HKF.out _ HKq.out; have HBq := Lib.hid hb; have hzq := hb.size; clear hb))
  go_wp2_with fail
  go_ret
  exact ⟨rfl, HKB.out _ (by repeat (first | (with_reducible exact Hid.out (by assumption)) | (with_reducible refine HKD.out _ ?_) | (with_reducible refine HKA.out _ _ ?_)))⟩
end Wh
