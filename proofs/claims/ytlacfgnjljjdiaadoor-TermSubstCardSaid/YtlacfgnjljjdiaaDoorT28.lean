import Derived.Test.YtlacfgnjljjdiaaDoorT26
import Derived.Test.YtlacfgnjljjdiaaDoorT27
import Derived.Test.YtlacfgnjljjdiaaDoorT7
import Derived.Test.YtlacfgnjljjdiaaDoorT10
set_option linter.unusedVariables false
set_option linter.unusedSimpArgs false
open Go Go.RowKit Go.Proofs
namespace Wh
/-! ### the law's own small functions -/
theorem own_of_blk {w : World} {g : Nat} {cs : Array Value} {e : TypeId} {sz n : Nat} (h : Blk w g cs e) (hn : cs.size = n * sz) (h63 : n ≤ maxLen) : w.ownsRow g e sz (.slice (some ⟨g, 0, none⟩) n n) n cs.toList :=
  ⟨by simpa using hn, .inr ⟨g, n, cs, rfl, Nat.le_refl _, h, Nat.le_refl _, h63, hn, List.take_of_length_le (by simp [hn])⟩⟩
/-- A block that is known whole, as a row. -/
theorem rd_blk {w : World} {ok : Nat → Prop} {g : Nat} {cs : Array Value} {e : TypeId} {sz n : Nat} {es : List (List D)} (h : Blk w g cs e) (hn : cs.size = n * sz) (hl : es.length = n) (h63 : n ≤ maxLen) (hok : ok g) (hc : D.rdCells w ok sz es cs.toList) : D.rd w ok (.row e sz es) (.slice (some ⟨g, 0, none⟩) n n) :=
  D.rd_of_own (own_of_blk h hn h63) hl hc (fun g' hg' => by
    have : g = g' := by simpa [Value.ownBlock] using hg'
    exact this ▸ hok)
theorem rd_tm {w : World} {ok : Nat → Prop} {k : Int} {n : ByteArray} {g : Bool} {ds : List Int} {ks : List Tm} {dv kv : Value} (h1 : D.rd w ok (.ints 53 .u32 ds) dv) (h2 : D.rd w ok (.row 28 5 (Tm.encs ks)) kv) : D.rdRow w ok (Tm.mk k n g ds ks).enc [.int .u8 k, .string n, .bool g, dv, kv] := by
  simp only [Tm.enc, D.rdRow]
  exact ⟨_, _, rfl, by simp only [D.rd], _, _, rfl, by simp only [D.rd], _, _, rfl, by simp only [D.rd], _, _, rfl, h1, _, _, rfl, h2, rfl⟩
theorem rdCells_cons {w : World} {ok : Nat → Prop} {sz : Nat} {e : List D} {es : List (List D)} {us xs : List Value} (hl : us.length = sz) (h : D.rdRow w ok e us) (k : D.rdCells w ok sz es xs) : D.rdCells w ok sz (e :: es) (us ++ xs) := by
  simp only [D.rdCells]
  exact ⟨us, xs, rfl, hl, h, k⟩
theorem rdCells_nil {w : World} {ok : Nat → Prop} {sz : Nat} : D.rdCells w ok sz [] [] := by simp [D.rdCells]
theorem rdRow_two {w : World} {ok : Nat → Prop} {d1 d2 : D} {u1 u2 : Value} (h1 : d1.rd w ok u1) (h2 : d2.rd w ok u2) : D.rdRow w ok [d1, d2] [u1, u2] := by
  simp only [D.rdRow]
  exact ⟨_, _, rfl, h1, _, _, rfl, h2, rfl⟩
theorem rdRow_one {w : World} {ok : Nat → Prop} {d1 : D} {u1 : Value} (h1 : d1.rd w ok u1) : D.rdRow w ok [d1] [u1] := by
  simp only [D.rdRow]
  exact ⟨_, _, rfl, h1, rfl⟩
theorem rd_txt {w : World} {ok : Nat → Prop} {x : ByteArray} : (D.txt x).rd w ok (.string x) := by simp only [D.rd]
def Tm.v (s : ByteArray) : Tm := .mk 1 s false [] []
def Tm.plus (l : List Tm) : Tm := .mk 5 txNone false [] l
def vCells (s : ByteArray) : List Value := [.int .u8 1, .string s, .bool false, .slice none 0 0, .slice none 0 0]
theorem rd_v {w : World} {ok : Nat → Prop} (s : ByteArray) : D.rdRow w ok (Tm.v s).enc (vCells s) := rd_tm (D.rd_nil _ _) (D.rd_nil _ _)
theorem v_calls (s : ByteArray) (w : World) : Calls Tryd.prog 13 #[.string s] w fun e w' => e = .returned (.agg #[.int .u8 1, .string s, .bool false, .slice none 0 0, .slice none 0 0]) ∧ Below w.heap.size w w' := by
  go_enter Tryd.func13, Tryd.ntmps13
  go_wp2_with fail
  refine bodyPost_ret (v := .agg #[.int .u8 1, .string s, .bool false, .slice none 0 0, .slice none 0 0]) (by simp [results, Tryd.results13, go_sem]) rfl ⟨rfl, ?_⟩
  first | exact ext_alloc (Below.refl _ _) _ | (repeat (refine Below.setCell ?_ (by simp) _)); exact ext_alloc (Below.refl _ _) _
theorem plus_calls (v : Value) (A : Option Addr) (n c : Nat) (hv : v = .slice A n c) (w : World) : Calls Tryd.prog 20 #[v] w fun e w' => e = .returned (.agg #[.int .u8 5, .string ⟨#[]⟩, .bool false, .slice none 0 0, v]) ∧ Below w.heap.size w w' := by
  subst hv
  go_enter Tryd.func20, Tryd.ntmps20
  go_wp2_with fail
  refine bodyPost_ret (v := .agg #[.int .u8 5, .string ⟨#[]⟩, .bool false, .slice none 0 0, .slice A n c]) (by simp [results, Tryd.results20, go_sem]) rfl ⟨rfl, ?_⟩
  first | exact ext_alloc (Below.refl _ _) _ | (repeat (refine Below.setCell ?_ (by simp) _)); exact ext_alloc (Below.refl _ _) _
def txNIL : ByteArray := ⟨#[78, 73, 76]⟩
def txCONS : ByteArray := ⟨#[67, 79, 78, 83]⟩
def txPAIR : ByteArray := ⟨#[80, 65, 73, 82]⟩
def txlist : ByteArray := ⟨#[108, 105, 115, 116]⟩
def txpair : ByteArray := ⟨#[112, 97, 105, 114]⟩
def txodd : ByteArray := ⟨#[111, 100, 100]⟩
def listsD : List Dt := [⟨txlist, [⟨txNIL, []⟩, ⟨txCONS, [txInt, txlist]⟩]⟩, ⟨txpair, [⟨txPAIR, [txBool, txlist, txodd]⟩, ⟨txCONS, [txBool]⟩]⟩]
theorem lists_calls (w : World) : Calls Tryd.prog 22 #[] w fun e w' => ∃ v, e = .returned v ∧ D.rd w' (fun _ => True) (.row 86 2 (listsD.map Dt.enc)) v ∧ Below w.heap.size w w' := by
  go_enter Tryd.func22, Tryd.ntmps22
  go_wp2_with fail
  refine bodyPost_ret (results_tmp rfl _ _ _) rfl ⟨_, rfl, ?_, ?_⟩
  · apply rd_blk (n := 2)
    case h => repeat (first | (with_reducible exact Blk.new _ _ _) | ((with_reducible refine Blk.new' _ _ _ ?_); (focus (simp; done))) | (with_reducible apply Blk.alloc))
    case hn => rfl
    case hl => rfl
    case h63 => decide
    case hok => trivial
    case hc =>
      refine rdCells_cons (us := [_, _]) rfl (rdRow_two rd_txt ?d1) (rdCells_cons (us := [_, _]) rfl (rdRow_two rd_txt ?d2) rdCells_nil)
      case d1 =>
        · apply rd_blk (n := 2)
          case h => repeat (first | (with_reducible exact Blk.new _ _ _) | ((with_reducible refine Blk.new' _ _ _ ?_); (focus (simp; done))) | (with_reducible apply Blk.alloc))
          case hn => rfl
          case hl => rfl
          case h63 => decide
          case hok => trivial
          case hc =>
            refine rdCells_cons (us := [_, _]) rfl (rdRow_two rd_txt (D.rd_nil _ _)) (rdCells_cons (us := [_, _]) rfl (rdRow_two rd_txt ?e1) rdCells_nil)
            case e1 =>
              · apply rd_blk (n := 2)
                case h => repeat (first | (with_reducible exact Blk.new _ _ _) | ((with_reducible refine Blk.new' _ _ _ ?_); (focus (simp; done))) | (with_reducible apply Blk.alloc))
                case hn => rfl
                case hl => rfl
                case h63 => decide
                case hok => trivial
                case hc =>
                  exact rdCells_cons (us := [_]) rfl (rdRow_one rd_txt) (rdCells_cons (us := [_]) rfl (rdRow_one rd_txt) (rdCells_nil))
      case d2 =>
        · apply rd_blk (n := 2)
          case h => repeat (first | (with_reducible exact Blk.new _ _ _) | ((with_reducible refine Blk.new' _ _ _ ?_); (focus (simp; done))) | (with_reducible apply Blk.alloc))
          case hn => rfl
          case hl => rfl
          case h63 => decide
          case hok => trivial
          case hc =>
            refine rdCells_cons (us := [_, _]) rfl (rdRow_two rd_txt ?e2) (rdCells_cons (us := [_, _]) rfl (rdRow_two rd_txt ?e3) rdCells_nil)
            case e2 =>
              · apply rd_blk (n := 3)
                case h => repeat (first | (with_reducible exact Blk.new _ _ _) | ((with_reducible refine Blk.new' _ _ _ ?_); (focus (simp; done))) | (with_reducible apply Blk.alloc))
                case hn => rfl
                case hl => rfl
                case h63 => decide
                case hok => trivial
                case hc =>
                  exact rdCells_cons (us := [_]) rfl (rdRow_one rd_txt) (rdCells_cons (us := [_]) rfl (rdRow_one rd_txt) (rdCells_cons (us := [_]) rfl (rdRow_one rd_txt) (rdCells_nil)))
            case e3 =>
              · apply rd_blk (n := 1)
                case h => repeat (first | (with_reducible exact Blk.new _ _ _) | ((with_reducible refine Blk.new' _ _ _ ?_); (focus (simp; done))) | (with_reducible apply Blk.alloc))
                case hn => rfl
                case hl => rfl
                case h63 => decide
                case hok => trivial
                case hc =>
                  exact rdCells_cons (us := [_]) rfl (rdRow_one rd_txt) (rdCells_nil)
  · repeat (refine ext_alloc ?_ _)
    exact Below.refl _ _
def GreatPost (w : World) (l : List Tm) (e : Ending) (w' : World) : Prop := Below w.heap.size w w' ∧ (e = .returned (.bool true) ∨ e = .returned (.bool false) ∧ Tm.partss l ≤ 3000)
set_option maxHeartbeats 1000000 in
theorem great_calls (datas : List Dt) (l : List Tm) (w : World) (ok ok2 : Nat → Prop) (a b : Value) (ha : D.rd w ok (.row 86 2 (datas.map Dt.enc)) a) (hb : D.rd w ok2 (.row 28 5 (Tm.encs l)) b) (hlow : Tm.lows l) :
    Calls Tryd.prog 5 #[a, b] w (GreatPost w l) := by
  have hd : ∀ W, Below w.heap.size w W → Calls Tryd.prog 18 #[a, .int .i64 300] W (SomeInt W) := fun W h => datasOf_calls datas W ok a 300 (D.rd_ext ha h)
  have ht : ∀ W, Below w.heap.size w W → Calls Tryd.prog 19 #[b, .int .i64 3000] W (Tells W (.int .i64 (Tm.counts l 3000 0))) := fun W h => termsOf_calls l 3000 W ok2 b (D.rd_ext hb h) hlow (by omega) (by omega)
  have hall : Tm.counts l 3000 0 ≤ 3000 → Tm.partss l ≤ 3000 := fun h => by
    have := Tm.counts_all l 3000 0 h
    omega
  have HD := Lib.hid hd
  have HT := Lib.hid ht
  have HA := Lib.hid hall
  obtain ⟨A, c, rfl, _⟩ := rd_map ha
  obtain ⟨B, c', rfl, _⟩ := rd_terms_A hb
  clear hd ht hall ha hb hlow
  generalize Tm.counts l 3000 0 = C at *
  go_enter Tryd.func5, Tryd.ntmps5
  go_wp2_with (first
    | (go_at_call 18; refine (HD.out _ (Below.refl _ _)).mono ?_; rintro e w1 ⟨n, rfl, hb1⟩; have HB1 := Lib.hid hb1; have z1 := hb1.size; clear hb1)
    | (go_at_call 19; refine (HT.out _ HB1.out).mono ?_; rintro e w2 ⟨rfl, hb2⟩; have HB2 := Lib.hid hb2; clear hb2))
  · go_ret
    refine ⟨Below.trans HB1.out (HB2.out.mono (by omega)), ?_⟩
    by_cases h : C ≤ 3000
    · exact .inr ⟨ret_bool (by simp; omega), HA.out h⟩
    · exact .inl (ret_bool (by simp; omega))
  · go_ret
    exact ⟨HB1.out, .inl rfl⟩
end Wh
