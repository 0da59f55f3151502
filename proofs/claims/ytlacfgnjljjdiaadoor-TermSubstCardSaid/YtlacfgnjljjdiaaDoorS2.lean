import Derived.Test.YtlacfgnjljjdiaaDoorT27
import Derived.Test.YtlacfgnjljjdiaaDoorT8
import Derived.RangeFuncNested
import Derived.RangeFuncBound
import Derived.RangeFuncCalls
import Derived.RangeFuncLeaves
import Derived.Shelf.Abstract
import Derived.Shelf.RegionOpen
import Derived.OwnWalkIn
import Derived.TacticsInMore
import Derived.LoopNIn
import Derived.LoopIn
set_option linter.unusedVariables false
set_option linter.unusedSimpArgs false
open Go Go.RowKit Go.Proofs
namespace Wh
/-! ### the sorter: data, base -/
/-- The fence of a walk that ranges over a function: all functions of the program. -/
def FX : Fence := { fn := fun f => f < 163, depth := none, alive := false }
@[simp] theorem FX_fn (f : FuncId) : FX.fn f = (f < 163) := rfl
@[simp] theorem FX_depth : FX.depth = none := rfl
@[simp] theorem FX_round : FX.round = none := rfl
@[simp] theorem FX_inRound (l : Nat) (f : FuncId) : (FX.inRound l).fn f = (f < 163) := rfl
@[simp] theorem FX_inRound_depth (l : Nat) : (FX.inRound l).depth = none := rfl
def hasData (l : List Dt) (s : ByteArray) : Bool := l.any fun d => decide (d.name = s)
def isData (l : List Dt) (s : ByteArray) : Bool := decide (s ≠ txInt) && decide (s ≠ txBool) && hasData l s
def isBase (l : List Dt) (s : ByteArray) : Bool := decide (s = txInt) || decide (s = txBool) || isData l s
theorem data1_calls_in (n : Nat) (nm s : ByteArray) (v : Value) (bx : Nat) (w : World) (hb : Blk w bx #[.string s] 9) : CallsIn FX n Tryd.prog 122 #[.agg #[.string nm, v], .pointer (some ⟨bx, 0, none⟩)] w (Tells w (.bool (decide (nm = s)))) := by
  obtain ⟨c0, f0⟩ := Blk.c1 hb
  have hlt := hb.lt
  by_cases h : nm = s
  · have h1 : (nm.toList == s.toList) = true := str_yes h
    rw [decide_eq_true h]
    clear h hb
    gi_enter Tryd.func122, Tryd.ntmps122
    gi_wp2_with fail
    go_ret
    exact ⟨rfl, ext_alloc (Below.refl _ _) _⟩
  · have h1 : (nm.toList == s.toList) = false := str_no h
    rw [decide_eq_false h]
    clear h hb
    gi_enter Tryd.func122, Tryd.ntmps122
    gi_wp2_with fail
    go_ret
    exact ⟨rfl, ext_alloc (Below.refl _ _) _⟩
def IdxPost (l : List Dt) (s : ByteArray) (w : World) (e : Ending) (w' : World) : Prop := Below w.heap.size w w' ∧ ∃ i : Int, e = .returned (.int .i64 i) ∧ decide (0 ≤ i) = hasData l s
theorem hasData_yes {l : List Dt} {s : ByteArray} {k : Nat} (hk : k < l.length) (h : l[k].name = s) : hasData l s = true := by
  unfold hasData
  rw [List.any_eq_true]
  exact ⟨l[k], List.getElem_mem hk, by simpa using h⟩
theorem hasData_no {l : List Dt} {s : ByteArray} (h : ∀ j (hj : j < l.length), l[j].name ≠ s) : hasData l s = false := by
  unfold hasData
  rw [List.any_eq_false]
  intro d hd
  obtain ⟨j, hj, rfl⟩ := List.getElem_of_mem hd
  simpa using h j hj
set_option maxHeartbeats 1000000 in
set_option maxRecDepth 100000 in
theorem indexData_calls_in (n : Nat) (l : List Dt) (s : ByteArray) (bx : Nat) (w : World) (ok : Nat → Prop) (a : Value) (ha : D.rd w ok (.row 86 2 (l.map Dt.enc)) a) (hb : Blk w bx #[.string s] 9) :
    CallsIn FX n Tryd.prog 131 #[a, .func (.func 122) #[] #[.pointer (some ⟨bx, 0, none⟩)]] w (IdxPost l s w) := by
  obtain ⟨A, c, rfl, hl⟩ := rd_map ha
  have HA := Lib.hid ha
  have HB := Lib.hid hb
  clear ha hb
  gi_enter Tryd.func131, Tryd.ntmps131
  gi_wp2_with fail
  gi_loopw [8] (fun i wr => ∃ k : Nat, k ≤ l.length ∧ i = .int .i64 k ∧ Below w.heap.size w wr ∧ Hid (∀ j (hj : j < l.length), j < k → l[j].name ≠ s)) (fun i _ => l.length - (RowKit.intOf i).toNat)
  case atStart => exact ⟨0, Nat.zero_le _, rfl, Below.refl _ _, Lib.hid (fun j hj h => absurd h (by omega))⟩
  case round =>
    obtain ⟨k, hk, rfl, hbw, HN⟩ := hrel
    rename World => wl
    have HBW := Lib.hid hbw
    clear hbw
    by_cases hlt : k < l.length
    · have b1 : (0 : Int) ≤ k := by omega
      have b2 : (k : Int) < l.length := by omega
      obtain ⟨g, o, cA, cc, rfl, _, hg, c0, c1, hcl, hr⟩ := Dt.at_ (D.rd_ext HA.out HBW.out) k hlt
      have HX := Lib.hid (HB.out.ext HBW.out)
      clear hr
      by_cases hnm : l[k].name = s
      · have HY := Lib.hid (hasData_yes hlt hnm)
        have HNM := Lib.hid hnm
        clear hnm
        generalize hd : l[k] = d at *
        have HD := Lib.hid hd
        clear hd
        gi_wp2_with fail
        refine (data1_calls_in _ d.name s _ bx wl HX.out).mono ?_
        rintro e w2 ⟨rfl, hb2⟩
        rw [decide_eq_true HNM.out]
        have HB2 := Lib.hid (Below.trans HBW.out (hb2.mono HBW.out.size))
        clear hb2
        dsimp only
        gi_wp2_with fail
        go_ret
        exact ⟨HB2.out, _, rfl, by rw [HY.out]; simp⟩
      · have HNM := Lib.hid hnm
        clear hnm
        have HK := Lib.hid (show ∀ j (hj : j < l.length), j < k + 1 → l[j].name ≠ s from fun j hj h => by
          by_cases hjk : j = k
          · subst hjk
            exact HNM.out
          · exact HN.out j hj (by omega))
        generalize hd : l[k] = d at *
        have HD := Lib.hid hd
        clear hd
        gi_wp2_with fail
        refine (data1_calls_in _ d.name s _ bx wl HX.out).mono ?_
        rintro e w2 ⟨rfl, hb2⟩
        rw [decide_eq_false HNM.out]
        have HB2 := Lib.hid (Below.trans HBW.out (hb2.mono HBW.out.size))
        clear hb2
        dsimp only
        gi_wp2_with fail
        go_roundw
        case rel => exact ⟨k + 1, by omega, by go_num, HB2.out, HK⟩
        case measure => simp [RowKit.intOf]; omega
    · have HNO := Lib.hid (hasData_no (l := l) (s := s) (fun j hj => HN.out j hj (by omega)))
      gi_wp2_with fail
      go_ret
      exact ⟨HBW.out, _, rfl, by rw [HNO.out]; simp⟩
theorem containsData_calls_in (n : Nat) (l : List Dt) (s : ByteArray) (bx : Nat) (w : World) (ok : Nat → Prop) (a : Value) (ha : D.rd w ok (.row 86 2 (l.map Dt.enc)) a) (hb : Blk w bx #[.string s] 9) :
    CallsIn FX n Tryd.prog 121 #[a, .func (.func 122) #[] #[.pointer (some ⟨bx, 0, none⟩)]] w (Tells w (.bool (hasData l s))) := by
  have HC := Lib.hid (indexData_calls_in (n - 1) l s bx w ok a ha hb)
  clear ha hb
  gi_enter Tryd.func121, Tryd.ntmps121
  gi_wp2_with fail
  refine HC.out.mono ?_
  rintro e w2 ⟨hb2, i, rfl, hi⟩
  have HI := Lib.hid hi
  clear hi
  dsimp only
  gi_wp2_with fail
  go_ret
  exact ⟨by rw [← HI.out]; rfl, hb2⟩
set_option maxHeartbeats 1000000 in
theorem data_calls_in (n : Nat) (l : List Dt) (s : ByteArray) (sb : Nat) (w : World) (ok : Nat → Prop) (a v : Value) (ha : D.rd w ok (.row 86 2 (l.map Dt.enc)) a) (hb : Blk w sb #[a, v] 115) :
    CallsIn FX n Tryd.prog 103 #[.pointer (some ⟨sb, 0, none⟩), .string s] w (Tells w (.bool (isData l s))) := by
  have HC := Lib.hid (containsData_calls_in (n - 1) l s w.heap.size (w.alloc (.cells #[.string s] 9)) ok a (D.rd_ext ha (ext_alloc (Below.refl _ _) _)) (Blk.new _ _ _))
  have hmf : ∀ (fn : Fn) (first cap : Array Value) (w : World), (Instr.makeFunc fn first cap).run Tryd.prog w = .ok (.func fn first cap) w := fun _ _ _ _ => rfl
  obtain ⟨A, c, rfl, hl⟩ := rd_map ha
  obtain ⟨c0, c1, f0, f1⟩ := Blk.c2 hb
  have hlt := hb.lt
  clear ha hb
  by_cases h1 : s = txInt
  · have e1 : (s.toList == [105, 110, 116]) = true := str_lit_yes (y := txInt) (by simp [txInt, ByteArray.toList_eq]) h1
    have hr : isData l s = false := by simp [isData, h1]
    rw [hr]
    clear h1 hr HC
    gi_enter Tryd.func103, Tryd.ntmps103
    gi_wp2_with fail
    go_ret
    exact ⟨rfl, ext_alloc (Below.refl _ _) _⟩
  · have e1 : (s.toList == [105, 110, 116]) = false := str_lit_no (y := txInt) (by simp [txInt, ByteArray.toList_eq]) h1
    by_cases h2 : s = txBool
    · have e2 : (s.toList == [98, 111, 111, 108]) = true := str_lit_yes (y := txBool) (by simp [txBool, ByteArray.toList_eq]) h2
      have hr : isData l s = false := by simp [isData, h2]
      rw [hr]
      clear h1 h2 hr HC
      gi_enter Tryd.func103, Tryd.ntmps103
      gi_wp2_with fail
      go_ret
      exact ⟨rfl, ext_alloc (Below.refl _ _) _⟩
    · have e2 : (s.toList == [98, 111, 111, 108]) = false := str_lit_no (y := txBool) (by simp [txBool, ByteArray.toList_eq]) h2
      have hr : isData l s = hasData l s := by simp [isData, h1, h2]
      rw [hr]
      clear h1 h2 hr
      gi_enter Tryd.func103, Tryd.ntmps103
      gi_wp2_with fail
      refine HC.out.mono ?_
      rintro e w2 ⟨rfl, hb2⟩
      have HB2 := Lib.hid (Below.trans (ext_alloc (Below.refl w.heap.size w) (.cells #[.string s] 9)) (hb2.mono (by simp)))
      clear hb2
      dsimp only
      gi_wp2_with fail
      go_ret
      exact ⟨rfl, HB2.out⟩
theorem base_calls_in (n : Nat) (l : List Dt) (s : ByteArray) (sb : Nat) (w : World) (ok : Nat → Prop) (a v : Value) (ha : D.rd w ok (.row 86 2 (l.map Dt.enc)) a) (hb : Blk w sb #[a, v] 115) :
    CallsIn FX n Tryd.prog 102 #[.pointer (some ⟨sb, 0, none⟩), .string s] w (Tells w (.bool (isBase l s))) := by
  have HC := Lib.hid (data_calls_in (n - 1) l s sb w ok a v ha hb)
  clear ha hb
  by_cases h1 : s = txInt
  · have e1 : (s.toList == [105, 110, 116]) = true := str_lit_yes (y := txInt) (by simp [txInt, ByteArray.toList_eq]) h1
    have hr : isBase l s = true := by simp [isBase, h1]
    rw [hr]
    clear h1 hr HC
    gi_enter Tryd.func102, Tryd.ntmps102
    gi_wp2_with fail
    go_ret
    exact ⟨rfl, Below.refl _ _⟩
  · have e1 : (s.toList == [105, 110, 116]) = false := str_lit_no (y := txInt) (by simp [txInt, ByteArray.toList_eq]) h1
    by_cases h2 : s = txBool
    · have e2 : (s.toList == [98, 111, 111, 108]) = true := str_lit_yes (y := txBool) (by simp [txBool, ByteArray.toList_eq]) h2
      have hr : isBase l s = true := by simp [isBase, h2]
      rw [hr]
      clear h1 h2 hr HC
      gi_enter Tryd.func102, Tryd.ntmps102
      gi_wp2_with fail
      go_ret
      exact ⟨rfl, Below.refl _ _⟩
    · have e2 : (s.toList == [98, 111, 111, 108]) = false := str_lit_no (y := txBool) (by simp [txBool, ByteArray.toList_eq]) h2
      have hr : isBase l s = isData l s := by simp [isBase, h1, h2]
      rw [hr]
      clear h1 h2 hr
      gi_enter Tryd.func102, Tryd.ntmps102
      gi_wp2_with fail
      refine HC.out.mono ?_
      rintro e w2 ⟨rfl, hb2⟩
      dsimp only
      gi_wp2_with fail
      go_ret
      exact ⟨rfl, hb2⟩
end Wh
