import Derived.Test.YtlacfgnjljjdiaaDoorT12
set_option linter.unusedVariables false
set_option linter.unusedSimpArgs false
open Go Go.RowKit Go.Proofs
namespace Wh
/-! ### term.Function -/
theorem str_lit_yes {x y : ByteArray} {l : List UInt8} (hl : y.toList = l) (h : x = y) : (x.toList == l) = true := hl ▸ str_yes h
theorem str_lit_no {x y : ByteArray} {l : List UInt8} (hl : y.toList = l) (h : x ≠ y) : (x.toList == l) = false := hl ▸ str_no h
def txTag : ByteArray := ⟨#[116, 97, 103]⟩
def txInt : ByteArray := ⟨#[105, 110, 116]⟩
def txBool : ByteArray := ⟨#[98, 111, 111, 108]⟩
def txNone : ByteArray := ⟨#[]⟩
def conFind (nm : ByteArray) : List Cn → Option Cn
  | [] => none
  | c :: cs => if c.name = nm then some c else conFind nm cs
def dataFind (nm : ByteArray) : List Dt → Option (Dt × Cn)
  | [] => none
  | d :: ds => match conFind nm d.cons with
    | some c => some (d, c)
    | none => dataFind nm ds
def funRes (i : Nat) : Option (Dt × Cn) → Option (ByteArray × ByteArray)
  | some (d, c) => (c.fields[i]?).map fun f => (d.name, f)
  | none => none
/-- A function's sorts, if there is one of that name. -/
def funOf (ds : List Dt) (name : ByteArray) : Option (ByteArray × ByteArray) :=
  if name = txTag then some (txNone, txInt)
  else if h : 2 ≤ name.size then
    if name[name.size - 2] = 46 ∧ 48 ≤ name[name.size - 1] ∧ name[name.size - 1] ≤ 57 then
      funRes (name[name.size - 1].toNat - 48) (dataFind (name.extract 0 (name.size - 2)) ds)
    else none
  else none
def FunPost (w : World) (r : Option (ByteArray × ByteArray)) (e : Ending) (w' : World) : Prop :=
  Below w.heap.size w w' ∧ match r with
  | some (f, t) => e = .returned (.tuple #[.string f, .string t, .bool true])
  | none => e = .returned (.tuple #[.string txNone, .string txNone, .bool false])
set_option maxHeartbeats 2000000 in
set_option maxRecDepth 100000 in
theorem function_calls (l : List Dt) (name : ByteArray) (w : World) (ok : Nat → Prop) (a : Value) (ha : D.rd w ok (.row 86 2 (l.map Dt.enc)) a) (hn : name.size ≤ 4611686018427387904) :
    Calls Tryd.prog 21 #[a, .string name] w (FunPost w (funOf l name)) := by
  obtain ⟨A, c, rfl, hl⟩ := rd_map ha
  have HA := Lib.hid ha
  clear ha
  by_cases htag : name = txTag
  · have h1 : (name.toList == [116, 97, 103]) = true := str_lit_yes (y := txTag) (by simp [txTag, ByteArray.toList_eq]) htag
    have hf : funOf l name = some (txNone, txInt) := by simp [funOf, htag]
    rw [hf]
    clear htag hf
    go_enter Tryd.func21, Tryd.ntmps21
    go_wp2_with fail
    exact bodyPost_ret (v := .tuple #[.string txNone, .string txInt, .bool true]) (by simp [results, Tryd.results21, go_sem, txNone, txInt]) rfl ⟨Below.refl _ _, rfl⟩
  · have h1 : (name.toList == [116, 97, 103]) = false := str_lit_no (y := txTag) (by simp [txTag, ByteArray.toList_eq]) htag
    have HT := Lib.hid htag
    clear htag
    by_cases hsz : 2 ≤ name.size
    · have g1 : (0 : Int) ≤ name.size - 2 := by omega
      have g2 : (name.size : Int) - 2 < name.size := by omega
      have g3 : (0 : Int) ≤ name.size - 2 + 1 := by omega
      have g4 : (name.size : Int) - 2 + 1 < name.size := by omega
      have k1 : name.size - 2 < name.size := by omega
      have k2 : name.size - 2 + 1 < name.size := by omega
      have hrest : ¬ (name[name.size - 2] = 46 ∧ 48 ≤ name[name.size - 1] ∧ name[name.size - 1] ≤ 57) → funOf l name = none := by
        intro h
        simp only [funOf, HT.out, if_false, hsz, dite_true, if_neg h]
      have heq : name[name.size - 1] = name[name.size - 2 + 1] := by congr 1; omega
      rw [heq] at hrest
      by_cases hA : (name[name.size - 2].toNat : Int) = 46
      · by_cases hB : (48 : Int) ≤ name[name.size - 2 + 1].toNat
        · by_cases hC : (name[name.size - 2 + 1].toNat : Int) ≤ 57
          · have hgo : funOf l name = funRes (name[name.size - 2 + 1].toNat - 48) (dataFind (name.extract 0 (name.size - 2)) l) := by
              have hh : name[name.size - 2] = 46 ∧ 48 ≤ name[name.size - 1] ∧ name[name.size - 1] ≤ 57 := by
                rw [heq]
                exact ⟨by rw [← UInt8.toNat_inj]; exact Int.ofNat.inj hA, by rw [UInt8.le_iff_toNat_le]; exact Int.ofNat_le.1 hB, by rw [UInt8.le_iff_toNat_le]; exact Int.ofNat_le.1 hC⟩
              rw [heq] at hh
              simp only [funOf, HT.out, if_false, hsz, dite_true, heq, if_pos hh]
            rw [hgo]
            clear hgo hrest heq
            go_enter Tryd.func21, Tryd.ntmps21
            go_wp2_with fail
            go_loopw [42] (fun i wr => ∃ (k : Nat), k ≤ l.length ∧ i = .int .i64 k ∧ Below w.heap.size w wr ∧ Hid (dataFind (name.extract 0 (name.size - 2)) l = dataFind (name.extract 0 (name.size - 2)) (l.drop k))) (fun i _ => l.length - (intOf i).toNat)
            case atStart => exact ⟨0, Nat.zero_le _, rfl, Below.refl _ _, rfl⟩
            case round =>
              obtain ⟨k, hk, rfl, hbw, hfind⟩ := hrel
              rename World => wo
              have HBW := Lib.hid hbw
              clear hbw
              by_cases hlt : k < l.length
              · have b1 : (0 : Int) ≤ k := by omega
                have b2 : (k : Int) < l.length := by omega
                have hdrop : l.drop k = l[k] :: l.drop (k + 1) := by rw [List.drop_eq_getElem_cons hlt]
                obtain ⟨g, o, cA, cc, rfl, _, hg, c0, c1, hcl, hr⟩ := Dt.at_ (D.rd_ext HA.out HBW.out) k hlt
                have HR := Lib.hid hr
                have HD := Lib.hid hdrop
                clear hr hdrop
                generalize l[k] = d at *
                go_wp2_with fail
                go_loopw [49] (fun i wx => ∃ (j : Nat), j ≤ d.cons.length ∧ i = .int .i64 j ∧ Below (wo.heap.size + 1) (wo.alloc (.cells #[.string d.name, .slice cA d.cons.length cc] 86)) wx ∧ Hid (conFind (name.extract 0 (name.size - 2)) d.cons = conFind (name.extract 0 (name.size - 2)) (d.cons.drop j))) (fun i _ => d.cons.length - (intOf i).toNat)
                case atStart => exact ⟨0, Nat.zero_le _, rfl, Below.refl _ _, rfl⟩
                case round =>
                  obtain ⟨j, hj, rfl, hbx, hcf⟩ := hrel
                  have hdb := (Blk.new wo (#[.string d.name, .slice cA d.cons.length cc]) 86).below hbx (by omega)
                  have hext : Below wo.heap.size wo wr := Below.trans (ext_alloc (Below.refl _ _) _) (hbx.mono (by omega))
                  obtain ⟨d0, d1, _⟩ := Blk.c2 hdb
                  have hdl := hdb.lt
                  have HBX := Lib.hid hbx
                  have HEXT := Lib.hid hext
                  clear hbx hdb hext
                  by_cases hlt2 : j < d.cons.length
                  · have d1 : (0 : Int) ≤ j := by omega
                    have d2 : (j : Int) < d.cons.length := by omega
                    have hdrop2 : d.cons.drop j = d.cons[j] :: d.cons.drop (j + 1) := by rw [List.drop_eq_getElem_cons hlt2]
                    obtain ⟨g2, o2, fA, fc, rfl, _, hg2, e0, e1, hfl, hr2⟩ := Cn.at_ (D.rd_ext HR.out HEXT.out) j hlt2
                    have HR2 := Lib.hid hr2
                    have HD2 := Lib.hid hdrop2
                    clear hr2 hdrop2
                    generalize d.cons[j] = cn at *
                    by_cases hcn : cn.name = name.extract 0 (name.size - 2)
                    · have hcb := str_yes hcn
                      have hcon : conFind (name.extract 0 (name.size - 2)) d.cons = some cn := by rw [hcf.out, HD2.out, conFind, if_pos hcn]
                      have hdat : dataFind (name.extract 0 (name.size - 2)) l = some (d, cn) := by rw [hfind.out, HD.out, dataFind, hcon]
                      have HDAT := Lib.hid hdat
                      clear hcn hcon hdat hfind hcf
                      obtain ⟨n, hn48⟩ : ∃ n, name[name.size - 2 + 1].toNat = n + 48 := ⟨name[name.size - 2 + 1].toNat - 48, by omega⟩
                      have HN48 := Lib.hid hn48
                      by_cases hi : n < cn.fields.length
                      · have hi2 : (n : Int) < cn.fields.length := by omega
                        obtain ⟨g3, o3, x, rfl, _, hg3, hx, hc3⟩ := D.strs_at HR2.out n hi
                        have hx2 : cn.fields[n]? = some x := hx
                        have HX := Lib.hid hx2
                        clear hx hx2
                        go_wp2_with fail
                        go_quiet (fail)
                        go_wp2_with fail
                        go_quiet (fail)
                        go_wp2_with fail
                        refine bodyPost_ret (v := .tuple #[.string d.name, .string x, .bool true]) (by simp [results, Tryd.results21, go_sem]) rfl ?_
                        refine ⟨below_drewN (ext_alloc (below_drewN (Below.trans HBW.out (HEXT.out.mono HBW.out.size)) _) _) _, ?_⟩
                        rw [HDAT.out, HN48.out]
                        simp [funRes, HX.out]
                      · have hi2 : (cn.fields.length : Int) ≤ n := by omega
                        have hno : cn.fields[n]? = none := by simp; omega
                        have HX := Lib.hid hno
                        clear hno
                        go_wp2_with fail
                        go_quiet (fail)
                        go_wp2_with fail
                        refine bodyPost_ret (v := .tuple #[.string txNone, .string txNone, .bool false]) (by simp [results, Tryd.results21, go_sem, txNone]) rfl ?_
                        refine ⟨below_drewN (ext_alloc (Below.trans HBW.out (HEXT.out.mono HBW.out.size)) _) _, ?_⟩
                        rw [HDAT.out, HN48.out]
                        simp [funRes, HX.out]
                    · have hcb := str_no hcn
                      have HCN := Lib.hid hcn
                      clear hcn
                      go_wp2_with fail
                      go_quiet (fail)
                      go_wp2_with fail
                      go_roundw
                      case rel => exact ⟨j + 1, by omega, by go_num, below_drewN (Below.alloc HBX.out (by omega) _) _, by rw [hcf.out, HD2.out, conFind, if_neg HCN.out]; exact rfl⟩
                      case measure => simp [intOf]; omega
                  · have hno : conFind (name.extract 0 (name.size - 2)) d.cons = none := by rw [hcf.out, List.drop_of_length_le (by omega)]; rfl
                    have HNO := Lib.hid hno
                    clear hno hcf
                    go_wp2_with fail
                    go_roundw
                    case rel => exact ⟨k + 1, by omega, by go_num, Below.trans HBW.out (HEXT.out.mono HBW.out.size), by rw [hfind.out, HD.out, dataFind, HNO.out]; exact rfl⟩
                    case measure => simp [intOf]; omega
              · have hno : dataFind (name.extract 0 (name.size - 2)) l = none := by rw [hfind.out, List.drop_of_length_le (by omega)]; rfl
                have HNO := Lib.hid hno
                clear hno hfind
                go_wp2_with fail
                refine bodyPost_ret (v := .tuple #[.string txNone, .string txNone, .bool false]) (by simp [results, Tryd.results21, go_sem, txNone]) rfl ?_
                rw [HNO.out]
                exact ⟨HBW.out, rfl⟩
          · rw [hrest (fun h => hC (by have := h.2.2; rw [UInt8.le_iff_toNat_le] at this; exact Int.ofNat_le.2 this))]
            clear hrest heq
            go_enter Tryd.func21, Tryd.ntmps21
            go_wp2_with fail
            exact bodyPost_ret (v := .tuple #[.string txNone, .string txNone, .bool false]) (by simp [results, Tryd.results21, go_sem, txNone]) rfl ⟨Below.refl _ _, rfl⟩
        · rw [hrest (fun h => hB (by have := h.2.1; rw [UInt8.le_iff_toNat_le] at this; exact Int.ofNat_le.2 this))]
          clear hrest heq
          go_enter Tryd.func21, Tryd.ntmps21
          go_wp2_with fail
          exact bodyPost_ret (v := .tuple #[.string txNone, .string txNone, .bool false]) (by simp [results, Tryd.results21, go_sem, txNone]) rfl ⟨Below.refl _ _, rfl⟩
      · rw [hrest (fun h => hA (by rw [h.1]; rfl))]
        clear hrest heq
        go_enter Tryd.func21, Tryd.ntmps21
        go_wp2_with fail
        exact bodyPost_ret (v := .tuple #[.string txNone, .string txNone, .bool false]) (by simp [results, Tryd.results21, go_sem, txNone]) rfl ⟨Below.refl _ _, rfl⟩
    · have hf : funOf l name = none := by simp [funOf, HT.out, hsz]
      rw [hf]
      have hs2 : name.size < 2 := by omega
      clear hf hsz
      go_enter Tryd.func21, Tryd.ntmps21
      go_wp2_with fail
      exact bodyPost_ret (v := .tuple #[.string txNone, .string txNone, .bool false]) (by simp [results, Tryd.results21, go_sem, txNone]) rfl ⟨Below.refl _ _, rfl⟩
end Wh
