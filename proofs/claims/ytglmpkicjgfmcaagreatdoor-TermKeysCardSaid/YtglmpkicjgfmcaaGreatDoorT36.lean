import Derived.Test.YtglmpkicjgfmcaaGreatDoorT8
set_option linter.unusedVariables false
set_option linter.unusedSimpArgs false
open Go Go.RowKit Go.Proofs
namespace Wh
set_option maxHeartbeats 400000 in
theorem sameTexts_calls (w : World) (ok1 ok2 : Nat → Prop) (xs ys : List ByteArray) (a b : Value)
   (ha : D.rd w ok1 (.strs 9 xs) a) (hb : D.rd w ok2 (.strs 9 ys) b) :
   Calls Tryz.prog 11 #[a, b] w (Tells w (.bool (decide (xs = ys)))) := by
  obtain ⟨A, c, rfl, hl, _, hA⟩ := D.rd_strs ha
  obtain ⟨B, c', rfl, hl', _, hB⟩ := D.rd_strs hb
  clear ha hb
  by_cases hlen : xs.length = ys.length
  · have h1 : ((xs.length : Int) != (ys.length : Int)) = false := by simp [hlen]
    have HL := Lib.hid hlen
    have HA := Lib.hid hA
    have HB := Lib.hid hB
    clear hlen hA hB
    go_enter Tryz.func11, Tryz.ntmps11
    go_wp2_with fail
    go_loopw [5] (fun i wr => ∃ k n : Nat, k ≤ xs.length ∧ i = .int .i64 k ∧ wr = w.drewN n ∧ xs.take k = ys.take k) (fun i _ => xs.length - (intOf i).toNat)
    case atStart => exact ⟨0, 0, Nat.zero_le _, rfl, rfl, rfl⟩
    case round =>
      obtain ⟨k, n, hk, rfl, rfl, ht⟩ := hrel
      have HT := Lib.hid ht
      clear ht
      by_cases hlt : k < xs.length
      · obtain ⟨g, o, x, rfl, _, hx, hc⟩ := HA.out k hlt
        obtain ⟨g', o', y, rfl, _, hy, hc'⟩ := HB.out k (HL.out ▸ hlt)
        have hlt2 : k < ys.length := HL.out ▸ hlt
        have HX := Lib.hid hx
        have HY := Lib.hid hy
        clear hx hy HA HB
        have b1 : (0 : Int) ≤ k := by omega
        have b2 : (k : Int) < xs.length := by omega
        have b3 : (k : Int) < ys.length := by omega
        by_cases he : x = y
        · have he1 : (x.toList == y.toList) = true := by simp [he]
          have HE := Lib.hid he
          clear he
          go_wp2_with fail
          go_quiet (fail)
          go_wp2_with fail
          go_roundw
          case rel => exact ⟨k + 1, _, by omega, by go_num, rfl, take_eq_succ HT.out HX.out HY.out HE.out⟩
          case measure => simp [intOf]; omega
        · have he1 : (x.toList == y.toList) = false := by rw [beq_eq_false_iff_ne]; intro e; rw [ByteArray.toList_eq, ByteArray.toList_eq] at e; exact he (ByteArray.ext (Array.toList_inj.1 e))
          have HE := Lib.hid he
          clear he
          go_wp2_with fail
          go_quiet (fail)
          go_wp2_with fail
          go_ret
          exact ⟨ret_ndec (take_ne HX.out HY.out HE.out), below_drewN (below_drewN (Below.refl _ _) _) _⟩
      · go_wp2_with fail
        go_ret
        exact ⟨ret_dec (take_all HL.out hlt HT.out), below_drewN (Below.refl _ _) _⟩
  · have h1 : ((xs.length : Int) != (ys.length : Int)) = true := by simp; omega
    have hne : xs ≠ ys := fun h => hlen (by rw [h])
    have HN := Lib.hid hne
    clear hne hlen
    go_enter Tryz.func11, Tryz.ntmps11
    go_wp2_with fail
    go_ret
    exact ⟨ret_ndec HN.out, Below.refl _ _⟩
end Wh
