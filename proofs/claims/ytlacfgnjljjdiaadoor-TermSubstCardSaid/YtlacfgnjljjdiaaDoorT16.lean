import Derived.Test.YtlacfgnjljjdiaaDoorT15
set_option linter.unusedVariables false
set_option linter.unusedSimpArgs false
open Go Go.RowKit Go.Proofs
namespace Wh
def flat (ws : List ByteArray) : List UInt8 := (ws.map (·.data.toList)).flatten
theorem flat_snoc (ws : List ByteArray) (k : Nat) (h : k < ws.length) : flat (ws.take (k + 1)) = flat (ws.take k) ++ ws[k].data.toList := by
  unfold flat
  rw [List.take_succ_eq_append_getElem h, List.map_append, List.flatten_append]
  simp
theorem flat_take_le (ws : List ByteArray) (k : Nat) : (flat (ws.take k)).length ≤ (flat ws).length := by
  have : flat ws = flat (ws.take k) ++ flat (ws.drop k) := by
    unfold flat
    rw [← List.flatten_append, ← List.map_append, List.take_append_drop]
  rw [this]
  simp
def WordsAt (w : World) (g : Nat) (ws : List ByteArray) : Prop := Blk w g (ws.map Value.string).toArray 9
set_option maxHeartbeats 1000000 in
set_option maxRecDepth 100000 in
theorem put_calls (base b g : Nat) (l : List UInt8) (ws : List ByteArray) (w : World) (h : IsWr w base b l) (hg : WordsAt w g ws) (hgb : g ≠ b) (hn : ws.length ≤ 1000000) (hlen : l.length + (flat ws).length ≤ 140737488355328) (hbase : base ≤ w.heap.size) :
    Calls Tryd.prog 42 #[.pointer (some ⟨b, 0, none⟩), .slice (some ⟨g, 0, none⟩) ws.length ws.length] w fun e w' => e = .returned (.tuple #[]) ∧ IsWr w' base b (l ++ flat ws) ∧ Wrote w w' base b := by
  have HW := Lib.hid h
  have HG := Lib.hid hg
  clear h hg
  go_enter Tryd.func42, Tryd.ntmps42
  go_wp2_with fail
  go_loopw [8] (fun i wr => ∃ k : Nat, k ≤ ws.length ∧ i = .int .i64 k ∧ IsWr wr base b (l ++ flat (ws.take k)) ∧ Wrote w wr base b) (fun i _ => ws.length - (intOf i).toNat)
  case atStart => exact ⟨0, Nat.zero_le _, rfl, by simpa [flat] using HW.out, Wrote.refl _ _ _⟩
  case round =>
    obtain ⟨k, hk, rfl, hw, hr⟩ := hrel
    by_cases hlt : k < ws.length
    · have b1 : (0 : Int) ≤ k := by omega
      have b2 : (k : Int) < ws.length := by omega
      have hgw := HG.out.wrote hr hgb (by decide)
      have c0 : wr.cell? ⟨g, k, none⟩ = some (.string ws[k]) := by
        have := hgw.cell k
        simpa [hlt] using this
      have hf := flat_snoc ws k hlt
      have hle := flat_take_le ws (k + 1)
      have hfl : (flat (ws.take (k + 1))).length = (flat (ws.take k)).length + ws[k].size := by
        rw [hf]
        simp
      have hcall := writeString_calls base b (l ++ flat (ws.take k)) ws[k] wr hw (by rw [List.length_append]; omega) (Nat.le_trans hbase hr.size)
      have HC := Lib.hid hcall
      have HR := Lib.hid hr
      have HF := Lib.hid hf
      clear hcall hw hgw hfl hle hf hr
      generalize ws[k] = word at *
      go_wp2_with fail
      refine HC.out.mono ?_
      rintro e w2 ⟨rfl, hw2, hwr⟩
      dsimp only
      go_wp2_with fail
      go_roundw
      case rel => exact ⟨k + 1, by omega, by go_num, .inr (by rw [HF.out, ← List.append_assoc]; exact hw2), HR.out.trans hwr⟩
      case measure => simp [intOf]; omega
    · go_wp2_with fail
      go_end0
      have hk2 : k = ws.length := by omega
      subst hk2
      rw [List.take_length] at hw
      exact ⟨rfl, hw, hr⟩
end Wh
