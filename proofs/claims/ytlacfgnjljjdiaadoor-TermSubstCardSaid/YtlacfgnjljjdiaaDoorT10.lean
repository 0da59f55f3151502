import Derived.Test.YtlacfgnjljjdiaaDoorT9
set_option linter.unusedVariables false
set_option linter.unusedSimpArgs false
open Go Go.RowKit Go.Proofs
namespace Wh
theorem Tm.counts_step (l : List Tm) (m : Int) : ∀ (k : Nat) (n : Int) (hk : k < l.length), Tm.counts (l.drop k) m n = if n ≤ m then Tm.counts (l.drop (k + 1)) m (n + (l[k]).count (m - n)) else n := by
  intro k n hk
  rw [List.drop_eq_getElem_cons hk]
  simp [Tm.counts]
set_option maxHeartbeats 1000000 in
set_option maxRecDepth 100000 in
theorem termsOf_step (xs : List Tm) (ih : ∀ t ∈ xs, CountAt t) : CountsAt xs := by
  intro m w ok a ha hlow hm0 hm1
  obtain ⟨A, c, rfl, hl⟩ := rd_terms_A ha
  have HA := Lib.hid ha
  have HI := Lib.hid ih
  have HL := Lib.hid hlow
  clear ha ih hlow
  go_enter Tryd.func19, Tryd.ntmps19
  go_wp2_with fail
  go_loopw [5, 6] (fun s i wr => ∃ (k : Nat) (n : Int), k ≤ xs.length ∧ s = .int .i64 n ∧ i = .int .i64 k ∧ 0 ≤ n ∧ n ≤ 4611686018427387904 ∧ Below w.heap.size w wr ∧ Tm.counts (xs.drop k) m n = Tm.counts xs m 0) (fun _ i _ => xs.length - (intOf i).toNat)
  case atStart => exact ⟨0, 0, Nat.zero_le _, rfl, rfl, by omega, by omega, Below.refl _ _, rfl⟩
  case round =>
    obtain ⟨k, n, hk, rfl, rfl, hn0, hn1, hbw, ht⟩ := hrel
    have HT := Lib.hid ht
    have HBW := Lib.hid hbw
    have hsz := hbw.size
    clear ht hbw
    by_cases hlt : k < xs.length
    · have b1 : (0 : Int) ≤ k := by omega
      have b2 : (k : Int) < xs.length := by omega
      by_cases hle : n ≤ m
      · obtain ⟨g, o, kd, nm, ng, xd, ls, dA, dc, lA, lc, rfl, _, hg, hkk, hr, c0, c1, c2, c3, c4⟩ := Tm.kid (D.rd_ext HA.out HBW.out) k hlt
        have hcall := HI.out (xs[k]) (List.getElem_mem hlt)
        have hlow := Tm.lows_get xs HL.out k hlt
        have hst := Tm.counts_step xs m k n hlt
        have hc1 := Tm.count_le (xs[k]) (m - n) hlow (by omega)
        have hc2 := Tm.count_pos (xs[k]) (m - n)
        rw [hkk] at hcall hlow hst hc1 hc2
        rw [if_pos hle] at hst
        generalize hC : (Tm.mk kd nm ng xd ls).count (m - n) = C at hst hc1 hc2
        have w0 : IntKind.i64.wrap (m - n) = m - n := wrap_id _ (by omega) (by omega)
        have w1 : IntKind.i64.wrap (n + C) = n + C := wrap_id _ (by omega) (by omega)
        have hcall2 := hcall (m - n) wr ok _ hr hlow (by omega) (by omega)
        rw [hC] at hcall2
        have HC := Lib.hid hcall2
        have HST := Lib.hid hst
        clear hcall hcall2 hst hr hkk hlow hC
        go_wp2_with (go_at_call 41; refine (HC.out).mono ?_; rintro e wq ⟨rfl, hb2⟩; have hz := hb2.size; have HB2 := Lib.hid hb2; clear hb2)
        all_goals
          refine ⟨⟨k + 1, n + C, by omega, rfl, by go_num, by omega, by omega, Below.trans HBW.out (HB2.out.mono (by omega)), ?_⟩, by simp [intOf]; omega⟩
          rw [← HT.out, HST.out]
      · go_wp2_with fail
        go_ret
        exact ⟨ret_int (by rw [← HT.out, Tm.counts_over _ _ _ (by omega)]), HBW.out⟩
    · go_wp2_with fail
      go_ret
      exact ⟨ret_int (by rw [← HT.out, List.drop_of_length_le (by omega)]; simp [Tm.counts]), HBW.out⟩
mutual
theorem termOf_calls : ∀ t : Tm, CountAt t
  | .mk kind name neg ds ks => termOf_step kind name neg ds ks (termsOf_step ks (termOf_all ks))
theorem termOf_all : ∀ l : List Tm, ∀ t ∈ l, CountAt t
  | [], t, h => by simp at h
  | x :: xs, t, h => by
    rcases List.mem_cons.1 h with h | h
    · rw [h]
      exact termOf_calls x
    · exact termOf_all xs t h
end
theorem termsOf_calls (l : List Tm) : CountsAt l := termsOf_step l (termOf_all l)
end Wh
