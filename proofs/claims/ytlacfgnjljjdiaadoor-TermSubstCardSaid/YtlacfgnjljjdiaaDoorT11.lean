import Derived.Test.YtlacfgnjljjdiaaDoorT10
set_option linter.unusedVariables false
set_option linter.unusedSimpArgs false
open Go Go.RowKit Go.Proofs
namespace Wh
def SizesAt (l : List Tm) : Prop := ∀ (w : World) (ok : Nat → Prop) (a : Value), D.rd w ok (.row 28 5 (Tm.encs l)) a → Tm.sizes l ≤ 1099511627776 → Calls Tryd.prog 23 #[a] w (Tells w (.int .i64 (Tm.sizes l)))
theorem Tm.sizes_len : ∀ l : List Tm, l.length ≤ Tm.sizes l
  | [] => by simp [Tm.sizes]
  | t :: ts => by
    have := Tm.sizes_len ts
    have := t.size_pos
    simp only [Tm.sizes, List.length_cons]
    omega
theorem Tm.size_kids (t : Tm) : t.size = 1 + Tm.sizes t.kids := by
  obtain ⟨kd, nm, ng, xd, ls⟩ := t
  simp [Tm.size, Tm.kids]
set_option maxHeartbeats 1000000 in
set_option maxRecDepth 100000 in
theorem size_step (xs : List Tm) (ih : ∀ t ∈ xs, SizesAt t.kids) : SizesAt xs := by
  intro w ok a ha hlow
  obtain ⟨A, c, rfl, hl⟩ := rd_terms_A ha
  have hlen := Tm.sizes_len xs
  have HA := Lib.hid ha
  have HI := Lib.hid ih
  clear ha ih
  go_enter Tryd.func23, Tryd.ntmps23
  go_wp2_with fail
  go_loopw [3, 10] (fun s i wr => ∃ (k : Nat), k ≤ xs.length ∧ s = .int .i64 (xs.length + Tm.sizes (xs.take k) - k) ∧ i = .int .i64 k ∧ Below w.heap.size w wr) (fun _ i _ => xs.length - (intOf i).toNat)
  case atStart => exact ⟨0, Nat.zero_le _, by simp [Tm.sizes], rfl, Below.refl _ _⟩
  case round =>
    obtain ⟨k, hk, rfl, rfl, hbw⟩ := hrel
    have HBW := Lib.hid hbw
    have hsz := hbw.size
    clear hbw
    by_cases hlt : k < xs.length
    · have b1 : (0 : Int) ≤ k := by omega
      have b2 : (k : Int) < xs.length := by omega
      obtain ⟨g, o, kd, nm, ng, xd, ls, dA, dc, lA, lc, rfl, _, hg, hkk, hr, c0, c1, c2, c3, c4⟩ := Tm.kid (D.rd_ext HA.out HBW.out) k hlt
      have hcall := HI.out (xs[k]) (List.getElem_mem hlt)
      have hs := Tm.sizes_take_succ xs k hlt
      have hm := Tm.sizes_take_le xs (k + 1)
      rw [hkk] at hcall hs
      simp only [Tm.kids, Tm.size] at hcall hs
      obtain ⟨_, _, _, _, he, _, hkids⟩ := Tm.open hr
      injection he with _ he
      injection he with _ he
      injection he with _ he
      injection he with _ he
      injection he with he _
      injection he with he1 _ he2
      subst he1 he2
      have hcall2 : Calls Tryd.prog 23 #[.slice lA ls.length lc] (wr.alloc (.cells #[.int .u8 kd, .string nm, .bool ng, .slice dA xd.length dc, .slice lA ls.length lc] 28)) (Tells _ (.int .i64 (Tm.sizes ls))) := hcall _ ok _ (D.rd_ext hkids (ext_alloc (Below.refl _ _) _)) (by omega)
      have HC := Lib.hid hcall2
      clear hcall hcall2 hr hkids hkk
      go_wp2_with (go_at_call 23; refine (HC.out).mono ?_; rintro e wq ⟨rfl, hb2⟩; have hz := hb2.size; have HB2 := Lib.hid hb2; clear hb2)
      all_goals
        refine ⟨⟨k + 1, by omega, ?_, by go_num, Below.trans (ext_alloc HBW.out _) (HB2.out.mono (by simp; omega))⟩, by simp [intOf]; omega⟩
        rw [hs]
        refine congrArg _ ?_
        omega
    · go_wp2_with fail
      go_ret
      have hk2 : k = xs.length := by omega
      exact ⟨ret_int (by rw [hk2, List.take_length]; omega), HBW.out⟩
mutual
theorem size_calls : ∀ t : Tm, SizesAt t.kids
  | .mk kind name neg ds ks => size_step ks (size_all ks)
theorem size_all : ∀ l : List Tm, ∀ t ∈ l, SizesAt t.kids
  | [], t, h => by simp at h
  | x :: xs, t, h => by
    rcases List.mem_cons.1 h with h | h
    · rw [h]
      exact size_calls x
    · exact size_all xs t h
end
theorem sizes_calls (l : List Tm) : SizesAt l := size_step l (size_all l)
end Wh
