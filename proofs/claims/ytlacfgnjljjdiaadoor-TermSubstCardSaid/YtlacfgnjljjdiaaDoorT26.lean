import Derived.Test.YtlacfgnjljjdiaaDoorT18
set_option linter.unusedVariables false
set_option linter.unusedSimpArgs false
open Go Go.RowKit Go.Proofs
namespace Wh
theorem Tm.key_ne (t : Tm) : t.key ≠ [] := by
  obtain ⟨k, n, g, ds, ks⟩ := t
  simp [Tm.key]
set_option maxHeartbeats 1000000 in
set_option maxRecDepth 100000 in
/-- 'term.Key'. -/
theorem key_calls (t : Tm) (B : Nat) (w : World) (ok : Nat → Prop) (us : List Value) (hr : D.rdRow w ok t.enc us) (henv : Env B w) (hwf : t.wf) (hf : t.fits) (hlen : t.key.length ≤ 140737488355328) :
    Calls Tryd.prog 7 #[.agg us.toArray] w fun e w' => e = .returned (.string ⟨t.key.toArray⟩) ∧ Below w.heap.size w w' := by
  have hk := wterm_calls t
  have hne := t.key_ne
  have HR := Lib.hid (D.rdRow_lt _ _ hr)
  clear hr
  obtain ⟨kind, name, neg, ds, ks⟩ := t
  obtain ⟨dA, dc, kA, kc, rfl, hd, _⟩ := Tm.open HR.out
  clear hd
  have hB := henv.1
  have hcall : ∀ W, Below w.heap.size w W → IsWr W (w.heap.size + 1) (w.heap.size + 1) [] → w.heap.size + 1 ≤ W.heap.size → Calls Tryd.prog 24 #[.pointer (some ⟨w.heap.size + 1, 0, none⟩), .agg #[.int .u8 kind, .string name, .bool neg, .slice dA ds.length dc, .slice kA ks.length kc]] W fun e w' => e = .returned (.tuple #[]) ∧ IsWr w' (w.heap.size + 1) (w.heap.size + 1) (Tm.mk kind name neg ds ks).key ∧ Wrote W w' (w.heap.size + 1) (w.heap.size + 1) := by
    intro W hb hw hs
    refine (hk B W (fun g => ok g ∧ g < w.heap.size) _ _ _ [] (D.rdRow_keep HR.out (fun g hg hl => ⟨hg, hb.block g hg.2⟩)) (fun g hg => by omega) hw (henv.below (hb.mono hB)) (by omega) (Nat.le_refl _) hs hwf hf (by simpa using hlen)).mono ?_
    rintro e w' ⟨h1, h2, h3, _⟩
    exact ⟨h1, by simpa using h2, h3⟩
  have HC := Lib.hid hcall
  have HNE := Lib.hid hne
  clear hcall hne hk henv hwf hf hlen HR
  generalize (Tm.mk kind name neg ds ks).key = key at *
  go_enter Tryd.func7, Tryd.ntmps7
  go_wp2_with fail
  refine (HC.out _ (ext_alloc (ext_alloc (Below.refl _ _) _) _) (.inl ⟨Nat.le_refl _, .slice none 0 0, Blk.new' _ _ _ (by simp), World.ownsRow_nil _ _ _ _, by simp [Value.ownBlock]⟩) (by simp)).mono ?_
  rintro e w2 ⟨rfl, h2, h3⟩
  have HI := Lib.hid h2
  have HW := Lib.hid h3
  clear h2 h3
  dsimp only
  go_wp2_with fail
  refine (builderString_calls _ _ key w2 HI.out HNE.out).mono ?_
  rintro e w3 ⟨rfl, h4⟩
  have H4 := Lib.hid h4
  clear h4
  dsimp only
  go_wp2_with fail
  go_ret
  exact ⟨rfl, Below.trans (Below.trans (ext_alloc (ext_alloc (Below.refl _ _) _) _) (HW.out.below (Nat.le_refl _) (by omega) (by simp; omega))) (H4.out.mono (by omega))⟩
end Wh
