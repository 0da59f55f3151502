import Derived.Test.YtlacfgnjljjdiaaDoorL2
import Derived.Test.YtlacfgnjljjdiaaDoorT11
set_option linter.unusedVariables false
set_option linter.unusedSimpArgs false
open Go Go.RowKit Go.Proofs
namespace Wh
mutual
/-- The names that stand in a term, as they come. -/
def Tm.frees : Tm → List ByteArray
  | .mk k n g ds ks => (if k = 1 then [n] else []) ++ Tm.freess ks
def Tm.freess : List Tm → List ByteArray
  | [] => []
  | t :: ts => t.frees ++ Tm.freess ts
end
mutual
theorem Tm.frees_len : ∀ t : Tm, t.frees.length ≤ t.size
  | .mk k n g ds ks => by
    have := Tm.freess_len ks
    simp only [Tm.frees, Tm.size, List.length_append]
    split <;> simp <;> omega
theorem Tm.freess_len : ∀ l : List Tm, (Tm.freess l).length ≤ Tm.sizes l
  | [] => by simp [Tm.freess]
  | t :: ts => by
    have h1 := Tm.frees_len t
    have h2 := Tm.freess_len ts
    simp only [Tm.freess, Tm.sizes, List.length_append]
    omega
end
theorem Tm.freess_append : ∀ l m : List Tm, Tm.freess (l ++ m) = Tm.freess l ++ Tm.freess m
  | [], m => by simp [Tm.freess]
  | t :: ts, m => by simp [Tm.freess, Tm.freess_append ts m]
theorem Tm.freess_take_succ (l : List Tm) (k : Nat) (h : k < l.length) : Tm.freess (l.take (k + 1)) = Tm.freess (l.take k) ++ (l[k]).frees := by
  rw [List.take_succ_eq_append_getElem h, Tm.freess_append]
  simp [Tm.freess]
theorem infoStr : (Tryd.prog.info? 9).map (fun i => (i.zero, i.size, i.bytes)) = some (some (.string ⟨#[]⟩), 1, 16) := by kernel_rfl
def freeFn (bo bl : Nat) : Value := .func (.func 37) #[] #[.pointer (some ⟨bo, 0, none⟩), .pointer (some ⟨bl, 0, none⟩)]
/-- What the look at a term leaves: its names behind those that are there. -/
def FreePost (w : World) (bo base : Nat) (v : Value) (n : Nat) (xs : List Value) (names : List ByteArray) (e : Ending) (w' : World) : Prop :=
  e = .returned (.tuple #[]) ∧ ∃ v', Blk w' bo #[v'] 34 ∧ w'.ownsRow base 9 1 v' (n + names.length) (xs ++ names.map .string) ∧ Two w w' bo v.ownBlock ∧ (v'.ownBlock = v.ownBlock ∨ ∃ g, v'.ownBlock = some g ∧ w.heap.size ≤ g)
def FreeSt (w : World) (bo base : Nat) (v : Value) (n : Nat) (xs : List Value) (names : List ByteArray) (wr : World) : Prop :=
  ∃ A c, Blk wr bo #[.slice A (n + names.length) c] 34 ∧ wr.ownsRow base 9 1 (.slice A (n + names.length) c) (n + names.length) (xs ++ names.map .string) ∧ Two w wr bo v.ownBlock ∧ ((Value.slice A (n + names.length) c).ownBlock = v.ownBlock ∨ ∃ g, (Value.slice A (n + names.length) c).ownBlock = some g ∧ w.heap.size ≤ g)
theorem free_next {w wr w2 : World} {bo base : Nat} {v : Value} {n : Nat} {xs : List Value} {ns ns2 : List ByteArray} {o : Obj} {A : Option Addr} {c : Nat} (h1 : Blk wr bo #[.slice A (n + ns.length) c] 34) (h3 : Two w wr bo v.ownBlock) (h4 : (Value.slice A (n + ns.length) c).ownBlock = v.ownBlock ∨ ∃ g, (Value.slice A (n + ns.length) c).ownBlock = some g ∧ w.heap.size ≤ g) {e : Ending}
    (k : FreePost (wr.alloc o) bo base (.slice A (n + ns.length) c) (n + ns.length) (xs ++ ns.map .string) ns2 e w2) : FreeSt w bo base v n xs (ns ++ ns2) w2 := by
  obtain ⟨_, v', k1, k2, k3, k4⟩ := k
  obtain ⟨A', c', rfl⟩ := own_shape k2
  have e1 : n + (ns ++ ns2).length = n + ns.length + ns2.length := by simp; omega
  unfold FreeSt
  rw [e1]
  refine ⟨A', c', k1, by simpa [List.append_assoc] using k2, (h3.alloc o).trans k3 h4, ?_⟩
  have hs := h3.size
  rcases k4 with k4 | ⟨g, k4, k5⟩
  · rw [k4]
    exact h4
  · exact .inr ⟨g, k4, by simp at k5; omega⟩
theorem free_done {w wr : World} {bo base : Nat} {v : Value} {n : Nat} {xs : List Value} {names : List ByteArray} (h : FreeSt w bo base v n xs names wr) : FreePost w bo base v n xs names (.returned (.tuple #[])) wr := by
  obtain ⟨A, c, h1, h2, h3, h4⟩ := h
  exact ⟨rfl, _, h1, h2, h3, h4⟩
def FreeAt (t : Tm) : Prop := ∀ (w : World) (ok : Nat → Prop) (us : List Value) (bo bl base : Nat) (v : Value) (n : Nat) (xs : List Value), D.rdRow w ok t.enc us → (∀ g, ok g → g < base ∧ g ≠ bo) → Blk w bo #[v] 34 → Blk w bl #[freeFn bo bl] 64 → bo < base → bl < base → bo ≠ bl → base ≤ w.heap.size →
  w.ownsRow base 9 1 v n xs → n + t.size ≤ 100000000 → Calls Tryd.prog 37 #[.agg us.toArray, .pointer (some ⟨bo, 0, none⟩), .pointer (some ⟨bl, 0, none⟩)] w (FreePost w bo base v n xs t.frees)
set_option maxHeartbeats 1000000 in
set_option maxRecDepth 100000 in
theorem free1_step (kind : Int) (name : ByteArray) (neg : Bool) (ds : List Int) (ks : List Tm) (ih : ∀ t ∈ ks, FreeAt t) : FreeAt (.mk kind name neg ds ks) := by
  intro w ok us bo bl base v n xs hr hok ho hl h1 h2 h3 h4 hown hsz
  obtain ⟨dA, dc, kA, kc, rfl, hd, hk⟩ := Tm.open hr
  have hvs := own_shape hown
  obtain ⟨vA, vc, rfl⟩ := hvs
  obtain ⟨o0, of0⟩ := Blk.c1 ho
  obtain ⟨l0, lf0⟩ := Blk.c1 hl
  have i1 := ho.lt
  have i2 := hl.lt
  have HR := Lib.hid hr
  have HK := Lib.hid hk
  have HOK := Lib.hid hok
  have HO := Lib.hid ho
  have HL := Lib.hid hl
  have HOWN := Lib.hid hown
  have HI := Lib.hid ih
  have hln := Tm.sizes_len ks
  have hln2 : ks.length ≤ 100000000 := by simp [Tm.size] at hsz; omega
  clear hln
  have HOK2 := Lib.hid (show ∀ g, ok g → g ≠ bo ∧ some g ≠ (Value.slice vA n vc).ownBlock from fun g hg => ⟨(hok g hg).2, own_ne' hown (hok g hg).1⟩)
  clear hr hd hk hok ho hl hown ih
  go_enter Tryd.func37, Tryd.ntmps37
  by_cases hk1 : kind = 1
  · subst hk1
    have hkind : True := trivial
    go_upto_region 3 with (at_builtin; go_loud (refine list_append rfl (.tmp 9) (.tmp 12) rfl Tryd.underlying34 infoStr rfl (by decide) (by decide) base (.slice vA n vc) n xs rfl (HOWN.out.alloc _ |>.alloc _) (w.heap.size + 1) #[.string name] rfl (Blk.new' _ _ _ (by simp)) rfl (by simp [Value.oneCell']) (by omega) (by simp; omega) ?_; intro A1 c1 w1 hown1 hg1 hat1; have hbo1 := ((HO.out.alloc _).alloc _).grown hg1 (own_ne' HOWN.out h1); have hbx1 := ((Blk.new w (#[.int .u8 1, .string name, .bool neg, .slice dA ds.length dc, .slice kA ks.length kc]) 28).alloc _).grown hg1 (own_ne'' HOWN.out (Nat.le_refl _)); obtain ⟨o1, of1⟩ := Blk.c1 hbo1; obtain ⟨⟨x0, x1, x2, x3, x4⟩, y0, y1, y2, y3, y4⟩ := Blk.c5 hbx1; have z1 := hg1.size; simp at z1; have z2 : w.heap.size < w1.heap.size := (by omega); have HOWN1 := Lib.hid hown1; have HG1 := Lib.hid hg1; have HAT1 := Lib.hid hat1; clear hown1 hg1 hat1 hbo1 hbx1))
    have hst : FreeSt w bo base (.slice vA n vc) n xs [name] (w1.setCell ⟨bo, 0, none⟩ (.slice A1 (n + 1) c1)) := by
      refine ⟨A1, c1, ?_, ?_, ?_, ?_⟩
      · exact (((HO.out.alloc _).alloc _).grown HG1.out (own_ne' HOWN.out h1)).set 0 _
      · exact ownsRow_setCell_below HOWN1.out h1 _
      · exact ((((Two.refl w bo _).alloc _).alloc _).grown HG1.out (.inl rfl)).set 0 _
      · rcases HAT1.out with h | h
        · exact .inl h
        · exact .inr ⟨_, h, by simp; omega⟩
    have HST := Lib.hid hst
    clear hst
    go_wp2_with fail
    go_loopw [17] (fun i wr => ∃ k : Nat, k ≤ ks.length ∧ i = .int .i64 k ∧ FreeSt w bo base (.slice vA n vc) n xs ([name] ++ Tm.freess (ks.take k)) wr) (fun i _ => ks.length - (intOf i).toNat)
    case atStart => exact ⟨0, Nat.zero_le _, rfl, by simpa [Tm.freess] using HST.out⟩
    case round =>
      obtain ⟨k, hk, rfl, Ar, cr, g1, g2, g3, g4⟩ := hrel
      by_cases hlt : k < ks.length
      · have b1 : (0 : Int) ≤ k := by omega
        have b2 : (k : Int) < ks.length := by omega
        obtain ⟨g, o, kd, nm, ng, xd, ls, eA, ec, lA, lc, rfl, _, hg, hkk, hr, c0, c1, c2, c3, c4⟩ := Tm.kid (D.rd_two HK.out g3 HOK2.out) k hlt
        have hbl := HL.out.two g3 (Ne.symm h3) (own_ne' HOWN.out h2)
        obtain ⟨l2, lf2⟩ := Blk.c1 hbl
        unfold freeFn at l2
        have j1 := g1.lt
        have j2 := hbl.lt
        have hs := g3.size
        have hfl := Tm.frees_len ks[k]
        have hsk := Tm.sizes_take_succ ks k hlt
        have hsl := Tm.sizes_take_le ks (k + 1)
        have hfk := Tm.freess_len (ks.take k)
        have hcall := HI.out ks[k] (List.getElem_mem hlt) (wr.alloc (.cells #[.int .u8 kd, .string nm, .bool ng, .slice eA xd.length ec, .slice lA ls.length lc] 28)) ok _ bo bl base _ _ _ (hkk ▸ D.rdRow_ext hr (ext_alloc (Below.refl _ _) _)) HOK.out (g1.alloc _) (hbl.alloc _) h1 h2 h3 (by simp; omega) (g2.alloc _) (by rw [hkk] at hsk ⊢; simp [Tm.size] at hsz hsk ⊢; omega)
        have HC := Lib.hid hcall
        have HG1 := Lib.hid g1
        have HG3 := Lib.hid g3
        have HG4 := Lib.hid g4
        have HF := Lib.hid (Tm.freess_take_succ ks k hlt)
        clear hcall hr hkk hbl g1 g2 g3 g4 hfl hsk hfk
        go_wp2_with (go_at_call 37; refine (HC.out).mono ?_; intro e w2 hp; have hp0 := hp.1; subst hp0; have HP := Lib.hid hp; clear hp)
        all_goals
          go_roundw
          case rel =>
            refine ⟨k + 1, by omega, by go_num, ?_⟩
            rw [HF.out, ← List.append_assoc]
            exact free_next HG1.out HG3.out HG4.out HP.out
          case measure => simp [intOf]; omega
      · go_wp2_with fail
        go_end0
        have hf := free_done (⟨Ar, cr, g1, g2, g3, g4⟩ : FreeSt _ _ _ _ _ _ _ _)
        rw [List.take_of_length_le (by omega)] at hf
        simpa [Tm.frees, hkind] using hf
  · have hkind := hk1
    have hk2 : (kind == 1) = false := by simpa using hk1
    have hst : FreeSt w bo base (.slice vA n vc) n xs [] (w.alloc (.cells #[.int .u8 kind, .string name, .bool neg, .slice dA ds.length dc, .slice kA ks.length kc] 28)) :=
      ⟨vA, vc, HO.out.alloc _, by simpa using HOWN.out.alloc _, (Two.refl _ _ _).alloc _, .inl rfl⟩
    have HST := Lib.hid hst
    clear hst
    go_wp2_with fail
    go_loopw [17] (fun i wr => ∃ k : Nat, k ≤ ks.length ∧ i = .int .i64 k ∧ FreeSt w bo base (.slice vA n vc) n xs (Tm.freess (ks.take k)) wr) (fun i _ => ks.length - (intOf i).toNat)
    case atStart => exact ⟨0, Nat.zero_le _, rfl, by simpa [Tm.freess] using HST.out⟩
    case round =>
      obtain ⟨k, hk, rfl, Ar, cr, g1, g2, g3, g4⟩ := hrel
      by_cases hlt : k < ks.length
      · have b1 : (0 : Int) ≤ k := by omega
        have b2 : (k : Int) < ks.length := by omega
        obtain ⟨g, o, kd, nm, ng, xd, ls, eA, ec, lA, lc, rfl, _, hg, hkk, hr, c0, c1, c2, c3, c4⟩ := Tm.kid (D.rd_two HK.out g3 HOK2.out) k hlt
        have hbl := HL.out.two g3 (Ne.symm h3) (own_ne' HOWN.out h2)
        obtain ⟨l2, lf2⟩ := Blk.c1 hbl
        unfold freeFn at l2
        have j1 := g1.lt
        have j2 := hbl.lt
        have hs := g3.size
        have hfl := Tm.frees_len ks[k]
        have hsk := Tm.sizes_take_succ ks k hlt
        have hsl := Tm.sizes_take_le ks (k + 1)
        have hfk := Tm.freess_len (ks.take k)
        have hcall := HI.out ks[k] (List.getElem_mem hlt) (wr.alloc (.cells #[.int .u8 kd, .string nm, .bool ng, .slice eA xd.length ec, .slice lA ls.length lc] 28)) ok _ bo bl base _ _ _ (hkk ▸ D.rdRow_ext hr (ext_alloc (Below.refl _ _) _)) HOK.out (g1.alloc _) (hbl.alloc _) h1 h2 h3 (by simp; omega) (g2.alloc _) (by rw [hkk] at hsk ⊢; simp [Tm.size] at hsz hsk ⊢; omega)
        have HC := Lib.hid hcall
        have HG1 := Lib.hid g1
        have HG3 := Lib.hid g3
        have HG4 := Lib.hid g4
        have HF := Lib.hid (Tm.freess_take_succ ks k hlt)
        clear hcall hr hkk hbl g1 g2 g3 g4 hfl hsk hfk
        go_wp2_with (go_at_call 37; refine (HC.out).mono ?_; intro e w2 hp; have hp0 := hp.1; subst hp0; have HP := Lib.hid hp; clear hp)
        all_goals
          go_roundw
          case rel =>
            refine ⟨k + 1, by omega, by go_num, ?_⟩
            rw [HF.out]
            exact free_next HG1.out HG3.out HG4.out HP.out
          case measure => simp [intOf]; omega
      · go_wp2_with fail
        go_end0
        have hf := free_done (⟨Ar, cr, g1, g2, g3, g4⟩ : FreeSt _ _ _ _ _ _ _ _)
        rw [List.take_of_length_le (by omega)] at hf
        simpa [Tm.frees, hkind] using hf
mutual
theorem free1_calls : ∀ t : Tm, FreeAt t
  | .mk kind name neg ds ks => free1_step kind name neg ds ks (free1_all ks)
theorem free1_all : ∀ l : List Tm, ∀ t ∈ l, FreeAt t
  | [], t, h => by simp at h
  | x :: xs, t, h => by
    rcases List.mem_cons.1 h with h | h
    · rw [h]
      exact free1_calls x
    · exact free1_all xs t h
end
end Wh
