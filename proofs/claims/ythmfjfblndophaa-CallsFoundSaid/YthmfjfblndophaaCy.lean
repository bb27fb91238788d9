/- CallsFound: the ways found are checked, and none is worse. -/
import Derived.Test.YthmfjfblndophaaCx
import Derived.Test.YthmfjfblndophaaCl
namespace Go.AM
open Go.Proofs

variable {R : Type}

attribute [local simp] nx_eq nx_new nx_set blk_new blk_set asI_int asK_int asB_bool asP_ptr al_eq bx_eq len_slice onE_exit onE_ret onR_ret Value.cells d3 d29 d31 d56 d24 d59 d22 d25 d60 w3 w25 w60 cell_new cell_set rd_new rd_set off eq lt le ifB gv out eqF1 eqF2 eqF3 eqF4 eqF5 eqF6 eqF7 eqF8 ext20 ext21 k42 k72 k73 k74

theorem asP_pt (b o : Nat) (K : Nat → Nat → Option R) : asP (pt b o) K = K b o := rfl
attribute [local simp] asP_pt

theorem run_short {n : Int} {l : List Cl} (hv : validP n l = true) : ∀ (w : List Int) (st st' : Int × Int × Int) (j : Nat), runP l w st = some st' → (∀ (k : Nat) (c : Cl), k < j → l[k]? = some c → c.t ≤ st.2.1) → j ≤ l.length → w.length + j ≤ l.length := by
  intro w
  induction w with
  | nil => intro st st' j _ _ hj; simpa using hj
  | cons i w ih =>
    intro st st' j h hb hj
    simp only [runP] at h
    split at h
    · rename_i hi
      split at h
      · cases h
      · rename_i c hc
        split at h
        · rename_i hg
          have h1 : st.2.1 < c.t := by simp only [goes, Bool.and_eq_true, Bool.not_eq_true', decide_eq_false_iff_not, Int.not_le] at hg; exact hg.1.1
          have hji : j ≤ i.toNat := by
            rcases Nat.lt_or_ge i.toNat j with h2 | h2
            · have := hb _ _ h2 hc; omega
            · exact h2
          have := ih _ _ (i.toNat + 1) h (fun k d hk hd => by
            show d.t ≤ c.t
            rcases Nat.lt_or_ge k i.toNat with h2 | h2
            · exact (validP_sorted hv h2 hd hc).1
            · have : k = i.toNat := by omega
              subst this
              rw [hc] at hd
              cases hd
              omega) (by omega)
          simp only [List.length_cons]
          omega
        · cases h
    · cases h

theorem all_short {n s t : Int} {l : List Cl} (hv : validP n l = true) (hs : 0 ≤ s ∧ s < n) (hst : s ≠ t) {w : List Int} (hw : w ∈ allWays l s t) : w.length ≤ 24 := by
  obtain ⟨st', r, e⟩ := (check_run hv hs w).1 ((mem_all (n := n) hv hst w).1 hw)
  have := run_short hv w _ _ 0 r (fun k c hk => by omega) (by omega)
  have := (validP_ok hv).2.2.1
  omega

theorem s46 {b : Nat} {n i x : Int} {sl wv : Value} {l : List Cl} {c : Cl} {w : List Int} {g : H} (hb : g.blk b = some (.row [iv n, sl] 24 true)) (hs : SlR g 59 3 sl (l.map Cl.cells)) (hw : SlR g 3 1 wv (cellsI w))
    (hi : 0 ≤ i) (hx : w[i.toNat]? = some x) (h0 : 0 ≤ x) (hc : l[x.toNat]? = some c) : rn 46 #[wv, iv i, pt b 0] g = some (iv c.t, g) := by
  refine p46 (k := 0) (h1 := g) ?_ rfl (.refl _)
  have e1 : ∀ (K : Value → Option (Value × H)), (six wv i 1 fun b o => (g.cell b o).bind K) = K (iv x) := fun K => hw.c0 hi (x := [iv x]) (by simp [hx]) rfl K
  have e2 : ∀ (K : Value → Option (Value × H)), (six sl x 3 fun b o => (g.cell b (o + 2)).bind K) = K (iv c.t) := fun K => hs.cF h0 (x := c.cells) (by simp [hc]) rfl K
  simp [f46, cell_of hb, e1, e2]

/-- The closure of times. -/
def tfun (b : Nat) : Value := .func (.func 46) #[] #[pt b 0]

theorem s47 {b b2 : Nat} {n : Int} {sl wv : Value} {l : List Cl} {w : List Int} {g : H} (hb : g.blk b = some (.row [iv n, sl] 24 true)) (hb2 : g.blk b2 = some (.row [tfun b] 60 true)) (hs : SlR g 59 3 sl (l.map Cl.cells)) (hw : SlR g 3 1 wv (cellsI w))
    (hok : okW l w) : rn 47 #[wv, pt b2 0] g = some (iv (arrP l w), g) := by
  obtain ⟨x, c, h1, h2, h3, h4, h5⟩ := okW_last hok
  have hl := hok.2.1
  have hsub : sub .i64 (w.length : Int) 1 = (w.length : Int) - 1 := sub64 (by omega) (by omega)
  have c1 : ∀ (K : Value → H → Option (Value × H)), calls rn g 46 [wv, .int .i64 ((w.length : Int) - 1), pt b 0] K = K (iv c.t) g := fun K =>
    calls_eq (xs := [_, _, _]) (s46 hb hs hw (by omega) (x := x) (by rw [show ((w.length : Int) - 1).toNat = w.length - 1 by omega]; exact h1) h2 h3)
  refine p47 (k := 0) (h1 := g) ?_ rfl (.refl _)
  rw [h4]
  have e6 : ∀ (K : Int → Option (Value × H)), len wv K = K w.length := fun K => by rw [hw.len]; simp
  simp [f47, cell_of hb2, e6, hsub, tfun, callsV_eq, c1]

theorem s46h {b : Nat} {n : Int} {sl wv : Value} {l : List Cl} {w : List Int} {g : H} (hb : g.blk b = some (.row [iv n, sl] 24 true)) (hs : SlR g 59 3 sl (l.map Cl.cells)) (hw : SlR g 3 1 wv (cellsI w))
    (hok : okW l w) : rn 46 #[wv, iv 0, pt b 0] g = some (iv (leaveP l w), g) := by
  obtain ⟨x, c, h1, h2, h3, h4⟩ := okW_head hok
  rw [h4]
  exact s46 hb hs hw (by omega) (x := x) h1 h2 h3

theorem keqv4 (a b : Bool) (K : Bool → Option R) : eqv Try.prog 4 (.bool a) (.bool b) K = K (a == b) := by
  have : binOp Try.prog .eql 4 (.bool a) (.bool b) = some (.bool (a == b)) := by cases a <;> cases b <;> kernel_rfl
  simp [eqv, this]

theorem bls583 (b0 o0 n0 c0 b1 o1 n1 c1 b2 o2 n2 c2 : Nat) (h : H) : buildSlice Try.prog 58 3 [(0, .slice (some ⟨b0, o0, none⟩) n0 c0), (1, .slice (some ⟨b1, o1, none⟩) n1 c1), (2, .slice (some ⟨b2, o2, none⟩) n2 c2)] h =
    some (.slice (some ⟨h.nx, 0, none⟩) 3 3, h.new (.row [.slice (some ⟨b0, o0, none⟩) n0 c0, .slice (some ⟨b1, o1, none⟩) n1 c1, .slice (some ⟨b2, o2, none⟩) n2 c2] 25 true)) := by kernel_rfl

/-- A way that is checked, cut or whole, is one of all. -/
theorem cut_whole {n s t : Int} {l : List Cl} (hv : validP n l = true) (hs : 0 ≤ s ∧ s < n) (hst : s ≠ t) {w : List Int} (h : checkP l s t (w.take 26) = true) : w ∈ allWays l s t := by
  have h1 := (mem_all (n := n) hv hst _).2 h
  have h2 := all_short hv hs hst h1
  have : w.take 26 = w := List.take_of_length_le (by
    rw [List.length_take] at h2
    omega)
  rwa [this] at h1

theorem someSl {v : Value} {w : List Int} {h : H} (q : SlR h 3 1 v (cellsI w)) (hne : w ≠ []) : ∃ b o n c, v = .slice (some ⟨b, o, none⟩) n c := by
  generalize hL : cellsI w = L at q
  cases q with
  | nil => simp at hL; exact absurd hL hne
  | at_ => exact ⟨_, _, _, _, rfl⟩

/-- The loop over what was found. -/
theorem loop8 {n s t : Int} {sl v42 : Value} {l : List Cl} {h h19 : H} {vs : List Value} {ws : List (List Int)} (hn : h.nx < h19.nx) (hb : h19.blk h.nx = some (.row [iv n, sl] 24 true)) (hs : SlR h19 59 3 sl (l.map Cl.cells)) (hp : pairP n l s t = true)
    (hvs : SlR h19 25 1 v42 (cellsV vs)) (hlen : vs.length = 3) (hss : SsR h19 vs ws) (hall : ∀ w ∈ ws, w ∈ allWays l s t) :
    ∃ h', Ext h19 h' ∧ lpGo (f8_l1 rn 4 s t h v42 3) 4 [.bool false, iv 0] h19 = some (.exit 0, [.bool false, iv 3], h') := by
  obtain ⟨⟨⟨hv, hsn⟩, htn⟩, hst⟩ : ((validP n l = true ∧ (0 ≤ s ∧ s < n)) ∧ (0 ≤ t ∧ t < n)) ∧ s ≠ t := by simpa [pairP] using hp
  have hl26 : l.take 26 = l := List.take_of_length_le (by have := (validP_ok hv).2.2.1; omega)
  obtain ⟨h', x, hm⟩ := lp_list (σ := Unit) (ρ := Unit) (F := f8_l1 rn 4 s t h v42 3) (k := 4) (l := vs) (fun i _ => [.bool false, iv (i : Int)]) (fun _ _ _ => .inl ()) (fun _ _ => True) (fun _ => .ret) (fun _ => []) 0 (fun _ => [.bool false, iv 3]) (h1 := h19)
    (ws := [.bool false, iv 0]) (s0 := ()) rfl trivial (by omega) (fun _ => by simp)
    (fun _ g _ _ => by simp [f8_l1, hlen])
    (fun i v _ g hvi _ xg => by
      have hi := (List.getElem?_eq_some_iff.1 hvi).1
      have hvs' := hvs.ext xg
      have hb' := (xg.blk _ hn).trans hb
      have hwi : ws[i]? = some (ws[i]'(by rw [← hss.1]; exact hi)) := List.getElem?_eq_getElem _
      have hsi := (hss.2 i v _ hvi hwi).ext xg
      have hmem := hall _ (List.mem_of_getElem? hwi)
      generalize ws[i]'(by rw [← hss.1]; exact hi) = w at *
      obtain ⟨la, h2, e2, x2, s2⟩ := s18 (n := n) (hs.ext xg)
      rw [hl26] at s2
      have e3 := s27 (n := n) (s := s) (t := t) s2 (hsi.ext x2)
      rw [hp, (mem_all (n := n) hv hst w).1 hmem] at e3
      refine ⟨fun _ _ => trivial, h2, x2, ?_⟩
      have e1 : ∀ (K : Value → Option (Ex × List Value × H)), (six v42 (i : Int) 1 fun b o => (g.cell b o).bind K) = K v := fun K => hvs'.c0 (by omega) (x := [v]) (by simp [hvi]) rfl K
      have c2 := fun (K : Value → H → Option (Ex × List Value × H)) => calls_eq (K := K) (xs := [_]) e2
      have c3 := fun (K : Value → H → Option (Ex × List Value × H)) => calls_eq (K := K) (xs := [_, _, _, _]) e3
      have hadd : add .i64 (i : Int) 1 = (i : Int) + 1 := add64 (by omega) (by omega)
      simp [f8_l1, show (i : Int) < 3 by omega, show i < 3 by omega, e1, rd_of hb', c2, c3, rnd, hadd])
  rw [itL_inl (fun _ _ _ => ())] at hm
  exact ⟨h', x, hm.1⟩

end Go.AM
