/- The machine: all rows. -/
import Derived.Test.YtnhmgokjijlhbaaRh
namespace Go.AM
open Go.Proofs

variable {k : Nat} {R : Type}

attribute [local simp] nx_eq nx_new nx_set blk_new blk_set asI_int asK_int asB_bool asP_ptr al_eq bx_eq len_slice onE_exit onE_ret onR_ret Value.cells d3 d22 d31 d60 w60 w3 cell_new cell_set rd_new rd_set off eq lt le ifB gv out eqF1 eqF2 eqF3 eqF4 eqF5 eqF6 eqF7 eqF8 ext20 ext21

abbrev cellsV (vs : List Value) : List (List Value) := vs.map fun v => [v]

/-- Slices of slices of numbers: what each one stands for, and that their blocks are not among some. -/
structure SsN (h : H) (bad : Nat → Prop) (vs : List Value) (ls : List (List Int)) : Prop where
  len : vs.length = ls.length
  el : ∀ (j : Nat) (v : Value) (l : List Int), vs[j]? = some v → ls[j]? = some l → SlR h 3 1 v (cellsI l) ∧ ∃ b, blkOf v = some b ∧ b < h.nx ∧ ¬ bad b

theorem SlR.keepB {h h' : H} {e : TypeId} {s : Nat} {v : Value} {l : List (List Value)} (a : SlR h e s v l) (hn : h.nx ≤ h'.nx) (hb : ∀ b, blkOf v = some b → h'.blk b = h.blk b) : SlR h' e s v l := by
  cases a with
  | nil => exact .nil
  | at_ hb' hr hk hc hl hx => exact .at_ (Nat.lt_of_lt_of_le hb' hn) ((hb _ rfl).trans hr) hk hc hl hx

theorem SsN.keep {h h' : H} {bad bad' : Nat → Prop} {vs : List Value} {ls : List (List Int)} (a : SsN h bad vs ls) (hn : h.nx ≤ h'.nx) (hb : ∀ b, b < h.nx → ¬ bad b → h'.blk b = h.blk b) (hbad : ∀ b, b < h.nx → bad' b → bad b) : SsN h' bad' vs ls :=
  ⟨a.len, fun j v l hv hl => by
    obtain ⟨h1, b, h2, h3, h4⟩ := a.el j v l hv hl
    exact ⟨h1.keepB hn fun b' hb' => by
      rw [h2] at hb'
      cases hb'
      exact hb b h3 h4, b, h2, Nat.lt_of_lt_of_le h3 hn, fun hc => h4 (hbad b h3 hc)⟩⟩

theorem SsN.snoc {h : H} {bad : Nat → Prop} {vs : List Value} {ls : List (List Int)} (a : SsN h bad vs ls) {v : Value} {l : List Int} (hv : SlR h 3 1 v (cellsI l)) {b : Nat} (hb : blkOf v = some b) (hbn : b < h.nx) (hbb : ¬ bad b) : SsN h bad (vs ++ [v]) (ls ++ [l]) := by
  refine ⟨by simp [a.len], fun j w m hw hm => ?_⟩
  rcases Nat.lt_or_ge j vs.length with h1 | h1
  · rw [List.getElem?_append_left h1] at hw
    rw [List.getElem?_append_left (by rw [← a.len]; exact h1)] at hm
    exact a.el j w m hw hm
  · rw [List.getElem?_append_right h1] at hw
    rw [List.getElem?_append_right (by rw [← a.len]; exact h1)] at hm
    have h2 : j - vs.length = 0 := by
      rcases Nat.eq_zero_or_pos (j - vs.length) with h2 | h2
      · exact h2
      · rw [List.getElem?_eq_none (by simp; omega)] at hw; cases hw
    rw [h2] at hw
    rw [← a.len, h2] at hm
    simp at hw hm
    subst hw; subst hm
    exact ⟨hv, b, hb, hbn, hbb⟩

theorem app60 : okApp Try.prog 60 22 1 = true := by kernel_rfl
theorem bls60 (v : Value) (hv : ∃ x n c, v = .slice x n c) (h : H) : buildSlice Try.prog 60 1 [(0, v)] h = some (.slice (some ⟨h.nx, 0, none⟩) 1 1, h.new (.row [v] 22 true)) := by
  obtain ⟨x, n, c, rfl⟩ := hv
  kernel_rfl

/-- The rows so far: the machine stands at m. -/
def RowI (h0 : H) (m : Nat) (v0 : Value) (ln : List Nat) (i : Nat) (ws : List Value) (g : H) : Prop :=
  m + 1 ≤ g.nx ∧ (∀ b, b < m → g.blk b = h0.blk b) ∧ ws = [iv i] ∧ ∃ av vs, g.blk m = some (.row [v0, av, .slice none 0 0] 76 true) ∧ AqR (m + 1) g 22 1 av (cellsV vs) ∧ SsN g (fun b => b ≤ m ∨ blkOf av = some b) vs ((List.range i).map (rowP ln))

theorem rows_loop {v0 : Value} {ln : List Nat} {h0 h2 : H} {D : Nat} (hD : D < 20009) (hl : SlR h0 3 1 v0 (cellsI (nI ln))) (ht : TaskI (nI ln))
    (hn : h0.nx + 1 ≤ h2.nx) (hlo : ∀ b, b < h0.nx → h2.blk b = h0.blk b) (hb : h2.blk h0.nx = some (.row [v0, .slice none 0 0, .slice none 0 0] 76 true)) :
    ∃ h', lpGo (f54_l1 rn 200010 v0 h0 D) 200010 [iv 0] h2 = some (.exit 0, [iv D], h') ∧ RowI h0 h0.nx v0 ln D [iv D] h' := by
  obtain ⟨ws', h', hlp, hI⟩ := lp_for (σ := Unit) (F := f54_l1 rn 200010 v0 h0 D) (k := 200010) (l := List.range D) (fun _ _ _ => ())
    (fun i _ ws g => RowI h0 h0.nx v0 ln i ws g) 0 (ws := [iv 0]) (h := h2) (s0 := ())
    ⟨hn, hlo, rfl, _, [], hb, .nil, ⟨rfl, fun j v l hv => by simp at hv⟩⟩ (by rw [List.length_range]; omega)
    (by
      rintro _ ws g ⟨_, _, rfl, _⟩
      simp [f54_l1])
    (by
      rintro i x _ ws g hx ⟨hgn, hglo, rfl, av, vs, hgb, hap, hss⟩
      have hi := (List.getElem?_eq_some_iff.1 hx).1
      rw [List.length_range] at hi
      have hadd : add .i64 (i : Int) 1 = (i : Int) + 1 := add64 (by omega) (by omega)
      have xg0 : Ext h0 g := ⟨by omega, hglo⟩
      obtain ⟨sv, h12, b, e1, x12, hlo12, ia⟩ := row_loop (c := i) (hl.ext xg0) ht (by omega)
      have hln : ∀ (K : Int → Option (Ex × List Value × H)), len v0 K = K (ln.length : Int) := fun K => by rw [hl.len]; simp
      have hgb12 : h12.blk h0.nx = some (.row [v0, av, .slice none 0 0] 76 true) := (x12.blk _ (by omega)).trans hgb
      have hap12 := hap.ext x12
      have hsl : ∃ x n c, sv = .slice x n c := by obtain ⟨c, h1, _⟩ := ia.val; exact ⟨_, _, _, h1⟩
      have hbk : blkOf sv = some b := by obtain ⟨c, h1, _⟩ := ia.val; rw [h1]; rfl
      have hlv : (cellsV vs).length = i := by rw [List.length_map, hss.len, List.length_map, List.length_range]
      obtain ⟨v', h14, e9, a9, n9, k9, b9, hb9, hb9'⟩ := hap12.push app60 app60 (bls60 sv hsl) rfl (by obtain ⟨x, n, c, rfl⟩ := hsl; rfl) (by omega) (by have := x12.nx; omega)
      have hav : ∀ q, blkOf av = some q → h0.nx + 1 ≤ q := fun q hq => (hap.blkOf hq).1
      have hgb14 : h14.blk h0.nx = some (.row [v0, av, .slice none 0 0] 76 true) := by
        rw [k9 _ (by have := x12.nx; omega) (fun e => by have := hav _ e; omega)]; exact hgb12
      have hcl := a9.cells
      have hw : wrc 1 h14 h0.nx 1 v' = some (h14.set h0.nx (.row [v0, v', .slice none 0 0] 76 true)) := by
        rw [wrc_one hgb14 hcl.1 hcl.2 (by simp)]; rfl
      refine ⟨[iv ((i : Int) + 1)], h14.set h0.nx (.row [v0, v', .slice none 0 0] 76 true), ?_, ?_, fun q hq => ?_, rfl, v', vs ++ [sv], blk_set_self _ _ _, ?_, ?_⟩
      · have ee : ∀ (K : Value → H → Option (Ex × List Value × H)), (bls Try.prog h12 60 1 [(0, sv)] fun y h2 => app Try.prog h2 60 60 av y K) = K v' h14 := fun K => e9 K
        simp [f54_l1, show i < D by omega, hln, lp_eq e1, cell_of hgb12, ee, hw, hadd]
      · show h0.nx + 1 ≤ h14.nx
        have := x12.nx; omega
      · rw [blk_set, if_neg (by omega), k9 q (by have := x12.nx; omega) (fun e => by have := hav _ e; omega), x12.blk q (by omega)]
        exact hglo q hq
      · have : cellsV (vs ++ [sv]) = cellsV vs ++ [[sv]] := by simp
        rw [this]
        exact a9.keep (Nat.le_refl _) fun q hq => by rw [blk_set, if_neg (by have := (a9.blkOf hq).1; omega)]
      · have er : (List.range (i + 1)).map (rowP ln) = (List.range i).map (rowP ln) ++ [rowP ln i] := by
          rw [List.range_succ, List.map_append]; rfl
        rw [er]
        have s14 : SsN h14 (fun b => b ≤ h0.nx ∨ blkOf v' = some b) vs ((List.range i).map (rowP ln)) := by
          have s12 : SsN h12 (fun b => b ≤ h0.nx ∨ blkOf av = some b) vs ((List.range i).map (rowP ln)) := hss.keep x12.nx (fun q hq _ => x12.blk q hq) (fun _ _ h => h)
          exact s12.keep n9 (fun q hq hbad => k9 q hq (fun e => hbad (.inr e))) (fun q hq h => h.elim .inl (fun e => by rw [hb9] at e; cases e; omega))
        have hbm : ¬ (b ≤ h0.nx ∨ blkOf v' = some b) := by
          rintro (h | h)
          · omega
          · rw [hb9] at h; cases h; have := ia.lt; omega
        have s15 := s14.keep (h' := h14.set h0.nx (.row [v0, v', .slice none 0 0] 76 true)) (bad' := fun b => b ≤ h0.nx ∨ blkOf v' = some b) (Nat.le_refl _) (fun q _ hbad => by rw [blk_set, if_neg (fun e => hbad (.inl (by omega)))]) (fun _ _ h => h)
        have ia14 : IA (h14.set h0.nx (.row [v0, v', .slice none 0 0] 76 true)) b sv (rowP ln i) := by
          refine ia.keep n9 ?_
          rw [blk_set, if_neg (by omega), k9 b ia.lt (fun e => ?_)]
          have h3 := (hap.blkOf e).2.1
          omega
        exact s15.snoc ia14.slR hbk ia14.lt hbm)
  rw [List.length_range] at hI
  obtain ⟨h1, h2', rfl, h3⟩ := hI
  exact ⟨h', hlp, h1, h2', rfl, h3⟩

end Go.AM
