/- The rows of the machine: the states behind each task. -/
/- The machine: all rows. -/
/- Rows of slices that grow. -/
import Derived.Test.YtnhmgokjijlhbaaRg

namespace Go.AM
open Go.Proofs

variable {k : Nat} {R : Type}

attribute [local simp] nx_eq nx_new nx_set blk_new blk_set asI_int asK_int asB_bool asP_ptr al_eq bx_eq len_slice onE_exit onE_ret onR_ret Value.cells d3 d22 d31 w3 cell_new cell_set rd_new rd_set off eq lt le ifB gv out eqF1 eqF2 eqF3 eqF4 eqF5 eqF6 eqF7 eqF8 ext20 ext21

theorem vals_len (task : Int) : ∀ (ps : List (Int × Int)) (i : Nat), (valsN task i ps).length = ps.length := by
  intro ps
  induction ps with
  | nil => intro i; rfl
  | cons p ps ih => intro i; simp [valsN, ih]

/-- What comes is a state. -/
theorem next_ok {l s o : List Int} {task : Int} (hr : ∀ x ∈ l, 1 ≤ x) (hst : stOk l s = true) (ho : nextP l s task = some o) : stOk l o = true := by
  obtain ⟨hlen, hp⟩ := stOk_iff.1 hst
  unfold nextP at ho
  split at ho
  · cases ho
  · rename_i h0
    cases ho
    rw [stOk_iff]
    refine ⟨by rw [vals_len, List.length_zip]; omega, ?_⟩
    have key : ∀ (l s : List Int) (i : Nat), (∀ x ∈ l, 1 ≤ x) → (∀ p ∈ l.zip s, 1 ≤ p.2 ∧ p.2 ≤ p.1) → 0 ∉ valsN task i (l.zip s) → ∀ p ∈ l.zip (valsN task i (l.zip s)), 1 ≤ p.2 ∧ p.2 ≤ p.1 := by
      intro l
      induction l with
      | nil => intro s i _ _ _ p hp; simp at hp
      | cons x l ih =>
        intro s i hr hp h0 p hpp
        cases s with
        | nil => simp [valsN] at hpp
        | cons y s =>
          simp only [List.zip_cons_cons, valsN, List.mem_cons, not_or] at h0 hpp
          have h1 := hp (x, y) (by simp)
          have h2 := hr x (by simp)
          simp only at h1
          rcases hpp with rfl | hpp
          · simp only [valN] at h0 ⊢
            by_cases hi : (i : Int) = task
            · rw [if_pos hi]; omega
            · rw [if_neg hi] at h0 ⊢; omega
          · exact ih s (i + 1) (fun z hz => hr z (by simp [hz])) (fun q hq => hp q (by simp [hq])) h0.2 p hpp
    exact key l s 0 hr hp h0

/-- The state behind a task, as a number; -1: it fails. -/
def aftP (ln : List Nat) (c : Nat) (i : Nat) : Int :=
  match nextP (nI ln) (nI (stateP ln c)) i with
  | none => -1
  | some o => codeP (nI ln) o

def rowP (ln : List Nat) (c : Nat) : List Int := (List.range ln.length).map (aftP ln c)

theorem state_ok {ln : List Nat} (hok : ∀ x ∈ ln, 1 ≤ x) (c : Nat) : stOk (nI ln) (nI (stateP ln c)) = true := by
  rw [stOk_iff]
  refine ⟨by simp [stateP, digR_len], fun p hp => ?_⟩
  rw [List.zip_map] at hp
  obtain ⟨q, hq, rfl⟩ := List.mem_map.1 hp
  have := digR_ok ln c hok q hq
  simp only [Prod.map_fst, Prod.map_snd]
  omega

theorem row_loop {v : Value} {ln : List Nat} {c : Nat} {g0 : H} (hl : SlR g0 3 1 v (cellsI (nI ln))) (ht : TaskI (nI ln)) (hc : c < 2 ^ 30) :
    ∃ sv h' b, lpGo (f54_l2 rn 200010 v [iv c] ln.length) 200010 [.slice none 0 0, iv 0] g0 = some (.exit 2, [sv, iv ln.length], h') ∧ Ext g0 h' ∧ g0.nx ≤ b ∧ IA h' b sv (rowP ln c) := by
  have h5 : ln.length ≤ 5 := by have := ht.len.2; simpa using this
  have h1 : 1 ≤ ln.length := by have := ht.len.1; simpa using this
  have hok : ∀ x ∈ ln, 1 ≤ x ∧ x ≤ 40 := fun x hx => by
    have := ht.rng (x : Int) (List.mem_map.2 ⟨x, hx, rfl⟩)
    omega
  have hst := state_ok (fun x hx => (hok x hx).1) c
  obtain ⟨ws', h', hlp, xg, sv, hap, rfl⟩ := lp_for (σ := Unit) (F := f54_l2 rn 200010 v [iv c] ln.length) (k := 200010) (l := List.range ln.length) (fun _ _ _ => ())
    (fun i _ ws g => Ext g0 g ∧ ∃ sv, AqR g0.nx g 3 1 sv (cellsI ((List.range i).map (aftP ln c))) ∧ ws = [sv, iv i]) 2 (ws := [.slice none 0 0, iv 0]) (h := g0) (s0 := ())
    ⟨.refl _, _, .nil, rfl⟩ (by rw [List.length_range]; omega)
    (by
      rintro _ ws g ⟨_, sv, _, rfl⟩
      simp [f54_l2])
    (by
      rintro i x _ ws g hx ⟨xg, sv, hap, rfl⟩
      have hi := (List.getElem?_eq_some_iff.1 hx).1
      rw [List.length_range] at hi
      have hadd : add .i64 (i : Int) 1 = (i : Int) + 1 := add64 (by omega) (by omega)
      obtain ⟨v3, ga, ba, e1, xa, ia⟩ := s89 (c := c) (hl.ext xg) h5 h1 hok hc
      obtain ⟨v5, q, gb, e2, xb, hN⟩ := s67 (task := (i : Int)) (hl.ext (xg.trans xa)) ia.slR ht hst
      have x8 := (xg.trans xa).trans xb
      have xab := xa.trans xb
      have a8 : AqR g0.nx gb 3 1 sv (cellsI ((List.range i).map (aftP ln c))) := hap.keep xab.nx fun q hq => xab.blk q (hap.blkOf hq).2.1
      have push : ∀ z : Int, z = aftP ln c i → ∃ v' h9, (∀ (K : Value → H → Option (Ex × List Value × H)), (bls Try.prog gb 22 1 [(0, iv z)] fun y h2 => app Try.prog h2 22 22 sv y K) = K v' h9) ∧ Ext g0 h9 ∧ AqR g0.nx h9 3 1 v' (cellsI ((List.range (i + 1)).map (aftP ln c))) := by
        intro z hz
        obtain ⟨v', h9, e9, a9, n9, k9, b9, hb9, hb9'⟩ := a8.push app22 app22 (bls22 z) rfl rfl (by simp; omega) x8.nx
        refine ⟨v', h9, fun K => e9 K, ⟨by have := x8.nx; omega, fun q hq => ?_⟩, ?_⟩
        · rw [k9 q (by have := x8.nx; omega) (fun e => by have := (a8.blkOf e).1; omega)]
          exact x8.blk q hq
        · have er : cellsI ((List.range (i + 1)).map (aftP ln c)) = cellsI ((List.range i).map (aftP ln c)) ++ [[iv z]] := by
            unfold cellsI
            rw [List.range_succ, List.map_append, List.map_append, hz]
            rfl
          rw [er]
          exact a9
      have c1 := fun (K : Value → H → Option (Ex × List Value × H)) => calls_eq (K := K) (xs := [_, _]) e1
      have c2 := fun (K : Value → H → Option (Ex × List Value × H)) => calls_eq (K := K) (xs := [_, _, _]) e2
      cases ho : nextP (nI ln) (nI (stateP ln c)) (i : Int) with
      | none =>
        rw [ho] at hN
        obtain ⟨rfl, rfl⟩ := hN
        obtain ⟨v', h9, e9, x9, a9⟩ := push (-1) (by unfold aftP; rw [ho])
        refine ⟨[v', iv ((i : Int) + 1)], h9, ?_, x9, v', a9, rfl⟩
        simp [f54_l2, hi, c1, c2, e9, hadd]
      | some o =>
        rw [ho] at hN
        obtain ⟨hso, rfl, _⟩ := hN
        have e3 := s66 (hl.ext x8) hso ht (next_ok (fun x hx => (ht.rng x hx).1) hst ho)
        have c3 := fun (K : Value → H → Option (Ex × List Value × H)) => calls_eq (K := K) (xs := [_, _]) e3
        obtain ⟨v', h9, e9, x9, a9⟩ := push (codeP (nI ln) o) (by unfold aftP; rw [ho])
        refine ⟨[v', iv ((i : Int) + 1)], h9, ?_, x9, v', a9, rfl⟩
        simp [f54_l2, hi, c1, c2, c3, e9, hadd])
  rw [List.length_range] at hap hlp
  obtain ⟨b, q1, q2, q3⟩ := hap.ia (by
    intro e
    have := congrArg List.length e
    simp only [List.length_map, List.length_range, List.length_nil] at this
    omega)
  exact ⟨sv, h', b, hlp, xg, q1, q3⟩

end Go.AM

namespace Go.AM
open Go.Proofs

variable {k : Nat} {R : Type}

attribute [local simp] nx_eq nx_new nx_set blk_new blk_set asI_int asK_int asB_bool asP_ptr al_eq bx_eq len_slice onE_exit onE_ret onR_ret Value.cells d3 d22 d31 d60 w60 w3 cell_new cell_set rd_new rd_set off eq lt le ifB gv out eqF1 eqF2 eqF3 eqF4 eqF5 eqF6 eqF7 eqF8 ext20 ext21

abbrev cellsV (vs : List Value) : List (List Value) := vs.map fun v => [v]

/-- Slices of slices of numbers: what each one stands for, and that their blocks are not among some. -/
structure SsN (h : H) (bad : Nat → Prop) (vs : List Value) (ls : List (List Int)) : Prop where
  len : vs.length = ls.length
  el : ∀ (j : Nat) (v : Value) (l : List Int), vs[j]? = some v → ls[j]? = some l → SlR h 3 1 v (cellsI l) ∧ ∃ b, blkOf v = some b ∧ b < h.nx ∧ ¬ bad b

theorem SlR.keepB {h h' : H} {e : TypeId} {s : Nat} {v : Value} {l : List (List Value)} (a : SlR h e s v l) (hn : h.nx ≤ h'.nx) (hb : ∀ b, blkOf v = some b → h'.blk b = h.blk b) : SlR h' e s v l := by
  cases a with
  | nil => exact .nil
  | at_ hb' hr hk hc hl hx => exact .at_ (Nat.lt_of_lt_of_le hb' hn) ((hb _ rfl).trans hr) hk hc hl hx

theorem SsN.keep {h h' : H} {bad bad' : Nat → Prop} {vs : List Value} {ls : List (List Int)} (a : SsN h bad vs ls) (hn : h.nx ≤ h'.nx) (hb : ∀ b, b < h.nx → ¬ bad b → h'.blk b = h.blk b) (hbad : ∀ b, b < h.nx → bad' b → bad b) : SsN h' bad' vs ls :=
  ⟨a.len, fun j v l hv hl => by
    obtain ⟨h1, b, h2, h3, h4⟩ := a.el j v l hv hl
    exact ⟨h1.keepB hn fun b' hb' => by
      rw [h2] at hb'
      cases hb'
      exact hb b h3 h4, b, h2, Nat.lt_of_lt_of_le h3 hn, fun hc => h4 (hbad b h3 hc)⟩⟩

theorem SsN.snoc {h : H} {bad : Nat → Prop} {vs : List Value} {ls : List (List Int)} (a : SsN h bad vs ls) {v : Value} {l : List Int} (hv : SlR h 3 1 v (cellsI l)) {b : Nat} (hb : blkOf v = some b) (hbn : b < h.nx) (hbb : ¬ bad b) : SsN h bad (vs ++ [v]) (ls ++ [l]) := by
  refine ⟨by simp [a.len], fun j w m hw hm => ?_⟩
  rcases Nat.lt_or_ge j vs.length with h1 | h1
  · rw [List.getElem?_append_left h1] at hw
    rw [List.getElem?_append_left (by rw [← a.len]; exact h1)] at hm
    exact a.el j w m hw hm
  · rw [List.getElem?_append_right h1] at hw
    rw [List.getElem?_append_right (by rw [← a.len]; exact h1)] at hm
    have h2 : j - vs.length = 0 := by
      rcases Nat.eq_zero_or_pos (j - vs.length) with h2 | h2
      · exact h2
      · rw [List.getElem?_eq_none (by simp; omega)] at hw; cases hw
    rw [h2] at hw
    rw [← a.len, h2] at hm
    simp at hw hm
    subst hw; subst hm
    exact ⟨hv, b, hb, hbn, hbb⟩

theorem app60 : okApp Try.prog 60 22 1 = true := by kernel_rfl
theorem bls60 (v : Value) (hv : ∃ x n c, v = .slice x n c) (h : H) : buildSlice Try.prog 60 1 [(0, v)] h = some (.slice (some ⟨h.nx, 0, none⟩) 1 1, h.new (.row [v] 22 true)) := by
  obtain ⟨x, n, c, rfl⟩ := hv
  kernel_rfl

/-- The rows so far: the machine stands at m. -/
def RowI (h0 : H) (m : Nat) (v0 : Value) (ln : List Nat) (i : Nat) (ws : List Value) (g : H) : Prop :=
  m + 1 ≤ g.nx ∧ (∀ b, b < m → g.blk b = h0.blk b) ∧ ws = [iv i] ∧ ∃ av vs, g.blk m = some (.row [v0, av, .slice none 0 0] 76 true) ∧ AqR (m + 1) g 22 1 av (cellsV vs) ∧ SsN g (fun b => b ≤ m ∨ blkOf av = some b) vs ((List.range i).map (rowP ln))

theorem rows_loop {v0 : Value} {ln : List Nat} {h0 h2 : H} {D : Nat} (hD : D < 20009) (hl : SlR h0 3 1 v0 (cellsI (nI ln))) (ht : TaskI (nI ln))
    (hn : h0.nx + 1 ≤ h2.nx) (hlo : ∀ b, b < h0.nx → h2.blk b = h0.blk b) (hb : h2.blk h0.nx = some (.row [v0, .slice none 0 0, .slice none 0 0] 76 true)) :
    ∃ h', lpGo (f54_l1 rn 200010 v0 h0 D) 200010 [iv 0] h2 = some (.exit 0, [iv D], h') ∧ RowI h0 h0.nx v0 ln D [iv D] h' := by
  obtain ⟨ws', h', hlp, hI⟩ := lp_for (σ := Unit) (F := f54_l1 rn 200010 v0 h0 D) (k := 200010) (l := List.range D) (fun _ _ _ => ())
    (fun i _ ws g => RowI h0 h0.nx v0 ln i ws g) 0 (ws := [iv 0]) (h := h2) (s0 := ())
    ⟨hn, hlo, rfl, _, [], hb, .nil, ⟨rfl, fun j v l hv => by simp at hv⟩⟩ (by rw [List.length_range]; omega)
    (by
      rintro _ ws g ⟨_, _, rfl, _⟩
      simp [f54_l1])
    (by
      rintro i x _ ws g hx ⟨hgn, hglo, rfl, av, vs, hgb, hap, hss⟩
      have hi := (List.getElem?_eq_some_iff.1 hx).1
      rw [List.length_range] at hi
      have hadd : add .i64 (i : Int) 1 = (i : Int) + 1 := add64 (by omega) (by omega)
      have xg0 : Ext h0 g := ⟨by omega, hglo⟩
      obtain ⟨sv, h12, b, e1, x12, hlo12, ia⟩ := row_loop (c := i) (hl.ext xg0) ht (by omega)
      have hln : ∀ (K : Int → Option (Ex × List Value × H)), len v0 K = K (ln.length : Int) := fun K => by rw [hl.len]; simp
      have hgb12 : h12.blk h0.nx = some (.row [v0, av, .slice none 0 0] 76 true) := (x12.blk _ (by omega)).trans hgb
      have hap12 := hap.ext x12
      have hsl : ∃ x n c, sv = .slice x n c := by obtain ⟨c, h1, _⟩ := ia.val; exact ⟨_, _, _, h1⟩
      have hbk : blkOf sv = some b := by obtain ⟨c, h1, _⟩ := ia.val; rw [h1]; rfl
      have hlv : (cellsV vs).length = i := by rw [List.length_map, hss.len, List.length_map, List.length_range]
      obtain ⟨v', h14, e9, a9, n9, k9, b9, hb9, hb9'⟩ := hap12.push app60 app60 (bls60 sv hsl) rfl (by obtain ⟨x, n, c, rfl⟩ := hsl; rfl) (by omega) (by have := x12.nx; omega)
      have hav : ∀ q, blkOf av = some q → h0.nx + 1 ≤ q := fun q hq => (hap.blkOf hq).1
      have hgb14 : h14.blk h0.nx = some (.row [v0, av, .slice none 0 0] 76 true) := by
        rw [k9 _ (by have := x12.nx; omega) (fun e => by have := hav _ e; omega)]; exact hgb12
      have hcl := a9.cells
      have hw : wrc 1 h14 h0.nx 1 v' = some (h14.set h0.nx (.row [v0, v', .slice none 0 0] 76 true)) := by
        rw [wrc_one hgb14 hcl.1 hcl.2 (by simp)]; rfl
      refine ⟨[iv ((i : Int) + 1)], h14.set h0.nx (.row [v0, v', .slice none 0 0] 76 true), ?_, ?_, fun q hq => ?_, rfl, v', vs ++ [sv], blk_set_self _ _ _, ?_, ?_⟩
      · have ee : ∀ (K : Value → H → Option (Ex × List Value × H)), (bls Try.prog h12 60 1 [(0, sv)] fun y h2 => app Try.prog h2 60 60 av y K) = K v' h14 := fun K => e9 K
        simp [f54_l1, show i < D by omega, hln, lp_eq e1, cell_of hgb12, ee, hw, hadd]
      · show h0.nx + 1 ≤ h14.nx
        have := x12.nx; omega
      · rw [blk_set, if_neg (by omega), k9 q (by have := x12.nx; omega) (fun e => by have := hav _ e; omega), x12.blk q (by omega)]
        exact hglo q hq
      · have : cellsV (vs ++ [sv]) = cellsV vs ++ [[sv]] := by simp
        rw [this]
        exact a9.keep (Nat.le_refl _) fun q hq => by rw [blk_set, if_neg (by have := (a9.blkOf hq).1; omega)]
      · have er : (List.range (i + 1)).map (rowP ln) = (List.range i).map (rowP ln) ++ [rowP ln i] := by
          rw [List.range_succ, List.map_append]; rfl
        rw [er]
        have s14 : SsN h14 (fun b => b ≤ h0.nx ∨ blkOf v' = some b) vs ((List.range i).map (rowP ln)) := by
          have s12 : SsN h12 (fun b => b ≤ h0.nx ∨ blkOf av = some b) vs ((List.range i).map (rowP ln)) := hss.keep x12.nx (fun q hq _ => x12.blk q hq) (fun _ _ h => h)
          exact s12.keep n9 (fun q hq hbad => k9 q hq (fun e => hbad (.inr e))) (fun q hq h => h.elim .inl (fun e => by rw [hb9] at e; cases e; omega))
        have hbm : ¬ (b ≤ h0.nx ∨ blkOf v' = some b) := by
          rintro (h | h)
          · omega
          · rw [hb9] at h; cases h; have := ia.lt; omega
        have s15 := s14.keep (h' := h14.set h0.nx (.row [v0, v', .slice none 0 0] 76 true)) (bad' := fun b => b ≤ h0.nx ∨ blkOf v' = some b) (Nat.le_refl _) (fun q _ hbad => by rw [blk_set, if_neg (fun e => hbad (.inl (by omega)))]) (fun _ _ h => h)
        have ia14 : IA (h14.set h0.nx (.row [v0, v', .slice none 0 0] 76 true)) b sv (rowP ln i) := by
          refine ia.keep n9 ?_
          rw [blk_set, if_neg (by omega), k9 b ia.lt (fun e => ?_)]
          have h3 := (hap.blkOf e).2.1
          omega
        exact s15.snoc ia14.slR hbk ia14.lt hbm)
  rw [List.length_range] at hI
  obtain ⟨h1, h2', rfl, h3⟩ := hI
  exact ⟨h', hlp, h1, h2', rfl, h3⟩

end Go.AM

namespace Go.AM
open Go.Proofs

theorem zero22 : zero? Try.prog 22 = some (.slice none 0 0) := by kernel_rfl

theorem mks_nils {n : Nat} (hn : n < 2 ^ 30) {h : H} {R : Type} (K : Value → H → Option R) :
    mks Try.prog h 60 n n K = K (.slice (some ⟨h.nx, 0, none⟩) n n) (h.new (.row (List.replicate n (.slice none 0 0)) 22 true)) := by
  obtain ⟨i, z, h1, h2, h3, h4, h5, h6, h7⟩ := okApp_spec app60
  rw [zero22] at h3
  cases h3
  have hr : (List.range n).map (fun x => (Value.slice none 0 0).cells[x % 1]!) = List.replicate n (.slice none 0 0) := by
    apply List.ext_getElem
    · simp
    · intro j h8 h9
      simp [Nat.mod_one, Value.cells]
  unfold mks makeSlice
  simp only [h1, h2, zero22, h4, Option.bind_some]
  rw [if_pos ⟨by omega, by omega, by omega, h5, by omega, by rw [h7]⟩]
  simp only [Option.bind_some, Int.toNat_natCast, Nat.mul_one]
  rw [← hr]
  rfl

/-- A row of slices that are owned and grow: the row stands at b below lo; all slices from lo on, apart from each other and from the blocks that are bad. -/
structure BefR (lo : Nat) (bad : Nat → Prop) (h : H) (b : Nat) (v : Value) (vs : List Value) (ls : List (List Int)) : Prop where
  val : ∃ c, v = .slice (some ⟨b, 0, none⟩) vs.length c ∧ vs.length ≤ capK c ∧ capK c < U
  low : b < lo
  nx : lo ≤ h.nx
  row : h.blk b = some (.row vs 22 true)
  len : vs.length = ls.length
  el : ∀ (j : Nat) (w : Value) (l : List Int), vs[j]? = some w → ls[j]? = some l → AqR lo h 3 1 w (cellsI l)
  ok : ∀ w ∈ vs, ∀ q, blkOf w = some q → ¬ bad q
  apart : ∀ (i j : Nat) (w w' : Value) (q : Nat), i ≠ j → vs[i]? = some w → vs[j]? = some w' → blkOf w = some q → blkOf w' ≠ some q

theorem BefR.keep {lo : Nat} {bad bad' : Nat → Prop} {h h' : H} {b : Nat} {v : Value} {vs : List Value} {ls : List (List Int)} (a : BefR lo bad h b v vs ls) (hn : h.nx ≤ h'.nx) (hbb : h'.blk b = h.blk b) (hb : ∀ q, lo ≤ q → q < h.nx → ¬ bad q → h'.blk q = h.blk q)
    (hbad : ∀ q, lo ≤ q → q < h.nx → bad' q → bad q) : BefR lo bad' h' b v vs ls := by
  have hin : ∀ w ∈ vs, ∃ l, AqR lo h 3 1 w (cellsI l) := fun w hw => by
    obtain ⟨j, hj⟩ := List.getElem?_of_mem hw
    have hjl := (List.getElem?_eq_some_iff.1 hj).1
    exact ⟨_, a.el j w _ hj (List.getElem?_eq_getElem (by rw [← a.len]; exact hjl))⟩
  refine ⟨a.val, a.low, Nat.le_trans a.nx hn, hbb.trans a.row, a.len, fun j w l hw hl => ?_, fun w hw q hq hc => ?_, a.apart⟩
  · have h1 := a.el j w l hw hl
    exact h1.keep hn fun q hq => hb q (h1.blkOf hq).1 (h1.blkOf hq).2.1 (a.ok w (List.mem_of_getElem? hw) q hq)
  · obtain ⟨l, h1⟩ := hin w hw
    exact a.ok w hw q hq (hbad q (h1.blkOf hq).1 (h1.blkOf hq).2.1 hc)

/-- An element grows by a number. -/
theorem BefR.grow {lo : Nat} {bad : Nat → Prop} {h h' : H} {b : Nat} {v : Value} {vs : List Value} {ls : List (List Int)} (a : BefR lo bad h b v vs ls) {j : Nat} {w w' : Value} {l l' : List Int} (hw : vs[j]? = some w) (hl : ls[j]? = some l)
    (a' : AqR lo h' 3 1 w' (cellsI l')) (hn : h.nx ≤ h'.nx) (hk : ∀ q, q < h.nx → blkOf w ≠ some q → h'.blk q = h.blk q) {q' : Nat} (hq' : blkOf w' = some q') (hnew : h.nx ≤ q') (hbad : ∀ q, h.nx ≤ q → ¬ bad q) :
    BefR lo bad (h'.set b (.row (vs.set j w') 22 true)) b v (vs.set j w') (ls.set j l') := by
  have hj := (List.getElem?_eq_some_iff.1 hw).1
  have hlow := a.low
  have hnx := a.nx
  refine ⟨by simpa using a.val, a.low, Nat.le_trans a.nx hn, blk_set_self _ _ _, by simp [a.len], fun i x m hx hm => ?_, fun x hx q hq => ?_, fun i i' x x' q hne hx hx' hq => ?_⟩
  · have hset : ∀ {y : Value} {n : List Int}, AqR lo h' 3 1 y (cellsI n) → AqR lo (h'.set b (.row (vs.set j w') 22 true)) 3 1 y (cellsI n) := fun {y n} ay =>
      ay.keep (Nat.le_refl _) fun q hq => by rw [blk_set, if_neg (by have := (ay.blkOf hq).1; omega)]
    by_cases hij : i = j
    · subst hij
      rw [List.getElem?_set_self hj] at hx
      rw [List.getElem?_set_self (by rw [← a.len]; exact hj)] at hm
      cases hx; cases hm
      exact hset a'
    · rw [List.getElem?_set_ne (Ne.symm hij)] at hx hm
      have h1 := a.el i x m hx hm
      exact hset (h1.keep hn fun q hq => hk q (h1.blkOf hq).2.1 (fun e => a.apart j i w x q (Ne.symm hij) hw hx e hq))
  · rcases List.mem_or_eq_of_mem_set hx with h1 | h1
    · exact a.ok x h1 q hq
    · subst h1
      rw [hq'] at hq
      cases hq
      exact hbad _ hnew
  · have old : ∀ (i : Nat) (x : Value), i ≠ j → (vs.set j w')[i]? = some x → ∀ q, blkOf x = some q → q < h.nx := fun i x hij hx q hq => by
      rw [List.getElem?_set_ne (Ne.symm hij)] at hx
      have hil := (List.getElem?_eq_some_iff.1 hx).1
      exact ((a.el i x _ hx (List.getElem?_eq_getElem (by rw [← a.len]; exact hil))).blkOf hq).2.1
    by_cases h1 : i = j
    · subst h1
      rw [List.getElem?_set_self hj] at hx
      cases hx
      rw [hq'] at hq
      cases hq
      intro e
      have := old i' x' (Ne.symm hne) hx' _ e
      omega
    · by_cases h2 : i' = j
      · subst h2
        rw [List.getElem?_set_self hj] at hx'
        cases hx'
        rw [hq']
        intro e
        cases e
        have := old i x h1 hx _ hq
        omega
      · rw [List.getElem?_set_ne (Ne.symm h1)] at hx
        rw [List.getElem?_set_ne (Ne.symm h2)] at hx'
        exact a.apart i i' x x' q hne hx hx' hq

end Go.AM
