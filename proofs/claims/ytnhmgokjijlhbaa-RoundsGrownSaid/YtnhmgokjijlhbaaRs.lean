/- The document's lives: day by day. -/
import Derived.Test.YtnhmgokjijlhbaaRq
namespace Go.Lives

def deadB (tos : Nat → List Nat) (lv : Nat → Int) (c : Nat) : Bool := decide (lv c < 0) && (tos c).all fun t => decide (0 ≤ lv t)
def deadL (D : Nat) (tos : Nat → List Nat) (lv : Nat → Int) : List Nat := (List.range D).filter (deadB tos lv)
def dayS (D : Nat) (tos : Nat → List Nat) (lv : Nat → Int) (d : Nat) : Nat → Int := fun c => if c ∈ deadL D tos lv then (d : Int) else lv c

structure DI (D : Nat) (tos : Nat → List Nat) (d : Nat) (lv : Nat → Int) : Prop where
  val : ∀ c, c < D → lv c = -1 ∨ (0 ≤ lv c ∧ lv c < d)
  ins : ∀ c, c < D → 0 ≤ lv c → (∀ t ∈ tos c, 0 ≤ lv t ∧ lv t < lv c) ∧ (lv c = 0 ∨ ∃ t ∈ tos c, lv t = lv c - 1)
  out : ∀ c, c < D → lv c = -1 → 0 < d → ∃ t ∈ tos c, ¬ (0 ≤ lv t ∧ lv t < (d : Int) - 1)

theorem mem_dead {D : Nat} {tos : Nat → List Nat} {lv : Nat → Int} {c : Nat} : c ∈ deadL D tos lv ↔ c < D ∧ lv c < 0 ∧ ∀ t ∈ tos c, 0 ≤ lv t := by
  simp [deadL, deadB]

theorem DI.step {D : Nat} {tos : Nat → List Nat} (hD : ∀ c, c < D → ∀ t ∈ tos c, t < D) {d : Nat} {lv : Nat → Int} (h : DI D tos d lv) : DI D tos (d + 1) (dayS D tos lv d) := by
  have same : ∀ c, 0 ≤ lv c → dayS D tos lv d c = lv c := fun c hc => by
    unfold dayS
    rw [if_neg (fun hm => by have := (mem_dead.1 hm).2.1; omega)]
  refine ⟨fun c hc => ?_, fun c hc h0 => ?_, fun c hc h1 _ => ?_⟩
  · have := h.val c hc
    unfold dayS
    split <;> omega
  · by_cases hm : c ∈ deadL D tos lv
    · obtain ⟨_, h2, h3⟩ := mem_dead.1 hm
      have hd : dayS D tos lv d c = d := if_pos hm
      rw [hd]
      have hl : lv c = -1 := by have := h.val c hc; omega
      refine ⟨fun t ht => ?_, ?_⟩
      · rw [same t (h3 t ht)]
        have := h.val t (hD c hc t ht)
        have := h3 t ht
        omega
      · rcases Nat.eq_zero_or_pos d with h4 | h4
        · left; omega
        · obtain ⟨t, ht, h5⟩ := h.out c hc hl h4
          right
          refine ⟨t, ht, ?_⟩
          rw [same t (h3 t ht)]
          have := h.val t (hD c hc t ht)
          have := h3 t ht
          omega
    · have hd : dayS D tos lv d c = lv c := if_neg hm
      rw [hd] at h0 ⊢
      obtain ⟨h2, h3⟩ := h.ins c hc h0
      refine ⟨fun t ht => ?_, h3.imp id fun ⟨t, ht, h4⟩ => ⟨t, ht, ?_⟩⟩
      · rw [same t (h2 t ht).1]; exact h2 t ht
      · rw [same t (h2 t ht).1]; exact h4
  · have hm : c ∉ deadL D tos lv := fun hm => by
      have : dayS D tos lv d c = d := if_pos hm
      omega
    have hd : dayS D tos lv d c = lv c := if_neg hm
    rw [hd] at h1
    have : ∃ t ∈ tos c, ¬ 0 ≤ lv t := by
      refine Classical.byContradiction fun hn => hm (mem_dead.2 ⟨hc, by omega, fun t ht => ?_⟩)
      exact Classical.byContradiction fun h0 => hn ⟨t, ht, h0⟩
    obtain ⟨t, ht, h2⟩ := this
    refine ⟨t, ht, ?_⟩
    have := h.val t (hD c hc t ht)
    unfold dayS
    split <;> omega

theorem DI.done {D : Nat} {tos : Nat → List Nat} (hD : ∀ c, c < D → ∀ t ∈ tos c, t < D) {d : Nat} {lv : Nat → Int} (h : DI D tos d lv) (hn : deadL D tos lv = []) : IsLife D tos lv := by
  intro c hc
  refine ⟨fun h1 => ?_, fun h1 => ?_⟩
  · have hm : c ∉ deadL D tos lv := by rw [hn]; simp
    have : ∃ t ∈ tos c, ¬ 0 ≤ lv t := by
      refine Classical.byContradiction fun hn => hm (mem_dead.2 ⟨hc, by omega, fun t ht => ?_⟩)
      exact Classical.byContradiction fun h0 => hn ⟨t, ht, h0⟩
    obtain ⟨t, ht, h2⟩ := this
    exact ⟨t, ht, by have := h.val t (hD c hc t ht); omega⟩
  · have h0 : 0 ≤ lv c := by have := h.val c hc; omega
    exact ⟨h0, h.ins c hc h0⟩

def cntU (D : Nat) (lv : Nat → Int) : Nat := (List.range D).countP fun c => decide (lv c = -1)

theorem cnt_step {D : Nat} {tos : Nat → List Nat} {d : Nat} {lv : Nat → Int} (h : DI D tos d lv) : cntU D (dayS D tos lv d) + (deadL D tos lv).length = cntU D lv := by
  unfold cntU
  have e : (deadL D tos lv).length = (List.range D).countP (fun c => decide (c ∈ deadL D tos lv)) := by
    rw [List.countP_eq_length_filter]
    congr 1
    unfold deadL
    apply List.filter_congr
    intro c hc
    rw [Bool.eq_iff_iff, decide_eq_true_iff, List.mem_filter]
    exact ⟨fun h => ⟨hc, h⟩, fun h => h.2⟩
  rw [e]
  have key : ∀ l : List Nat, (∀ c ∈ l, c < D) → l.countP (fun c => decide (dayS D tos lv d c = -1)) + l.countP (fun c => decide (c ∈ deadL D tos lv)) = l.countP fun c => decide (lv c = -1) := by
    intro l
    induction l with
    | nil => intro _; rfl
    | cons c l ih =>
      intro hl
      have ih := ih fun y hy => hl y (by simp [hy])
      have hv := h.val c (hl c (by simp))
      rw [List.countP_cons, List.countP_cons, List.countP_cons]
      by_cases hm : c ∈ deadL D tos lv
      · have h1 : dayS D tos lv d c = d := if_pos hm
        have h2 := (mem_dead.1 hm).2.1
        rw [h1]
        simp only [hm, decide_true, if_true]
        have h3 : ¬ ((d : Int) = -1) := by omega
        have h4 : lv c = -1 := by omega
        simp [h3, h4]
        omega
      · have h1 : dayS D tos lv d c = lv c := if_neg hm
        rw [h1]
        simp only [hm, decide_false]
        simp
        omega
  exact key _ fun c hc => List.mem_range.1 hc

theorem updFold (d : Int) : ∀ (l : List Nat) (lv : Nat → Int), l.foldl (fun lv c => upd lv c d) lv = fun c => if c ∈ l then d else lv c := by
  intro l
  induction l with
  | nil => intro lv; simp
  | cons x l ih =>
    intro lv
    rw [List.foldl_cons, ih]
    funext c
    by_cases h : c ∈ l
    · simp [h]
    · by_cases h2 : c = x
      · simp [h2, upd]
      · simp [h, h2, upd]

end Go.Lives
namespace Go.AM
open Go.Proofs Go.Lives

variable {R : Type}

attribute [local simp] nx_eq nx_new nx_set blk_new blk_set asI_int asK_int asB_bool asP_ptr al_eq bx_eq len_slice onE_exit onE_ret onR_ret Value.cells d3 d22 d31 d60 w60 w3 w22 cell_new cell_set rd_new rd_set off eq lt le ifB gv out eqF1 eqF2 eqF3 eqF4 eqF5 eqF6 eqF7 eqF8 ext20 ext21

/-- The lives so far. -/
structure VS (D b4 : Nat) (v14 : Value) (h21 : H) (g : H) (lv : Nat → Int) : Prop where
  b : b4 < h21.nx
  nx : h21.nx ≤ g.nx
  fr : ∀ b, b < h21.nx → b ≠ b4 → g.blk b = h21.blk b
  lv : IA g b4 v14 ((List.range D).map lv)

section
variable {D b4 : Nat} {v14 : Value} {h21 g : H} {lv : Nat → Int}
theorem VS.get (a : VS D b4 v14 h21 g lv) {i : Nat} (hi : i < D) (K : Value → Option R) : (six v14 (i : Int) 1 fun b o => (g.cell b o).bind K) = K (iv (lv i)) :=
  a.lv.get (by omega) (by rw [Int.toNat_natCast]; exact mapr_get _ hi) K
theorem VS.put (a : VS D b4 v14 h21 g lv) {i : Nat} (hi : i < D) (x : Int) (K : H → Option R) : (six v14 (i : Int) 1 fun b o => (wrc 1 g b o (.int .i64 x)).bind K) = K (g.set b4 (.row ((((List.range D).map lv).set i x).map iv) 3 true)) := by
  rw [a.lv.put (by omega) (by simp; omega), a.lv.wrc (i := ((i : Int)).toNat) (by simp; omega)]; rfl
theorem VS.set (a : VS D b4 v14 h21 g lv) (i : Nat) (x : Int) : VS D b4 v14 h21 (g.set b4 (.row ((((List.range D).map lv).set i x).map iv) 3 true)) (upd lv i x) := by
  have h1 := a.lv.set i x
  rw [mapr_set] at h1
  rw [mapr_set]
  exact ⟨a.b, a.nx, fun b h h2 => (blk_set_ne _ _ _ h2).trans (a.fr b h h2), h1⟩
theorem VS.keep (a : VS D b4 v14 h21 g lv) {g' : H} (hn : g.nx ≤ g'.nx) (hb : ∀ b, b < h21.nx → g'.blk b = g.blk b) : VS D b4 v14 h21 g' lv :=
  ⟨a.b, Nat.le_trans a.nx hn, fun b h h2 => (hb b h).trans (a.fr b h h2), a.lv.keep hn (hb _ a.b)⟩
end

/-- What comes after each state, as it was made. -/
def ToS (h : H) (D b4 : Nat) (v2 : Value) (vs : List Value) (tos : Nat → List Nat) : Prop :=
  SlR h 22 1 v2 (cellsV vs) ∧ (∀ b, blkOf v2 = some b → b < h.nx ∧ b ≠ b4) ∧ ∀ j, j < D → ∃ w, vs[j]? = some w ∧ SlR h 3 1 w (cellsI (nI (tos j))) ∧ ∀ b, blkOf w = some b → b < h.nx ∧ b ≠ b4

theorem scan_loop {D b4 : Nat} {v2 v14 : Value} {h21 g0 : H} {vs : List Value} {tos : Nat → List Nat} {lv : Nat → Int} (hD : D < 20009) (hT : ToS h21 D b4 v2 vs tos) (htD : ∀ c, c < D → ∀ t ∈ tos c, t < D) (htl : ∀ c, c < D → (tos c).length ≤ 5) (a : VS D b4 v14 h21 g0 lv) :
    ∃ g' dv, lpGo (f62_l8 rn 200010 v2 v14 D) 200010 [.slice none 0 0, iv 0] g0 = some (.exit 14, [dv, iv D], g') ∧ VS D b4 v14 h21 g' lv ∧ AqR h21.nx g' 3 1 dv (cellsI (nI (deadL D tos lv))) := by
  obtain ⟨ws', g', hlp, dv, hV, hA, rfl⟩ := lp_for (σ := Unit) (F := f62_l8 rn 200010 v2 v14 D) (k := 200010) (l := List.range D) (fun _ _ _ => ())
    (fun s _ ws g => ∃ dv, VS D b4 v14 h21 g lv ∧ AqR h21.nx g 3 1 dv (cellsI (nI ((List.range s).filter (deadB tos lv)))) ∧ ws = [dv, iv s]) 14 (ws := [.slice none 0 0, iv 0]) (h := g0) (s0 := ())
    ⟨_, a, .nil, rfl⟩ (by rw [List.length_range]; omega)
    (by
      rintro _ ws g ⟨dv, _, _, rfl⟩
      simp [f62_l8])
    (by
      rintro s x _ ws g hx ⟨dv, hV, hA, rfl⟩
      have hi := (List.getElem?_eq_some_iff.1 hx).1
      rw [List.length_range] at hi
      obtain ⟨hT1, hT2, hT3⟩ := hT
      obtain ⟨w, hw, hws, hwb⟩ := hT3 s hi
      have hnx := hV.nx
      have hb4 := hV.b
      have hv2 : SlR g 22 1 v2 (cellsV vs) := hT1.keepB (by omega) fun b hb => hV.fr b (hT2 b hb).1 (hT2 b hb).2
      have hwg : SlR g 3 1 w (cellsI (nI (tos s))) := hws.keepB (by omega) fun b hb => hV.fr b (hwb b hb).1 (hwb b hb).2
      have hadd : add .i64 (s : Int) 1 = (s : Int) + 1 := add64 (by omega) (by omega)
      have e1 := fun (K : Value → Option (Ex × List Value × H)) => hV.get hi K
      have e2 : ∀ (K : Value → Option (Ex × List Value × H)), (six v2 (s : Int) 1 fun b o => (g.cell b o).bind K) = K w := fun K => hv2.c0 (by omega) (x := [w]) (by simp [hw]) rfl K
      have e3 : ∀ (K : Int → Option (Ex × List Value × H)), len w K = K ((tos s).length : Int) := fun K => by rw [hwg.len]; simp
      have hl5 := htl s hi
      have hin := lp_same (ρ := Empty) (F := f62_l9 rn 200010 v14 w ((tos s).length : Int)) (k := 200010) (l := tos s) (h := g) (fun j (st : Bool) => [.bool st, iv j])
        (fun _ x st => .inl (st || decide (lv x < 0))) (fun _ _ => True) (fun _ => .ret) (fun _ => []) 16 (fun st => [.bool st, iv (tos s).length]) (ws := [.bool (decide (0 ≤ lv s)), iv 0]) (s0 := decide (0 ≤ lv s)) rfl trivial (by omega) (by simp)
        (fun _ _ => by simp [f62_l9])
        (by
          intro j x st hx _
          have hj := (List.getElem?_eq_some_iff.1 hx).1
          refine ⟨fun _ _ => trivial, ?_⟩
          have haddj : add .i64 (j : Int) 1 = (j : Int) + 1 := add64 (by omega) (by omega)
          have q1 := fun (K : Value → Option (Ex × List Value × H)) => nI_get hwg hx K
          have q2 := fun (K : Value → Option (Ex × List Value × H)) => hV.get (htD s hi x (List.mem_of_getElem? hx)) K
          cases st with
          | true => simp [f62_l9, hj, q1, haddj, rnd]
          | false => simp [f62_l9, hj, q1, q2, haddj, rnd])
      rw [itL_inl (fun _ x st => st || decide (lv x < 0))] at hin
      have hf : ∀ (l : List Nat) (b : Bool), l.foldl (fun st x => st || decide (lv x < 0)) b = (b || l.any fun x => decide (lv x < 0)) := by
        intro l
        induction l with
        | nil => intro b; simp
        | cons x l ih => intro b; rw [List.foldl_cons, ih]; simp [Bool.or_assoc]
      rw [foldI_l (fun st x => st || decide (lv x < 0)), hf] at hin
      have hdead : (decide (0 ≤ lv s) || (tos s).any fun x => decide (lv x < 0)) = !deadB tos lv s := by
        unfold deadB
        rw [Bool.not_and, List.not_all_eq_any_not]
        congr 1
        · rw [Bool.eq_iff_iff]; simp
        · congr 1
          funext t
          rw [Bool.eq_iff_iff]; simp
      rw [hdead] at hin
      have hfl : (List.range (s + 1)).filter (deadB tos lv) = (List.range s).filter (deadB tos lv) ++ if deadB tos lv s then [s] else [] := by
        rw [List.range_succ, List.filter_append]
        congr 1
        cases h : deadB tos lv s <;> simp [h]
      cases hd : deadB tos lv s with
      | true =>
        rw [hd] at hin hfl
        have hql := List.length_filter_le (deadB tos lv) (List.range s)
        rw [List.length_range] at hql
        obtain ⟨dv', g3, e9, a9, n9, k9, b9, hb9, hb9'⟩ := hA.push app22 app22 (bls22 (s : Int)) rfl rfl (by simp only [List.length_map]; omega) hnx
        refine ⟨[dv', iv ((s : Int) + 1)], g3, ?_, dv', hV.keep n9 (fun b hb => k9 b (by omega) (fun e => by have := (hA.blkOf e).1; omega)), ?_, rfl⟩
        · have ee : ∀ (K : Value → H → Option (Ex × List Value × H)), (bls Try.prog g 22 1 [(0, iv (s : Int))] fun y h2 => app Try.prog h2 22 22 dv y K) = K dv' g3 := fun K => e9 K
          simp [f62_l8, hi, e1, e2, e3, lp_eq hin.1, ee, hadd]
        · rw [hfl]
          have : cellsI (nI ((List.range s).filter (deadB tos lv) ++ if true = true then [s] else [])) = cellsI (nI ((List.range s).filter (deadB tos lv))) ++ [[iv (s : Int)]] := by simp
          rw [this]
          exact a9
      | false =>
        rw [hd] at hin hfl
        refine ⟨[dv, iv ((s : Int) + 1)], g, ?_, dv, hV, ?_, rfl⟩
        · simp [f62_l8, hi, e1, e2, e3, lp_eq hin.1, hadd]
        · rw [hfl]; simpa using hA)
  rw [List.length_range] at hA
  rw [List.length_range] at hlp
  exact ⟨g', dv, hlp, hV, hA⟩

theorem mark_loop {D b4 d : Nat} {v14 dv w0 : Value} {h21 g0 : H} {dl : List Nat} {lv : Nat → Int} (hD : D < 20009) (a : VS D b4 v14 h21 g0 lv) (hA : AqR h21.nx g0 3 1 dv (cellsI (nI dl))) (hdl : ∀ c ∈ dl, c < D) (hlen : dl.length ≤ D) (w1 : Value) :
    ∃ g' ws', lpGo (f62_l10 rn 200010 v14 [w0, iv d] [dv, w1] dl.length) 200010 [iv 0] g0 = some (.exit 18, ws', g') ∧ VS D b4 v14 h21 g' (fun c => if c ∈ dl then (d : Int) else lv c) := by
  obtain ⟨ws', g', hlp, hV, -⟩ := lp_for (σ := Nat → Int) (F := f62_l10 rn 200010 v14 [w0, iv d] [dv, w1] dl.length) (k := 200010) (l := dl) (fun _ c lv => upd lv c d)
    (fun j lv ws g => VS D b4 v14 h21 g lv ∧ AqR h21.nx g 3 1 dv (cellsI (nI dl)) ∧ ws = [iv j]) 18 (ws := [iv 0]) (h := g0) (s0 := lv)
    ⟨a, hA, rfl⟩ (by omega)
    (by
      rintro _ ws g ⟨_, _, rfl⟩
      simp [f62_l10])
    (by
      rintro j c lv ws g hx ⟨hV, hA, rfl⟩
      have hj := (List.getElem?_eq_some_iff.1 hx).1
      have hb4 := hV.b
      have hc := hdl c (List.mem_of_getElem? hx)
      have hadd : add .i64 (j : Int) 1 = (j : Int) + 1 := add64 (by omega) (by omega)
      have e1 := fun (K : Value → Option (Ex × List Value × H)) => nI_get hA.slR hx K
      have e2 := fun (K : H → Option (Ex × List Value × H)) => hV.put hc (d : Int) K
      refine ⟨[iv ((j : Int) + 1)], _, ?_, hV.set c d, hA.keep (Nat.le_refl _) fun b hb => blk_set_ne _ _ _ (by have := (hA.blkOf hb).1; omega), rfl⟩
      simp [f62_l10, hj, e1, e2, hadd])
  have hf : foldI (fun (_ : Nat) c lv => upd lv c (d : Int)) dl 0 lv = dl.foldl (fun lv c => upd lv c (d : Int)) lv := foldI_l _ _ _ _
  rw [hf, updFold] at hV
  exact ⟨g', ws', hlp, hV⟩

theorem days_loop {D b4 : Nat} {v2 v14 : Value} {h21 g0 : H} {vs : List Value} {tos : Nat → List Nat} (hD : D < 20009) (hT : ToS h21 D b4 v2 vs tos) (htD : ∀ c, c < D → ∀ t ∈ tos c, t < D) (htl : ∀ c, c < D → (tos c).length ≤ 5) (a : VS D b4 v14 h21 g0 fun _ => -1) :
    ∃ g' w life, lpGo (f62_l7 rn 200010 v2 v14) 200010 [.slice none 0 0, iv 0] g0 = some (.ret, [v14, w], g') ∧ VS D b4 v14 h21 g' life ∧ IsLife D tos life := by
  obtain ⟨e, ws', g', hlp, rfl, w, life, rfl, hV, hL⟩ := lpGo_inv (F := f62_l7 rn 200010 v2 v14)
    (fun m ws g => ∃ (d : Nat) (lv : Nat → Int) (w0 : Value), ws = [w0, iv d] ∧ VS D b4 v14 h21 g lv ∧ DI D tos d lv ∧ m = cntU D lv ∧ d + cntU D lv ≤ D)
    (fun e ws g => e = .ret ∧ ∃ w life, ws = [v14, w] ∧ VS D b4 v14 h21 g life ∧ IsLife D tos life)
    (by
      rintro m ws g ⟨d, lv, w0, rfl, hV, hI, rfl, hd⟩
      obtain ⟨g1, dv, e1, hV1, hA⟩ := scan_loop hD hT htD htl hV
      have hcs := cnt_step hI
      have hlen : (deadL D tos lv).length ≤ D := by
        have := List.length_filter_le (deadB tos lv) (List.range D)
        rw [List.length_range] at this
        exact this
      obtain ⟨g2, ws2, e2, hV2⟩ := mark_loop (d := d) (w0 := w0) hD hV1 hA (fun c hc => (mem_dead.1 hc).1) hlen (iv D)
      have hn14 : ∀ (K : Int → Option (Ex × List Value × H)), len v14 K = K (D : Int) := fun K => by rw [hV.lv.slR.len]; simp
      have hnd : ∀ (K : Int → Option (Ex × List Value × H)), len dv K = K ((deadL D tos lv).length : Int) := fun K => by rw [hA.slR.len]; simp
      have hadd : add .i64 (d : Int) 1 = (d : Int) + 1 := add64 (by omega) (by omega)
      by_cases hz : deadL D tos lv = []
      · have hlv : (fun c => if c ∈ deadL D tos lv then (d : Int) else lv c) = lv := by funext c; rw [hz]; simp
        rw [hlv] at hV2
        rw [hz] at e2 hnd
        refine ⟨.ret, [v14, iv d], g2, ?_, .inr ⟨by simp, rfl, _, lv, rfl, hV2, hI.done htD hz⟩⟩
        simp only [List.length_nil, Int.ofNat_eq_natCast, Int.cast_ofNat_Int] at e2 hnd
        simp [f62_l7, hn14, lp_eq e1, hnd, lp_eq e2]
      · have hpos : 0 < (deadL D tos lv).length := List.length_pos_iff.2 hz
        refine ⟨.normal, [w0, iv ((d : Int) + 1)], g2, ?_, .inl ⟨rfl, cntU D (dayS D tos lv d), by omega, d + 1, dayS D tos lv d, w0, rfl, hV2, hI.step htD, rfl, by omega⟩⟩
        simp [f62_l7, hn14, lp_eq e1, hnd, lp_eq e2, hz, hadd])
    (cntU D fun _ => -1) 200010 (by
      have : cntU D (fun _ => -1) ≤ (List.range D).length := List.countP_le_length
      rw [List.length_range] at this
      omega) ⟨0, _, _, rfl, a, ⟨fun c _ => .inl rfl, fun c _ h => by omega, fun c _ _ h => by omega⟩, rfl, by
      have : cntU D (fun _ => -1) ≤ (List.range D).length := List.countP_le_length
      rw [List.length_range] at this
      omega⟩
  exact ⟨g', w, life, hlp, hV, hL⟩

end Go.AM
