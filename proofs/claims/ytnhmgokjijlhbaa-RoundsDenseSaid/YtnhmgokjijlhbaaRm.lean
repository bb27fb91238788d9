/- The machine: its loops over all states, and over the queue. -/
import Derived.Test.YtnhmgokjijlhbaaRl
namespace Go.AM
open Go.Proofs Go.Lives

variable {R : Type}

attribute [local simp] nx_eq nx_new nx_set blk_new blk_set asI_int asK_int asB_bool asP_ptr al_eq bx_eq len_slice onE_exit onE_ret onR_ret Value.cells d3 d22 d31 d60 w60 w3 w22 cell_new cell_set rd_new rd_set off eq lt le ifB gv out eqF1 eqF2 eqF3 eqF4 eqF5 eqF6 eqF7 eqF8 ext20 ext21

/-! ### What the loops make -/

def cntR (rw : Nat → List Int) (c : Nat) : Nat := (rw c).countP (fun x => decide (x ≠ -1))
def befI (rw : Nat → List Int) (i : Nat) (t : Nat) : List Nat := (List.range i).flatMap fun c => List.replicate ((rw c).count (t : Int)) c
def opnI (rw : Nat → List Int) (i c : Nat) : Int := if c < i then (cntR rw c : Nat) else 0
def lifeI (rw : Nat → List Int) (i c : Nat) : Int := if c < i ∧ cntR rw c = 0 then 0 else -1
def quI (rw : Nat → List Int) (i : Nat) : List Nat := (List.range i).filter fun c => decide (cntR rw c = 0)

theorem foldB (i : Nat) : ∀ (row : List Int) (bef : Nat → List Nat), (∀ x ∈ row, x = -1 ∨ 0 ≤ x) → row.foldl (entB i) bef = fun t => bef t ++ List.replicate (row.count (t : Int)) i := by
  intro row
  induction row with
  | nil => intro bef _; funext t; simp
  | cons x row ih =>
    intro bef h
    rw [List.foldl_cons, ih _ (fun y hy => h y (by simp [hy]))]
    funext t
    unfold entB
    rcases h x (by simp) with rfl | hx
    · rw [if_pos rfl, List.count_cons_of_ne (by omega)]
    · rw [if_neg (by omega)]
      by_cases ht : t = x.toNat
      · subst ht
        have e : ((x.toNat : Nat) : Int) = x := Int.toNat_of_nonneg hx
        simp only [if_true, e, List.count_cons_self, List.append_assoc]
        rw [show [i] = List.replicate 1 i from rfl, List.replicate_append_replicate, Nat.add_comm]
      · rw [if_neg ht, List.count_cons_of_ne (by omega)]

theorem foldO (i : Nat) : ∀ (row : List Int) (opn : Nat → Int), row.foldl (entO i) opn = upd opn i (opn i + (row.countP (fun x => decide (x ≠ -1)) : Nat)) := by
  intro row
  induction row with
  | nil => intro opn; funext t; simp [upd]; intro h; rw [h]
  | cons x row ih =>
    intro opn
    rw [List.foldl_cons, ih]
    unfold entO
    by_cases hx : x = -1
    · subst hx
      rw [if_pos rfl, List.countP_cons_of_neg (by simp)]
    · rw [if_neg hx, List.countP_cons_of_pos (by simpa using hx)]
      funext t
      simp only [upd]
      split
      · simp; omega
      · rfl

theorem befI_succ {rw : Nat → List Int} {i : Nat} (h : ∀ x ∈ rw i, x = -1 ∨ 0 ≤ x) : (rw i).foldl (entB i) (befI rw i) = befI rw (i + 1) := by
  rw [foldB i _ _ h]
  funext t
  simp [befI, List.range_succ]

theorem opnI_succ {rw : Nat → List Int} {i : Nat} : (rw i).foldl (entO i) (opnI rw i) = opnI rw (i + 1) := by
  rw [foldO]
  funext t
  simp only [upd, opnI, cntR]
  by_cases h : t = i
  · subst h
    rw [if_pos rfl, if_neg (Nat.lt_irrefl _), if_pos (Nat.lt_succ_self _)]
    omega
  · rw [if_neg h]
    by_cases h2 : t < i
    · rw [if_pos h2, if_pos (by omega)]
    · rw [if_neg h2, if_neg (by omega)]

theorem befI_len {rw : Nat → List Int} {D : Nat} (h : ∀ i, i < D → (rw i).length ≤ 5) (t : Nat) : ∀ i, i ≤ D → (befI rw i t).length ≤ 5 * i := by
  intro i
  induction i with
  | zero => intro _; simp [befI]
  | succ i ih =>
    intro hi
    have h1 := ih (by omega)
    have h2 := h i (by omega)
    have h3 := List.count_le_length (a := (t : Int)) (l := rw i)
    have : befI rw (i + 1) t = befI rw i t ++ List.replicate ((rw i).count (t : Int)) i := by simp [befI, List.range_succ]
    rw [this, List.length_append, List.length_replicate]
    omega

theorem befI_count (rw : Nat → List Int) (t c : Nat) : ∀ i, (befI rw i t).count c = if c < i then (rw c).count (t : Int) else 0 := by
  intro i
  induction i with
  | zero => simp [befI]
  | succ i ih =>
    have : befI rw (i + 1) t = befI rw i t ++ List.replicate ((rw i).count (t : Int)) i := by simp [befI, List.range_succ]
    rw [this, List.count_append, ih, List.count_replicate]
    by_cases h : c = i
    · subst h; simp
    · have h' : ¬ i = c := fun e => h e.symm
      by_cases h2 : c < i
      · simp [h2, h', show c < i + 1 by omega]
      · simp [h2, h', show ¬ c < i + 1 by omega]

theorem befI_lt {rw : Nat → List Int} {i t c : Nat} (h : c ∈ befI rw i t) : c < i := by
  rw [← List.count_pos_iff, befI_count] at h
  split at h
  · assumption
  · omega

/-! ### All states -/

theorem codes_loop {h0 h16 g0 : H} {m D b1 b2 b3 lo : Nat} {v0 av v15 v16 v18 : Value} {vs0 rvs : List Value} {rw : Nat → List Int} (hm : h0.nx = m)
    (a : MS h16 m D b1 b2 b3 lo v0 av v15 v16 v18 (fun _ => False) vs0 g0 (befI rw 0) (opnI rw 0) (lifeI rw 0)) (hD : D < 20009) (hav : SlR h16 22 1 av (cellsV rvs)) (havb : ∃ b, blkOf av = some b ∧ b < b1 ∧ b ≠ m)
    (hrl : rvs.length = D) (hr : ∀ i, i < D → ∃ w, rvs[i]? = some w ∧ SlR h16 3 1 w (cellsI (rw i)) ∧ ∃ b, blkOf w = some b ∧ b < b1 ∧ b ≠ m)
    (hre : ∀ i, i < D → ∀ x ∈ rw i, x = -1 ∨ (0 ≤ x ∧ x < D)) (hlen : ∀ i, i < D → (rw i).length ≤ 5) (hh : h16.nx ≤ lo) :
    ∃ g' vs qv, lpGo (f54_l3 rn 200010 h0 v15 v16 av D) 200010 [.slice none 0 0, iv 0] g0 = some (.exit 4, [qv, iv D], g') ∧
      MS h16 m D b1 b2 b3 lo v0 av v15 v16 v18 (fun b => blkOf qv = some b) vs g' (befI rw D) (opnI rw D) (lifeI rw D) ∧ QqR lo g' 3 1 qv (cellsI (nI (quI rw D))) := by
  obtain ⟨o1, o2, o3, o4⟩ := a.ord
  obtain ⟨ws', g', hlp, vs, qv, hMS, hQ, rfl⟩ := lp_for (σ := Unit) (F := f54_l3 rn 200010 h0 v15 v16 av D) (k := 200010) (l := List.range D) (fun _ _ _ => ())
    (fun i _ ws g => ∃ vs qv, MS h16 m D b1 b2 b3 lo v0 av v15 v16 v18 (fun b => blkOf qv = some b) vs g (befI rw i) (opnI rw i) (lifeI rw i) ∧ QqR lo g 3 1 qv (cellsI (nI (quI rw i))) ∧ ws = [qv, iv i]) 4 (ws := [.slice none 0 0, iv 0]) (h := g0) (s0 := ())
    ⟨vs0, .slice none 0 0, a.keep (Nat.le_refl _) (fun _ _ _ => rfl) (fun _ _ _ h => by cases h), .nil, rfl⟩ (by rw [List.length_range]; omega)
    (by
      rintro _ ws g ⟨vs, qv, _, _, rfl⟩
      simp [f54_l3])
    (by
      rintro i x _ ws g hx ⟨vs, qv, hMS, hQ, rfl⟩
      have hi := (List.getElem?_eq_some_iff.1 hx).1
      rw [List.length_range] at hi
      obtain ⟨w, hw, hws, hwb⟩ := hr i hi
      have hnx := hMS.nx
      have hsg : SlR g 22 1 av (cellsV rvs) := hav.keepB (by omega) fun b hb' => by
        obtain ⟨b', e1, e2, e3⟩ := havb
        rw [e1] at hb'
        cases hb'
        exact hMS.fr b e2 e3
      have e1 : ∀ (K : Value → Option (Ex × List Value × H)), (six av (i : Int) 1 fun b o => (g.cell b o).bind K) = K w := fun K => hsg.c0 (by omega) (x := [w]) (by simp [hw]) rfl K
      have e2 : ∀ (K : Int → Option (Ex × List Value × H)), len w K = K ((rw i).length : Int) := fun K => by rw [hws.len]; simp
      have hadd : add .i64 (i : Int) 1 = (i : Int) + 1 := add64 (by omega) (by omega)
      obtain ⟨g1, vs1, e3, hM1, hn1, hk1⟩ := ent_loop (qv := qv) hMS hi hws hwb (hre i hi) (hlen i hi) (N := 5 * i) (fun t => befI_len hlen t i (by omega)) (by omega) (by simp [opnI]) (fun q hq => (hQ.blkOf hq).2) (fun q hq => (hQ.blkOf hq).1) (by omega)
      rw [befI_succ (fun y hy => (hre i hi y hy).imp id And.left), opnI_succ] at hM1
      have e4 := fun (K : Value → Option (Ex × List Value × H)) => hM1.opGet hi K
      have hoi : opnI rw (i + 1) i = (cntR rw i : Nat) := by simp [opnI]
      rw [hoi] at e4
      have hQ1 : QqR lo g1 3 1 qv (cellsI (nI (quI rw i))) := hQ.keep hn1 hk1
      by_cases hz : cntR rw i = 0
      · have e5 : ∀ (K : Value → Option (Ex × List Value × H)), (g1.cell m 2).bind K = K v18 := fun K => by rw [cell_of hM1.mb]; rfl
        have e6 := fun (K : H → Option (Ex × List Value × H)) => hM1.lfPut hi 0 K
        have hM2 := hM1.setLf i 0
        have hQ2 : QqR lo (g1.set b3 (.row ((((List.range D).map (lifeI rw i)).set i 0).map iv) 3 true)) 3 1 qv (cellsI (nI (quI rw i))) := hQ1.keep (Nat.le_refl _) fun b hb => blk_set_ne _ _ _ (by have := (hQ1.blkOf hb).1; omega)
        have hlf : upd (lifeI rw i) i 0 = lifeI rw (i + 1) := by
          funext c
          simp only [upd, lifeI]
          by_cases h : c = i
          · subst h; simp [hz]
          · by_cases h2 : c < i
            · simp [h, h2, show c < i + 1 by omega]
            · simp [h, h2, show ¬ c < i + 1 by omega]
        rw [hlf] at hM2
        generalize g1.set b3 (.row ((((List.range D).map (lifeI rw i)).set i 0).map iv) 3 true) = g2 at *
        have hql := List.length_filter_le (fun c => decide (cntR rw c = 0)) (List.range i)
        rw [List.length_range] at hql
        change (quI rw i).length ≤ i at hql
        obtain ⟨qv', g3, e9, a9, n9, k9, b9, hb9, hb9'⟩ := hQ2.push app22 app22 (bls22 (i : Int)) rfl rfl (by simp only [List.length_map]; omega) hM2.nx
        have hM3 := hM2.keep (bad' := fun b => blkOf qv' = some b) n9 (fun b h1 h2 => k9 b h1 (fun e => h2 ⟨(hQ2.blkOf e).1, e⟩)) (fun q h1 h2 h3 => by rw [hb9] at h3; cases h3; omega)
        refine ⟨[qv', iv ((i : Int) + 1)], g3, ?_, vs1, qv', hM3, ?_, rfl⟩
        · have ee : ∀ (K : Value → H → Option (Ex × List Value × H)), (bls Try.prog g2 22 1 [(0, iv (i : Int))] fun y h2 => app Try.prog h2 22 22 qv y K) = K qv' g3 := fun K => e9 K
          simp [f54_l3, hi, e1, e2, lp_eq e3, e4, hz, hm, e5, e6, ee, hadd]
        · have : cellsI (nI (quI rw (i + 1))) = cellsI (nI (quI rw i)) ++ [[iv (i : Int)]] := by simp [quI, List.range_succ, hz]
          rw [this]
          exact a9
      · have hlf : lifeI rw (i + 1) = lifeI rw i := by
          funext c
          simp only [lifeI]
          by_cases h : c = i
          · subst h; simp [hz]
          · by_cases h2 : c < i
            · simp [h2, show c < i + 1 by omega]
            · simp [h2, show ¬ c < i + 1 by omega]
        rw [← hlf] at hM1
        refine ⟨[qv, iv ((i : Int) + 1)], g1, ?_, vs1, qv, hM1, ?_, rfl⟩
        · simp [f54_l3, hi, e1, e2, lp_eq e3, e4, hz, hadd]
        · have : quI rw (i + 1) = quI rw i := by simp [quI, List.range_succ, hz]
          rw [this]
          exact hQ1)
  rw [List.length_range] at hMS hQ
  refine ⟨g', vs, qv, ?_, hMS, hQ⟩
  rw [List.length_range] at hlp
  exact hlp

end Go.AM
