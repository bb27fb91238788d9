/- The document's lives: the states that come, of all states. -/
import Derived.Test.YtnhmgokjijlhbaaRp
namespace Go.AM
open Go.Proofs Go.Lives

variable {R : Type}

attribute [local simp] nx_eq nx_new nx_set blk_new blk_set asI_int asK_int asB_bool asP_ptr al_eq bx_eq len_slice onE_exit onE_ret onR_ret Value.cells d3 d22 d31 d60 w60 w3 w22 cell_new cell_set rd_new rd_set off eq lt le ifB gv out eqF1 eqF2 eqF3 eqF4 eqF5 eqF6 eqF7 eqF8 ext20 ext21

/-- The states that come, so far, and the state. -/
structure TS (D b1 b2 lo : Nat) (v2 v3 : Value) (g0 : H) (vs : List Value) (g : H) (to : Nat → List Nat) (st : List Nat) : Prop where
  ord : b1 < b2 ∧ b2 < lo
  nx : lo ≤ g.nx
  fr : ∀ b, b < b1 → g.blk b = g0.blk b
  bf : BefR lo (fun _ => False) g b1 v2 vs ((List.range D).map fun t => nI (to t))
  st : IA g b2 v3 (nI st)

section
variable {D b1 b2 lo : Nat} {v2 v3 : Value} {g0 : H} {vs : List Value} {g : H} {to : Nat → List Nat} {st : List Nat}

theorem TS.vlen (a : TS D b1 b2 lo v2 v3 g0 vs g to st) : vs.length = D := by rw [a.bf.len]; simp

theorem TS.ext (a : TS D b1 b2 lo v2 v3 g0 vs g to st) {g' : H} (x : Ext g g') : TS D b1 b2 lo v2 v3 g0 vs g' to st := by
  obtain ⟨o1, o2⟩ := a.ord
  have := a.nx
  have := x.nx
  exact ⟨a.ord, by omega, fun b hb => (x.blk b (by omega)).trans (a.fr b hb), a.bf.keep x.nx (x.blk _ (by omega)) (fun q _ h _ => x.blk q h) (fun _ _ _ h => h), a.st.ext x⟩

theorem TS.get (a : TS D b1 b2 lo v2 v3 g0 vs g to st) {t : Nat} (ht : t < D) : ∃ w, vs[t]? = some w ∧ AqR lo g 3 1 w (cellsI (nI (to t))) ∧
    ∀ {R : Type} (K : Nat → Nat → Option R), (six v2 (t : Int) 1 K) = K b1 t := by
  have hl := a.vlen
  obtain ⟨c, hv, hc1, hc2⟩ := a.bf.val
  have hw : vs[t]? = some vs[t] := List.getElem?_eq_getElem (by omega)
  refine ⟨vs[t], hw, a.bf.el t _ _ hw (mapr_get _ ht), fun K => ?_⟩
  rw [hv, six_in (by omega) (by omega)]
  simp
end

def toJ (ln : List Nat) (s i : Nat) (t : Nat) : List Nat := if t < s then tosP ln t else if t = s then ((((List.range i).map (aftP ln s)).filter fun x => decide (x ≠ -1)).map Int.toNat) else []

theorem toJ_len (ln : List Nat) (s i : Nat) : (toJ ln s i s).length ≤ i := by
  simp only [toJ, if_neg (Nat.lt_irrefl s), if_true, List.length_map]
  refine Nat.le_trans (List.length_filter_le _ _) ?_
  simp

theorem toJ_end (ln : List Nat) (s : Nat) : toJ ln s ln.length = toJ ln (s + 1) 0 := by
  funext t
  simp only [toJ]
  by_cases h : t < s
  · rw [if_pos h, if_pos (by omega)]
  · by_cases h2 : t = s
    · subst h2
      rw [if_neg h, if_pos rfl, if_pos (Nat.lt_succ_self _)]
      rfl
    · rw [if_neg h, if_neg h2, if_neg (by omega)]
      by_cases h3 : t = s + 1
      · rw [if_pos h3]; rfl
      · rw [if_neg h3]

theorem tasks_loop {v0 v2 v3 : Value} {ln : List Nat} {D b1 b2 lo s : Nat} {g0 h0 : H} {vs0 : List Value} (hl : SlR g0 3 1 v0 (cellsI (nI ln))) (ht : TaskI (nI ln)) (hlb : ∀ b, blkOf v0 = some b → b < b1) (hn0 : g0.nx ≤ lo) (hs : s < D)
    (a : TS D b1 b2 lo v2 v3 g0 vs0 h0 (toJ ln s 0) (stateP ln s)) :
    ∃ g' ws' vs, lpGo (f62_l4 rn 200010 v0 v2 v3 [iv s] ln.length) 200010 [iv 0] h0 = some (.exit 6, ws', g') ∧ TS D b1 b2 lo v2 v3 g0 vs g' (toJ ln (s + 1) 0) (stateP ln s) := by
  have h5 : ln.length ≤ 5 := by have := ht.len.2; simpa using this
  have hok : ∀ x ∈ ln, 1 ≤ x := fun x hx => by
    have := ht.rng (x : Int) (List.mem_map.2 ⟨x, hx, rfl⟩)
    omega
  have hst := state_ok hok s
  obtain ⟨ws', g', hlp, vs, hT, -⟩ := lp_for (σ := Unit) (F := f62_l4 rn 200010 v0 v2 v3 [iv s] ln.length) (k := 200010) (l := List.range ln.length) (fun _ _ _ => ())
    (fun i _ ws g => ∃ vs, TS D b1 b2 lo v2 v3 g0 vs g (toJ ln s i) (stateP ln s) ∧ ws = [iv i]) 6 (ws := [iv 0]) (h := h0) (s0 := ())
    ⟨vs0, a, rfl⟩ (by rw [List.length_range]; omega)
    (by
      rintro _ ws g ⟨vs, _, rfl⟩
      simp [f62_l4])
    (by
      rintro i x _ ws g hx ⟨vs, hT, rfl⟩
      have hi := (List.getElem?_eq_some_iff.1 hx).1
      rw [List.length_range] at hi
      obtain ⟨o1, o2⟩ := hT.ord
      have hadd : add .i64 (i : Int) 1 = (i : Int) + 1 := add64 (by omega) (by omega)
      have hnx := hT.nx
      have hlg : SlR g 3 1 v0 (cellsI (nI ln)) := hl.keepB (by omega) fun b hb => hT.fr b (hlb b hb)
      obtain ⟨v4, q, h10, e1, x10, hN⟩ := s64 (task := (i : Int)) hlg hT.st.slR ht hst
      have c1 := fun (K : Value → H → Option (Ex × List Value × H)) => calls_eq (K := K) (xs := [_, _, _]) e1
      have hT10 := hT.ext x10
      have haft : aftP ln s i = match nextP (nI ln) (nI (stateP ln s)) (i : Int) with | none => -1 | some o => codeP (nI ln) o := rfl
      have hstep : ∀ z : Int, aftP ln s i = z → toJ ln s (i + 1) = if z = -1 then toJ ln s i else fun t => if t = s then toJ ln s i s ++ [z.toNat] else toJ ln s i t := by
        intro z hz
        by_cases hz1 : z = -1
        · rw [if_pos hz1]
          funext t
          simp only [toJ, List.range_succ, List.map_append, List.filter_append, List.map_cons, List.map_nil, hz, hz1]
          simp
        · rw [if_neg hz1]
          funext t
          simp only [toJ, List.range_succ, List.map_append, List.filter_append, List.map_cons, List.map_nil, hz]
          by_cases h : t = s
          · subst h; simp [hz1]
          · simp [h]
      cases ho : nextP (nI ln) (nI (stateP ln s)) (i : Int) with
      | none =>
        rw [ho] at hN haft
        obtain ⟨rfl, rfl⟩ := hN
        refine ⟨[iv ((i : Int) + 1)], h10, ?_, vs, ?_, rfl⟩
        · simp [f62_l4, hi, c1, hadd]
        · rw [hstep _ haft, if_pos rfl]
          exact hT10
      | some o =>
        rw [ho] at hN haft
        obtain ⟨hso, rfl, _⟩ := hN
        simp only at haft
        have hz := aft_ok hok s i
        rw [haft] at hz
        have hlo2 := hlg.ext x10
        have hno := next_ok (fun x hx => (ht.rng x hx).1) hst ho
        have e63 := s63 hlo2 hso ht hno
        have c2 := fun (K : Value → H → Option (Ex × List Value × H)) => calls_eq (K := K) (xs := [_, _]) e63
        have hz0 : 0 ≤ codeP (nI ln) o := by
          rcases hz with hz | hz
          · exfalso
            -- the number of a state is not below 0
            obtain ⟨h1, h2⟩ := stOk_iff.1 hno
            have key : ∀ (ps : List (Int × Int)) (a : Int), (∀ p ∈ ps, 1 ≤ p.2 ∧ p.2 ≤ p.1) → 0 ≤ a → 0 ≤ ps.foldl (fun n p => n * p.1 + p.2 - 1) a := by
              intro ps
              induction ps with
              | nil => intro a _ h; exact h
              | cons p ps ih =>
                intro a h ha
                have hp := h p (by simp)
                have := Int.mul_nonneg ha (show 0 ≤ p.1 by omega)
                exact ih _ (fun r hr => h r (by simp [hr])) (show 0 ≤ a * p.1 + p.2 - 1 by omega)
            have := key _ 0 h2 (by omega)
            unfold codeP at hz
            omega
          · exact hz.1
        obtain ⟨z, hzz⟩ := Int.eq_ofNat_of_zero_le hz0
        rw [hzz] at c2 haft
        obtain ⟨w, hw, haq, e2⟩ := hT10.get hs
        have hnx10 := hT10.nx
        have hrow10 := hT10.bf.row
        have hvl := hT10.vlen
        have e3 : ∀ (K : Value → Option (Ex × List Value × H)), (h10.cell b1 s).bind K = K w := fun K => by rw [cell_of hrow10, hw]; rfl
        obtain ⟨w', h9, e9, a9, n9, k9, b9, hb9, hb9'⟩ := haq.push app22 app22 (bls22 (z : Int)) rfl rfl (by have := toJ_len ln s i; simp; omega) hnx10
        have kb : ∀ (K : Value → H → Option (Ex × List Value × H)), bls Try.prog h10 22 1 [(0, iv (z : Int))] K = K (.slice (some ⟨h10.nx, 0, none⟩) 1 1) (h10.new (.row [iv (z : Int)] 3 true)) := fun K => bls_some (bls22 (z : Int) h10)
        have ka : ∀ (K : Value → H → Option (Ex × List Value × H)), app Try.prog (h10.new (.row [iv (z : Int)] 3 true)) 22 22 w (.slice (some ⟨h10.nx, 0, none⟩) 1 1) K = K w' h9 := fun K => by
          have h1 := e9 K
          rw [show bls Try.prog h10 22 1 [(0, Value.int .i64 (z : Int))] _ = _ from kb _] at h1
          exact h1
        have kc : ∀ (x : Option (Ex × List Value × H)), ck (freq b1 h10.nx (same h10 h10)) x = x := fun x => by simp [ck, freq, same]; omega
        have kc2 : ∀ (x : Option (Ex × List Value × H)), ck (freq b1 h10.nx (same (h10.new (.row [iv (z : Int)] 3 true)) h10)) x = x := fun x => by simp [ck, freq, same, wr_new]; omega
        have hwb : ∀ q, blkOf w = some q → lo ≤ q ∧ q < h10.nx := fun q hq => ⟨(haq.blkOf hq).1, (haq.blkOf hq).2.1⟩
        have hk1 : ∀ b, b < lo → h9.blk b = h10.blk b := fun b hb => k9 b (by omega) (fun e => by have := (hwb _ e).1; omega)
        have hrow9 := (hk1 b1 (by omega)).trans hrow10
        have hcl := a9.cells
        have hbl1 : cellsI (nI (toJ ln s i s)) ++ [[iv (z : Int)]] = cellsI (nI (toJ ln s i s ++ [z])) := by simp
        rw [hbl1] at a9
        have hgrow := hT10.bf.grow hw (mapr_get _ hs) a9 n9 k9 hb9 hb9' (fun _ _ h => h)
        have hwr : wrc 1 h9 b1 s w' = some (h9.set b1 (.row (vs.set s w') 22 true)) := wrc_one hrow9 hcl.1 hcl.2 (by omega)
        refine ⟨[iv ((i : Int) + 1)], h9.set b1 (.row (vs.set s w') 22 true), ?_, vs.set s w', ⟨hT10.ord, ?_, fun b hb => ?_, ?_, ?_⟩, rfl⟩
        · simp [f62_l4, hi, c1, c2, e2, e3, kb, kc, kc2, ka, hwr, hadd]
        · show lo ≤ h9.nx; omega
        · rw [blk_set_ne _ _ _ (by omega), hk1 b (by omega)]; exact hT10.fr b hb
        · have : (List.range D).map (fun t => nI (toJ ln s (i + 1) t)) = ((List.range D).map fun t => nI (toJ ln s i t)).set s (nI (toJ ln s i s ++ [z])) := by
            rw [mapr_set, hstep _ haft, if_neg (by omega)]
            apply List.map_congr_left
            intro j _
            by_cases h : j = s
            · simp [h]
            · simp [h]
          rw [this]
          exact hgrow
        · exact hT10.st.keep n9 (by rw [blk_set_ne _ _ _ (by omega)]; exact hk1 b2 (by omega)))
  rw [List.length_range, toJ_end] at hT
  exact ⟨g', ws', vs, hlp, hT⟩

theorem states_loop {v0 v2 v3 : Value} {ln : List Nat} {b1 b2 lo : Nat} {g0 h0 : H} {vs0 : List Value} (hl : SlR g0 3 1 v0 (cellsI (nI ln))) (ht : TaskI (nI ln)) (hlb : ∀ b, blkOf v0 = some b → b < b1) (hn0 : g0.nx ≤ lo)
    (a : TS (prodN ln) b1 b2 lo v2 v3 g0 vs0 h0 (toJ ln 0 0) (stateP ln 0)) (hD : prodN ln < 20009) (w1 : Value) :
    ∃ g' ws' vs, lpGo (f62_l3 rn 200010 v0 [iv (prodN ln), w1] v2 v3) 200010 [iv 0] h0 = some (.exit 4, ws', g') ∧ TS (prodN ln) b1 b2 lo v2 v3 g0 vs g' (toJ ln (prodN ln) 0) (stateP ln (prodN ln)) := by
  have h5 : ln.length ≤ 5 := by have := ht.len.2; simpa using this
  have hok : ∀ x ∈ ln, 1 ≤ x ∧ x ≤ 40 := fun x hx => by
    have := ht.rng (x : Int) (List.mem_map.2 ⟨x, hx, rfl⟩)
    omega
  obtain ⟨ws', g', hlp, vs, hT, -⟩ := lp_for (σ := Unit) (F := f62_l3 rn 200010 v0 [iv (prodN ln), w1] v2 v3) (k := 200010) (l := List.range (prodN ln)) (fun _ _ _ => ())
    (fun s _ ws g => ∃ vs, TS (prodN ln) b1 b2 lo v2 v3 g0 vs g (toJ ln s 0) (stateP ln s) ∧ ws = [iv s]) 4 (ws := [iv 0]) (h := h0) (s0 := ())
    ⟨vs0, a, rfl⟩ (by rw [List.length_range]; omega)
    (by
      rintro _ ws g ⟨vs, _, rfl⟩
      simp [f62_l3])
    (by
      rintro s x _ ws g hx ⟨vs, hT, rfl⟩
      have hi := (List.getElem?_eq_some_iff.1 hx).1
      rw [List.length_range] at hi
      obtain ⟨o1, o2⟩ := hT.ord
      have hadd : add .i64 (s : Int) 1 = (s : Int) + 1 := add64 (by omega) (by omega)
      have hnx := hT.nx
      obtain ⟨g1, ws1', vs1, e1, hT1⟩ := tasks_loop hl ht hlb hn0 hi hT
      have hnx1 := hT1.nx
      have hl1 : SlR g1 3 1 v0 (cellsI (nI ln)) := hl.keepB (by omega) fun b hb => hT1.fr b (hlb b hb)
      have hdl : (stateP ln s).length = ln.length := digR_len ln s
      obtain ⟨ws2, g2, e2, ia2, n2, k2⟩ := odo_loop hl1 (fun b hb => by have := hlb b hb; omega) hT1.st hdl h5 (fun x hx => (hok x hx).2) (fun y hy => by
        obtain ⟨j, hj⟩ := List.getElem?_of_mem hy
        have hjl := (List.getElem?_eq_some_iff.1 hj).1
        have hz : (ln.zip (stateP ln s))[j]? = some (ln[j], y) := by
          rw [List.getElem?_zip_eq_some]
          exact ⟨List.getElem?_eq_getElem (by omega), hj⟩
        have h1 := digR_ok ln s (fun x hx => (hok x hx).1) _ (List.mem_of_getElem? hz)
        have h2 := hok ln[j] (List.getElem_mem _)
        simp only at h1
        omega)
      rw [state_succ (fun x hx => (hok x hx).1)] at ia2
      have hn : ∀ (K : Int → Option (Ex × List Value × H)), len v0 K = K (ln.length : Int) := fun K => by rw [hl.len]; simp
      have hsub : sub .i64 (ln.length : Int) 1 = (ln.length : Int) - 1 := sub64 (by omega) (by omega)
      refine ⟨[iv ((s : Int) + 1)], g2, ?_, vs1, ⟨hT1.ord, by omega, fun b hb => (k2 b (by omega)).trans (hT1.fr b hb), hT1.bf.keep (by omega) (k2 _ (by omega)) (fun q h1 _ _ => k2 q (by omega)) (fun _ _ _ h => h), ia2⟩, rfl⟩
      simp [f62_l3, hi, hn, lp_eq e1, hsub, lp_eq e2, hadd])
  rw [List.length_range] at hT
  exact ⟨g', ws', vs, hlp, hT⟩

end Go.AM
