/- The machine of tasks: its rows, and the lives of its states. -/
import Derived.Test.YtnhmgokjijlhbaaRl
namespace Go.AM
open Go.Proofs Go.Lives

variable {R : Type}

attribute [local simp] nx_eq nx_new nx_set blk_new blk_set asI_int asK_int asB_bool asP_ptr al_eq bx_eq len_slice onE_exit onE_ret onR_ret Value.cells d3 d22 d31 d60 w60 w3 w22 cell_new cell_set rd_new rd_set off eq lt le ifB gv out eqF1 eqF2 eqF3 eqF4 eqF5 eqF6 eqF7 eqF8 ext20 ext21

theorem bld76 (a : Option Addr) (n c : Nat) (K : Value → Option R) : bld Try.prog 76 [(0, .slice a n c)] K = K (.agg #[.slice a n c, .slice none 0 0, .slice none 0 0]) := bld_some (by kernel_rfl)

/-- The states that come after one, by number. -/
def tosP (ln : List Nat) (c : Nat) : List Nat := ((rowP ln c).filter fun x => decide (x ≠ -1)).map Int.toNat

theorem aft_ok {ln : List Nat} (hok : ∀ x ∈ ln, 1 ≤ x) (c i : Nat) : aftP ln c i = -1 ∨ (0 ≤ aftP ln c i ∧ aftP ln c i < (prodN ln : Nat)) := by
  unfold aftP
  cases ho : nextP (nI ln) (nI (stateP ln c)) i with
  | none => exact .inl rfl
  | some o =>
    right
    have hst := next_ok (fun x hx => by
      obtain ⟨y, hy, rfl⟩ := List.mem_map.1 hx
      have := hok y hy
      omega) (state_ok hok c) ho
    obtain ⟨h1, h2⟩ := stOk_iff.1 hst
    obtain ⟨on, rfl⟩ : ∃ on : List Nat, o = nI on := by
      refine ⟨o.map Int.toNat, ?_⟩
      show o = List.map _ (List.map Int.toNat o)
      rw [List.map_map]
      apply List.ext_getElem
      · simp
      · intro j g1 g2
        have hj : j < (nI ln).length := by rw [← h1]; exact g1
        have hz : ((nI ln).zip o)[j]? = some ((nI ln)[j], o[j]) := by
          rw [List.getElem?_zip_eq_some]
          exact ⟨List.getElem?_eq_getElem hj, List.getElem?_eq_getElem g1⟩
        have := h2 _ (List.mem_of_getElem? hz)
        simp only at this
        simp
        omega
    have hp : ∀ p ∈ ln.zip on, 1 ≤ p.2 ∧ p.2 ≤ p.1 := fun p hp => by
      have := h2 ((p.1 : Int), (p.2 : Int)) (by
        rw [List.zip_map]
        exact List.mem_map.2 ⟨p, hp, rfl⟩)
      simp only at this
      omega
    have hl : on.length = ln.length := by simpa using h1
    have hy : ∀ y ∈ on, 1 ≤ y := fun y hy => by
      obtain ⟨j, hj⟩ := List.getElem?_of_mem hy
      have hjl := (List.getElem?_eq_some_iff.1 hj).1
      have hz : (ln.zip on)[j]? = some (ln[j], y) := by
        rw [List.getElem?_zip_eq_some]
        exact ⟨List.getElem?_eq_getElem (by omega), hj⟩
      exact (hp _ (List.mem_of_getElem? hz)).1
    simp only
    rw [code_nI ln on hy]
    have := code_lt ln on 0 hl hp
    omega

theorem row_ok {ln : List Nat} (hok : ∀ x ∈ ln, 1 ≤ x) (c : Nat) : ∀ x ∈ rowP ln c, x = -1 ∨ (0 ≤ x ∧ x < (prodN ln : Nat)) := by
  intro x hx
  obtain ⟨i, _, rfl⟩ := List.mem_map.1 hx
  exact aft_ok hok c i

theorem tos_count {l : List Int} (h : ∀ x ∈ l, x = -1 ∨ 0 ≤ x) (q : Nat) : ((l.filter fun x => decide (x ≠ -1)).map Int.toNat).count q = l.count (q : Int) := by
  induction l with
  | nil => rfl
  | cons x l ih =>
    have ih := ih fun y hy => h y (by simp [hy])
    rcases h x (by simp) with rfl | hx
    · rw [List.filter_cons_of_neg (by simp), ih, List.count_cons_of_ne (by omega)]
    · rw [List.filter_cons_of_pos (by simp; omega), List.map_cons, List.count_cons, List.count_cons, ih]
      congr 1
      by_cases hq : x.toNat = q
      · subst hq; simp [Int.toNat_of_nonneg hx]
      · have : ¬ x = (q : Int) := by omega
        simp [hq, this]

theorem prodP_nI (ln : List Nat) : prodP (nI ln) = (prodN ln : Nat) := by
  induction ln with
  | nil => rfl
  | cons x l ih =>
    show prodP ((x : Int) :: nI l) = _
    rw [prod_cons, ih]; simp [prodN]

/-- What a machine is: for each state the states that come, and its life. -/
structure IsMach (h : H) (b : Nat) (ln : List Nat) (v0 : Value) : Prop where
  ex : ∃ (av v18 : Value) (bl : Nat) (vs : List Value) (life : Nat → Int), h.blk b = some (.row [v0, av, v18] 76 true) ∧ b < h.nx ∧ IA h bl v18 ((List.range (prodN ln)).map life) ∧ SlR h 22 1 av (cellsV vs) ∧
    (∀ j, j < prodN ln → ∃ w, vs[j]? = some w ∧ SlR h 3 1 w (cellsI (rowP ln j))) ∧ IsLife (prodN ln) (tosP ln) life

theorem s54 {v0 : Value} {ln : List Nat} {h0 : H} (hl : SlR h0 3 1 v0 (cellsI (nI ln))) (ht : TaskI (nI ln)) :
    ∃ h', rn 54 #[v0] h0 = some (pt h0.nx 0, h') ∧ Ext h0 h' ∧ IsMach h' h0.nx ln v0 := by
  have h5 : ln.length ≤ 5 := by have := ht.len.2; simpa using this
  have hok : ∀ x ∈ ln, 1 ≤ x := fun x hx => by
    have := ht.rng (x : Int) (List.mem_map.2 ⟨x, hx, rfl⟩)
    omega
  have hDle : prodN ln ≤ 20000 := by have := ht.cnt; rw [prodP_nI] at this; omega
  have hDpos : 1 ≤ prodN ln := by
    have := prod_pos (l := nI ln) (fun x hx => (ht.rng x hx).1)
    rw [prodP_nI] at this
    omega
  obtain ⟨va, vn, vc, hv0⟩ := hl.isSl
  -- the box
  have x1 : Ext h0 (h0.new (.row [v0, .slice none 0 0, .slice none 0 0] 76 true)) := .new _ _
  have c57 := fun (K : Value → H → Option (Value × H)) => calls_eq (K := K) (xs := [_]) (s57 (hl.ext x1) ht.len.2 ht.rng)
  rw [prodP_nI] at c57
  have hb1 : (h0.new (.row [v0, .slice none 0 0, .slice none 0 0] 76 true)).blk h0.nx = some (.row [v0, .slice none 0 0, .slice none 0 0] 76 true) := blk_new_self _ _
  obtain ⟨h16, hlp1, hR⟩ := rows_loop (D := prodN ln) (h2 := h0.new (.row [v0, .slice none 0 0, .slice none 0 0] 76 true)) (by omega) hl ht (by simp) x1.blk hb1
  obtain ⟨hnx, hlow, -, av, vs, hmb, hap, hss⟩ := hR
  have hvsl : vs.length = prodN ln := by rw [hss.len]; simp
  generalize hh1 : h0.new (.row [v0, .slice none 0 0, .slice none 0 0] 76 true) = h1 at *
  have havb : ∃ b, blkOf av = some b ∧ b < h16.nx ∧ h0.nx < b := by
    generalize hL : cellsV vs = L at hap
    cases hap with
    | nil =>
      have : vs.length = 0 := by simpa using congrArg List.length hL
      omega
    | at_ hlo hb => exact ⟨_, rfl, hb, hlo⟩
  -- what is made ahead of the loops
  let D := prodN ln
  let h17 := h16.new (.row (List.replicate D (.slice none 0 0)) 22 true)
  let h18 := h17.new (.row ((List.replicate D (0 : Int)).map iv) 3 true)
  let h19 := h18.new (.row [iv (-1)] 3 true)
  have k15 : ∀ (K : Value → H → Option (Value × H)), mks Try.prog h16 60 D D K = K (.slice (some ⟨h16.nx, 0, none⟩) D D) h17 := fun K => mks_nils (by show prodN ln < _; omega) K
  have k16 : ∀ (K : Value → H → Option (Value × H)), mks Try.prog h17 22 D D K = K (.slice (some ⟨h17.nx, 0, none⟩) D D) h18 := fun K => mks_ints app22 zero3 (by show prodN ln < _; omega) K
  have k17 : ∀ (K : Value → H → Option (Value × H)), bls Try.prog h18 22 1 [(0, iv (-1))] K = K (.slice (some ⟨h18.nx, 0, none⟩) 1 1) h19 := fun K => bls_some (bls22 (-1) h18)
  have hs17 : SlR h19 3 1 (.slice (some ⟨h18.nx, 0, none⟩) 1 1) (cellsI [-1]) := by
    have := (ia_new (h := h18) (n := 1) (by omega) (l := [-1]) rfl).slR
    exact this
  obtain ⟨v18, h20, b3, e90, x20, hb3, hb3', ia18⟩ := s90 (n := D) hs17 hDpos (by show prodN ln < _; omega)
  have c90 := fun (K : Value → H → Option (Value × H)) => calls_eq (K := K) (xs := [_, _]) e90
  have hn17 : h17.nx = h16.nx + 1 := rfl
  have hn18 : h18.nx = h16.nx + 2 := rfl
  have hn19 : h19.nx = h16.nx + 3 := rfl
  have hk19 : ∀ b, b < h16.nx → h19.blk b = h16.blk b := fun b hb => by
    show ((h18.new _).blk b) = _
    rw [blk_new_ne _ _ (by omega)]
    show ((h17.new _).blk b) = _
    rw [blk_new_ne _ _ (by omega)]
    exact blk_new_ne _ _ (by omega)
  have hb15 : h19.blk h16.nx = some (.row (List.replicate D (.slice none 0 0)) 22 true) := by
    show ((h18.new _).blk h16.nx) = _
    rw [blk_new_ne _ _ (by omega)]
    show ((h17.new _).blk h16.nx) = _
    rw [blk_new_ne _ _ (by omega)]
    exact blk_new_self _ _
  have ia16 : IA h19 h17.nx (.slice (some ⟨h17.nx, 0, none⟩) D D) (List.replicate D 0) := by
    have := ia_new (h := h17) (n := D) (by show prodN ln < _; omega) (l := List.replicate D 0) (by simp)
    exact this.ext (Ext.new _ _)
  -- the machine's third field
  have hmb20 : h20.blk h0.nx = some (.row [v0, av, .slice none 0 0] 76 true) := (x20.blk _ (by omega)).trans ((hk19 _ (by omega)).trans hmb)
  have hcl := ia18.isSl
  have hst : wrc 1 h20 h0.nx 2 v18 = some (h20.set h0.nx (.row [v0, av, v18] 76 true)) := by
    rw [wrc_one hmb20 hcl.1 hcl.2 (by simp)]; rfl
  have k21 : ∀ b, b ≠ h0.nx → (h20.set h0.nx (.row [v0, av, v18] 76 true)).blk b = h20.blk b := fun b hb => blk_set_ne _ _ _ hb
  have m21 : (h20.set h0.nx (.row [v0, av, v18] 76 true)).blk h0.nx = some (.row [v0, av, v18] 76 true) := blk_set_self _ _ _
  have n21 : (h20.set h0.nx (.row [v0, av, v18] 76 true)).nx = h20.nx := rfl
  generalize h20.set h0.nx (.row [v0, av, v18] 76 true) = h21 at *
  have hx20 := x20.nx
  have hlt3 := ia18.lt
  have hk21 : ∀ b, b < h16.nx → b ≠ h0.nx → h21.blk b = h16.blk b := fun b hb hne => (k21 b hne).trans ((x20.blk b (by omega)).trans (hk19 b hb))
  have hMS : MS h16 h0.nx D h16.nx h17.nx b3 h20.nx v0 av (.slice (some ⟨h16.nx, 0, none⟩) D D) (.slice (some ⟨h17.nx, 0, none⟩) D D) v18 (fun _ => False) (List.replicate D (.slice none 0 0)) h21 (befI (rowP ln) 0) (opnI (rowP ln) 0) (lifeI (rowP ln) 0) := by
    have h30 : (2 : Nat) ^ 30 < U := by decide
    refine ⟨⟨by omega, by omega, by omega, hlt3⟩, by omega, fun b h1 h2 => hk21 b h1 h2, m21, ?_, ?_, ?_⟩
    · refine ⟨⟨D, by simp, by simp [capK, show D < U by show prodN ln < _; omega], by simp [capK, show D < U by show prodN ln < _; omega]⟩, by omega, by omega, (k21 _ (by omega)).trans ((x20.blk _ (by omega)).trans hb15), by simp, fun j w l hw hl => ?_, fun w hw q hq => ?_, fun i j w w' q _ hw _ hq => ?_⟩
      · rw [List.getElem?_replicate] at hw
        split at hw
        · cases hw
          rename_i hj
          rw [mapr_get _ hj] at hl
          cases hl
          exact .nil
        · cases hw
      · rw [List.eq_of_mem_replicate hw] at hq; cases hq
      · rw [List.eq_of_mem_replicate (List.mem_of_getElem? hw)] at hq; cases hq
    · have : (List.range D).map (opnI (rowP ln) 0) = List.replicate D 0 := by
        rw [List.eq_replicate_iff]; simp [opnI]
      rw [this]
      exact ia16.keep (by omega) ((k21 _ (by omega)).trans (x20.blk _ (by omega)))
    · have : (List.range D).map (lifeI (rowP ln) 0) = List.replicate D (-1) := by
        rw [List.eq_replicate_iff]; simp [lifeI]
      rw [this]
      exact ia18.keep (by omega) (k21 _ (by omega))
  have hav16 : SlR h16 22 1 av (cellsV vs) := hap.slR
  have hav21 : SlR h21 22 1 av (cellsV vs) := hav16.keepB (by omega) fun b hb => by
    obtain ⟨b', e1, e2, e3⟩ := havb
    rw [e1] at hb
    cases hb
    exact hk21 b e2 (by omega)
  have k19 : ∀ (K : Value → Option (Value × H)), (h21.cell h0.nx 1).bind K = K av := fun K => by rw [cell_of m21]; rfl
  have hlav : ∀ (K : Int → Option (Value × H)), len av K = K (D : Int) := fun K => by rw [hav16.len]; simp [hvsl, D]
  -- the loops
  have hrows : ∀ i, i < D → ∃ w, vs[i]? = some w ∧ SlR h16 3 1 w (cellsI (rowP ln i)) ∧ ∃ b, blkOf w = some b ∧ b < h16.nx ∧ b ≠ h0.nx := fun i hi => by
    have hw : vs[i]? = some vs[i] := List.getElem?_eq_getElem (by rw [hvsl]; exact hi)
    obtain ⟨q1, b, q2, q3, q4⟩ := hss.el i _ _ hw (mapr_get _ hi)
    exact ⟨_, hw, q1, b, q2, q3, fun e => q4 (.inl (by omega))⟩
  have hre := row_ok hok
  have hrl : ∀ i, i < D → (rowP ln i).length ≤ 5 := fun i _ => by simp [rowP]; exact h5
  obtain ⟨h32, vs32, qv, hlp3, hM32, hQ32⟩ := codes_loop (rvs := vs) rfl hMS (by show prodN ln < _; omega) hav16 (by obtain ⟨b, e1, e2, e3⟩ := havb; exact ⟨b, e1, e2, by omega⟩) hvsl hrows (fun i _ => hre i) hrl (by omega)
  have hneg : ∀ c, ∀ x ∈ rowP ln c, x = -1 ∨ 0 ≤ x := fun c x hx => (hre c x hx).imp id And.left
  have htl : ∀ c, (tosP ln c).length = cntR (rowP ln) c := fun c => by
    unfold tosP cntR
    rw [List.length_map, List.countP_eq_length_filter]
  have hnil : ∀ c, tosP ln c = [] ↔ cntR (rowP ln) c = 0 := fun c => by rw [← htl, List.length_eq_zero_iff]
  have hI : QI D (tosP ln) [] (quI (rowP ln) D) (opnI (rowP ln) D) (lifeI (rowP ln) D) := by
    refine QI.start ?_ (fun c => ?_) (fun c hc => ?_) (fun c hc => ?_)
    · exact List.Pairwise.filter _ List.nodup_range
    · rw [quI, List.mem_filter, List.mem_range, hnil]; simp
    · rw [htl]; simp [opnI, hc]
    · simp only [lifeI, hnil, hc, true_and]
  obtain ⟨h40, ws40, opn, life, qv', hlp5, hM40, hL⟩ := queue_loop rfl hM32 hQ32 hI (by show prodN ln < _; omega)
    (fun c hc => by
      rw [htl]
      have : cntR (rowP ln) c ≤ (rowP ln c).length := List.countP_le_length
      have := hrl c hc
      omega)
    (fun c hc t ht => by
      unfold tosP at ht
      obtain ⟨x, hx, rfl⟩ := List.mem_map.1 ht
      obtain ⟨h1, h2⟩ := List.mem_filter.1 hx
      have h2' : x ≠ -1 := by simpa using h2
      have := (hre c x h1).resolve_left h2'
      show _ < prodN ln
      omega)
    (fun q _ c hc => befI_lt hc)
    (fun q _ c hc => by
      rw [befI_count, if_pos hc]
      exact (tos_count (hneg c) q).symm)
    (fun q => by have := befI_len hrl q D (Nat.le_refl _); have : D ≤ 20000 := hDle; omega)
  refine ⟨h40, x54 (k := 200010) ?_ rfl, ⟨?_, fun b hb => ?_⟩, ⟨av, v18, b3, vs, life, hM40.mb, ?_, hM40.lf, ?_, fun j hj => ?_, hL⟩⟩
  · subst hv0
    have cc : ∀ (K : Value → H → Option (Value × H)), calls rn (h0.new (.row [.slice va vn vc, .slice none 0 0, .slice none 0 0] 76 true)) 57 [.slice va vn vc] K = K (iv (D : Int)) h1 := fun K => by rw [hh1]; exact c57 K
    simp only [f54, bld76, bx_eq, Value.cells, cc, asI_int]
    refine (lp_eq hlp1).trans ?_
    rw [onE_exit, if_pos rfl, k15, k16, k17, c90, w22]
    show ((wrc 1 h20 h0.nx 2 v18).bind _) = _
    rw [hst, Option.bind_some, d60]
    show ((h21.cell h0.nx 1).bind _) = _
    rw [k19, hlav]
    refine (lp_eq hlp3).trans ?_
    rw [onE_exit, if_pos rfl]
    refine (lp_eq hlp5).trans ?_
    rw [onE_exit, if_pos rfl]
    rfl
  · have := hM40.nx; omega
  · rw [hM40.fr b (by omega) (by omega)]
    exact hlow b hb
  · have := hM40.nx; omega
  · have := hM40.nx
    exact hav16.keepB (by omega) fun b hb => by
      obtain ⟨b', e1, e2, e3⟩ := havb
      rw [e1] at hb
      cases hb
      exact hM40.fr b e2 (by omega)
  · obtain ⟨w, hw, hs, b, hb1, hb2, hb3⟩ := hrows j hj
    have := hM40.nx
    exact ⟨w, hw, hs.keepB (by omega) fun b' hb' => by
      rw [hb1] at hb'
      cases hb'
      exact hM40.fr b hb2 hb3⟩

end Go.AM
