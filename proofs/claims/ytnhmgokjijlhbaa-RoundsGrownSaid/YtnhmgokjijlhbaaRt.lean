/- Lives: the document's and the program's. -/
import Derived.Test.YtnhmgokjijlhbaaRs
namespace Go.Lives

theorem life_exists {D : Nat} {tos : Nat → List Nat} (hD : ∀ c, c < D → ∀ t ∈ tos c, t < D) : ∃ L, IsLife D tos L := by
  have key : ∀ (m d : Nat) (lv : Nat → Int), cntU D lv = m → DI D tos d lv → ∃ L, IsLife D tos L := by
    intro m
    induction m using Nat.strongRecOn with
    | ind m ih =>
      intro d lv hm hI
      by_cases hz : deadL D tos lv = []
      · exact ⟨lv, hI.done hD hz⟩
      · have := cnt_step hI
        have hpos : 0 < (deadL D tos lv).length := List.length_pos_iff.2 hz
        exact ih _ (by omega) (d + 1) _ rfl (hI.step hD)
  exact key _ 0 (fun _ => -1) rfl ⟨fun c _ => .inl rfl, fun c _ h => by omega, fun c _ _ h => by omega⟩

end Go.Lives
namespace Go.AM
open Go.Proofs Go.Lives

variable {R : Type}

attribute [local simp] nx_eq nx_new nx_set blk_new blk_set asI_int asK_int asB_bool asP_ptr al_eq bx_eq len_slice onE_exit onE_ret onR_ret Value.cells d3 d22 d31 d60 w60 w3 w22 cell_new cell_set rd_new rd_set off eq lt le ifB gv out eqF1 eqF2 eqF3 eqF4 eqF5 eqF6 eqF7 eqF8 ext20 ext21

theorem tos_lt {ln : List Nat} (hok : ∀ x ∈ ln, 1 ≤ x) (c : Nat) : ∀ t ∈ tosP ln c, t < prodN ln := by
  intro t ht
  unfold tosP at ht
  obtain ⟨x, hx, rfl⟩ := List.mem_map.1 ht
  obtain ⟨h1, h2⟩ := List.mem_filter.1 hx
  have h2' : x ≠ -1 := by simpa using h2
  have := (row_ok hok c x h1).resolve_left h2'
  omega

theorem tos_len (ln : List Nat) (c : Nat) : (tosP ln c).length ≤ ln.length := by
  unfold tosP
  rw [List.length_map]
  refine Nat.le_trans (List.length_filter_le _ _) ?_
  simp [rowP]

/-- The lives of the states of tasks. -/
noncomputable def lifeF (ln : List Nat) : Nat → Int := by
  classical
  exact if h : ∃ L, IsLife (prodN ln) (tosP ln) L then Classical.choose h else fun _ => 0

theorem lifeF_is {ln : List Nat} (hok : ∀ x ∈ ln, 1 ≤ x) : IsLife (prodN ln) (tosP ln) (lifeF ln) := by
  have h : ∃ L, IsLife (prodN ln) (tosP ln) L := life_exists fun c _ => tos_lt hok c
  unfold lifeF
  rw [dif_pos h]
  exact Classical.choose_spec h

theorem lifeF_map {ln : List Nat} (hok : ∀ x ∈ ln, 1 ≤ x) {L : Nat → Int} (h : IsLife (prodN ln) (tosP ln) L) : (List.range (prodN ln)).map L = (List.range (prodN ln)).map (lifeF ln) := by
  apply List.map_congr_left
  intro c hc
  exact life_unique (fun c _ => tos_lt hok c) h (lifeF_is hok) c (List.mem_range.1 hc)

theorem taskI_ok {ln : List Nat} (ht : TaskI (nI ln)) : (∀ x ∈ ln, 1 ≤ x ∧ x ≤ 40) ∧ ln.length ≤ 5 ∧ 1 ≤ ln.length ∧ prodN ln ≤ 20000 ∧ 1 ≤ prodN ln := by
  have hok : ∀ x ∈ ln, 1 ≤ x ∧ x ≤ 40 := fun x hx => by
    have := ht.rng (x : Int) (List.mem_map.2 ⟨x, hx, rfl⟩)
    omega
  have h1 := ht.len
  have h2 := ht.cnt
  have h3 := prod_pos (l := nI ln) (fun x hx => (ht.rng x hx).1)
  rw [prodP_nI] at h2 h3
  simp only [List.length_map] at h1
  exact ⟨hok, h1.2, h1.1, by omega, by omega⟩

theorem fill_set {α : Type} (x y : α) {n j : Nat} (h : j < n) : (List.replicate j x ++ List.replicate (n - j) y).set j x = List.replicate (j + 1) x ++ List.replicate (n - (j + 1)) y := by
  rw [List.set_append_right _ _ (by simp), List.length_replicate, Nat.sub_self, show n - j = (n - (j + 1)) + 1 by omega, List.replicate_succ, List.set_cons_zero, List.replicate_succ', List.append_assoc]
  rfl

theorem s62 {v0 : Value} {ln : List Nat} {h : H} (hl : SlR h 3 1 v0 (cellsI (nI ln))) (ht : TaskI (nI ln)) :
    ∃ v' h' b, rn 62 #[v0] h = some (v', h') ∧ Ext h h' ∧ IA h' b v' ((List.range (prodN ln)).map (lifeF ln)) := by
  obtain ⟨hok, h5, h1, hD, hDpos⟩ := taskI_ok ht
  have hok1 : ∀ x ∈ ln, 1 ≤ x := fun x hx => (hok x hx).1
  have hn : ∀ {T : Type} (K : Int → Option T), len v0 K = K (ln.length : Int) := fun K => by rw [hl.len]; simp
  -- how many there are
  have l1 : lpGo (f62_l1 rn 200010 v0 ln.length) 200010 [iv 1, iv 0] h = some (.exit 0, [iv (prodN ln), iv ln.length], h) := by
    have hl1 := lp_same (ρ := Empty) (F := f62_l1 rn 200010 v0 ln.length) (k := 200010) (l := nI ln) (h := h) (fun i st => [iv st, iv i])
      (fun _ x st => .inl (st * x)) (fun i st => 1 ≤ st ∧ st ≤ 40 ^ i) (fun _ => .ret) (fun _ => []) 0 (fun st => [iv st, iv ln.length]) (ws := [iv 1, iv 0]) (s0 := (1 : Int)) rfl (by decide) (by simp; omega) (by simp)
      (fun _ _ => by simp [f62_l1])
      (by
        intro i x st hx hI
        have hi := (List.getElem?_eq_some_iff.1 hx).1
        rw [List.length_map] at hi
        have hxx := ht.rng x (List.mem_of_getElem? hx)
        have g1 := Int.mul_le_mul hI.1 hxx.1 (by omega) (by omega)
        have h12 : (0 : Int) < 40 ^ i := Int.pow_pos (by decide)
        have g2 : st * x ≤ 40 ^ (i + 1) := by
          rw [Int.pow_succ]
          exact Int.mul_le_mul hI.2 hxx.2 (by omega) (by omega)
        have g3 : (40 : Int) ^ (i + 1) ≤ 40 ^ 5 := by
          have : (40 : Nat) ^ (i + 1) ≤ 40 ^ 5 := Nat.pow_le_pow_right (by omega) (by omega)
          exact_mod_cast this
        refine ⟨fun s' hs' => by cases hs'; omega, ?_⟩
        have e1 : ∀ (K : Value → Option (Ex × List Value × H)), (six v0 (i : Int) 1 fun b o => (h.cell b o).bind K) = K (iv x) := fun K => hl.c0 (by omega) (x := [iv x]) (by show (List.map _ (nI ln))[((i : Int)).toNat]? = _; rw [Int.toNat_natCast, List.getElem?_map, hx]; rfl) rfl K
        have hadd : add .i64 (i : Int) 1 = (i : Int) + 1 := add64 (by omega) (by omega)
        have hmul : mul .i64 st x = st * x := mul64 (by omega) (by omega)
        simp [f62_l1, hi, e1, rnd, hadd, hmul])
    rw [itL_inl (fun _ x st => st * x), foldI_l (fun (st x : Int) => st * x)] at hl1
    have hp : (nI ln).foldl (fun (st x : Int) => st * x) 1 = ((prodN ln : Nat) : Int) := by
      have := prodP_nI ln
      unfold prodP at this
      exact this
    rw [hp] at hl1
    exact hl1.1
  -- the rows, and the first state
  let D := prodN ln
  let h3 := h.new (.row (List.replicate D (.slice none 0 0)) 22 true)
  let h4 := h3.new (.row ((List.replicate ln.length (0 : Int)).map iv) 3 true)
  have k2 : ∀ (K : Value → H → Option (Value × H)), mks Try.prog h 60 D D K = K (.slice (some ⟨h.nx, 0, none⟩) D D) h3 := fun K => mks_nils (by show prodN ln < _; omega) K
  have k3 : ∀ (K : Value → H → Option (Value × H)), mks Try.prog h3 22 ln.length ln.length K = K (.slice (some ⟨h3.nx, 0, none⟩) ln.length ln.length) h4 := fun K => mks_ints app22 zero3 (by omega) K
  have x4 : Ext h h4 := (Ext.new _ _).trans (Ext.new _ _)
  have b3 : h4.blk h.nx = some (.row (List.replicate D (.slice none 0 0)) 22 true) := by
    show ((h3.new _).blk h.nx) = _
    rw [blk_new_ne _ _ (by show h.nx ≠ h.nx + 1; omega)]
    exact blk_new_self _ _
  have ia4 : IA h4 h3.nx (.slice (some ⟨h3.nx, 0, none⟩) ln.length ln.length) (List.replicate ln.length 0) := ia_new (by omega) (by simp)
  have hn3 : h3.nx = h.nx + 1 := rfl
  have hn4 : h4.nx = h.nx + 2 := rfl
  generalize hv3 : Value.slice (some ⟨h3.nx, 0, none⟩) ln.length ln.length = v3 at *
  rw [hn3] at ia4
  have hlen3 : ∀ (K : Int → Option (Value × H)), len v3 K = K (ln.length : Int) := fun K => by rw [ia4.len]; simp
  -- all ones
  obtain ⟨ws7, h7, l2, ia7, n7, k7, rfl⟩ := lp_for (σ := Unit) (F := f62_l2 rn 200010 v3 ln.length) (k := 200010) (l := List.range ln.length) (fun _ _ _ => ())
    (fun j _ ws g => IA g (h.nx + 1) v3 (List.replicate j 1 ++ List.replicate (ln.length - j) 0) ∧ g.nx = h4.nx ∧ (∀ b, b ≠ h.nx + 1 → g.blk b = h4.blk b) ∧ ws = [iv j]) 2 (ws := [iv 0]) (h := h4) (s0 := ())
    ⟨by simpa using ia4, rfl, fun _ _ => rfl, rfl⟩ (by rw [List.length_range]; omega)
    (by
      rintro _ ws g ⟨_, _, _, rfl⟩
      simp [f62_l2])
    (by
      rintro j x _ ws g hx ⟨ia, n, kk, rfl⟩
      have hj := (List.getElem?_eq_some_iff.1 hx).1
      rw [List.length_range] at hj
      have hadd : add .i64 (j : Int) 1 = (j : Int) + 1 := add64 (by omega) (by omega)
      have e2 : ∀ (K : H → Option (Ex × List Value × H)), (six v3 (j : Int) 1 fun b o => (wrc 1 g b o (.int .i64 1)).bind K) = K (g.set (h.nx + 1) (.row ((List.replicate (j + 1) (1 : Int) ++ List.replicate (ln.length - (j + 1)) 0).map iv) 3 true)) := fun K => by
        rw [ia.put (by omega) (by rw [Int.toNat_natCast]; simp; omega), ia.wrc (i := ((j : Int)).toNat) (by rw [Int.toNat_natCast]; simp; omega), Int.toNat_natCast, fill_set _ _ hj]; rfl
      have ia2 := ia.set j 1
      rw [fill_set _ _ hj] at ia2
      exact ⟨[iv ((j : Int) + 1)], _, by simp [f62_l2, hj, e2, hadd], ia2, n, fun b hb => (blk_set_ne _ _ _ hb).trans (kk b hb), rfl⟩)
  rw [List.length_range] at ia7
  have hrep : List.replicate ln.length (1 : Int) ++ List.replicate (ln.length - ln.length) 0 = nI (stateP ln 0) := by
    rw [state_zero ln hok1, Nat.sub_self]
    simp
  rw [hrep] at ia7
  -- the states
  have hTS : TS D h.nx (h.nx + 1) h7.nx (.slice (some ⟨h.nx, 0, none⟩) D D) v3 h (List.replicate D (.slice none 0 0)) h7 (toJ ln 0 0) (stateP ln 0) := by
    have h30 : (2 : Nat) ^ 30 < U := by decide
    refine ⟨by omega, Nat.le_refl _, fun b hb => (k7 b (by omega)).trans (x4.blk b hb), ?_, ia7⟩
    refine ⟨⟨D, by simp, by simp [capK, show D < U by show prodN ln < _; omega], by simp [capK, show D < U by show prodN ln < _; omega]⟩, by omega, Nat.le_refl _, (k7 _ (by omega)).trans b3, by simp, fun j w l hw hl => ?_, fun w hw q hq => ?_, fun i j w w' q _ hw _ hq => ?_⟩
    · rw [List.getElem?_replicate] at hw
      split at hw
      · cases hw
        rename_i hj
        rw [mapr_get _ hj] at hl
        cases hl
        have : toJ ln 0 0 j = [] := by simp only [toJ]; split <;> simp_all
        rw [this]
        exact .nil
      · cases hw
    · rw [List.eq_of_mem_replicate hw] at hq; cases hq
    · rw [List.eq_of_mem_replicate (List.mem_of_getElem? hw)] at hq; cases hq
  have hlb : ∀ b, blkOf v0 = some b → b < h.nx := fun b hb => by
    generalize cellsI (nI ln) = L at hl
    cases hl with
    | nil => cases hb
    | at_ hb' => cases hb; exact hb'
  obtain ⟨h20, ws20, vs, l3, hT⟩ := states_loop hl ht hlb (by omega) hTS (by omega) (iv ln.length)
  have hto : toJ ln (prodN ln) 0 = fun t => if t < prodN ln then tosP ln t else [] := by
    funext t
    simp only [toJ]
    split
    · rfl
    · split <;> rfl
  rw [hto] at hT
  have hnx20 := hT.nx
  -- the lives
  let h21 := h20.new (.row ((List.replicate D (0 : Int)).map iv) 3 true)
  have k14 : ∀ (K : Value → H → Option (Value × H)), mks Try.prog h20 22 D D K = K (.slice (some ⟨h20.nx, 0, none⟩) D D) h21 := fun K => mks_ints app22 zero3 (by show prodN ln < _; omega) K
  have ia21 : IA h21 h20.nx (.slice (some ⟨h20.nx, 0, none⟩) D D) (List.replicate D 0) := ia_new (by show prodN ln < _; omega) (by simp)
  have hn21 : h21.nx = h20.nx + 1 := rfl
  have x21 : Ext h20 h21 := .new _ _
  generalize hv14 : Value.slice (some ⟨h20.nx, 0, none⟩) D D = v14 at *
  have hlen14 : ∀ (K : Int → Option (Value × H)), len v14 K = K (D : Int) := fun K => by rw [ia21.len]; simp
  obtain ⟨ws24, h24, l6, ia24, n24, k24, rfl⟩ := lp_for (σ := Unit) (F := f62_l6 rn 200010 v14 D) (k := 200010) (l := List.range D) (fun _ _ _ => ())
    (fun j _ ws g => IA g h20.nx v14 (List.replicate j (-1) ++ List.replicate (D - j) 0) ∧ g.nx = h21.nx ∧ (∀ b, b ≠ h20.nx → g.blk b = h21.blk b) ∧ ws = [iv j]) 10 (ws := [iv 0]) (h := h21) (s0 := ())
    ⟨by simpa using ia21, rfl, fun _ _ => rfl, rfl⟩ (by rw [List.length_range]; show prodN ln < _; omega)
    (by
      rintro _ ws g ⟨_, _, _, rfl⟩
      simp [f62_l6])
    (by
      rintro j x _ ws g hx ⟨ia, n, kk, rfl⟩
      have hj := (List.getElem?_eq_some_iff.1 hx).1
      rw [List.length_range] at hj
      have hjD : j < prodN ln := hj
      have hadd : add .i64 (j : Int) 1 = (j : Int) + 1 := add64 (by omega) (by omega)
      have e2 : ∀ (K : H → Option (Ex × List Value × H)), (six v14 (j : Int) 1 fun b o => (wrc 1 g b o (.int .i64 (-1))).bind K) = K (g.set h20.nx (.row ((List.replicate (j + 1) (-1) ++ List.replicate (D - (j + 1)) 0).map iv) 3 true)) := fun K => by
        rw [ia.put (by omega) (by rw [Int.toNat_natCast]; simp; omega), ia.wrc (i := ((j : Int)).toNat) (by rw [Int.toNat_natCast]; simp; omega), Int.toNat_natCast, fill_set _ _ hj]; rfl
      have ia2 := ia.set j (-1)
      rw [fill_set _ _ hj] at ia2
      exact ⟨[iv ((j : Int) + 1)], _, by simp [f62_l6, hj, e2, hadd], ia2, n, fun b hb => (blk_set_ne _ _ _ hb).trans (kk b hb), rfl⟩)
  rw [List.length_range] at ia24
  have hrep2 : List.replicate D (-1 : Int) ++ List.replicate (D - D) 0 = (List.range D).map fun _ => -1 := by
    rw [Nat.sub_self, List.replicate_zero, List.append_nil, eq_comm, List.eq_replicate_iff]
    simp
  rw [hrep2] at ia24
  have hVS : VS D h20.nx v14 h21 h24 fun _ => -1 := ⟨by omega, by omega, fun b hb hne => k24 b hne, ia24⟩
  have hvl := hT.vlen
  obtain ⟨c2, hv2, hc2, hc2'⟩ := hT.bf.val
  have hTo : ToS h21 D h20.nx (.slice (some ⟨h.nx, 0, none⟩) D D) vs (tosP ln) := by
    refine ⟨?_, fun b hb => by cases hb; omega, fun j hj => ?_⟩
    · have hsl : SlR h20 22 1 (.slice (some ⟨h.nx, 0, none⟩) D D) (cellsV vs) := by
        rw [hv2]
        have := SlR.at_ (h := h20) (e := 22) (s := 1) (b := h.nx) (o := 0) (c := c2) (l := cellsV vs) (by omega) hT.bf.row (by simpa using hc2) hc2' (by simp) (fun i x hx => by
          simp only [List.getElem?_map] at hx
          cases hl : vs[i]? with
          | none => rw [hl] at hx; cases hx
          | some z =>
            rw [hl] at hx
            simp at hx
            subst hx
            refine ⟨rfl, fun j hj => ?_⟩
            have : j = 0 := by omega
            subst this
            simp [hl])
        rw [List.length_map] at this
        exact this
      exact hsl.ext x21
    · have hjD : j < prodN ln := hj
      have hw : vs[j]? = some vs[j] := List.getElem?_eq_getElem (by omega)
      have := hT.bf.el j _ _ hw (mapr_get _ hjD)
      rw [if_pos hjD] at this
      refine ⟨_, hw, this.slR.ext x21, fun b hb => ?_⟩
      have := (this.blkOf hb).2.1
      omega
  obtain ⟨h35, w35, life, l7, hV35, hL⟩ := days_loop (by show prodN ln < _; omega) hTo (fun c _ => tos_lt hok1 c) (fun c _ => by have := tos_len ln c; omega) hVS
  refine ⟨v14, h35, h20.nx, x62 (k := 200010) ?_ ia21.slR.notR, ⟨?_, fun b hb => ?_⟩, ?_⟩
  · unfold f62
    rw [hn]
    refine (lp_eq l1).trans ?_
    rw [onE_exit, if_pos rfl]
    show (asK (iv D) fun n6 => asK (iv D) fun n7 => mks Try.prog h 60 n6 n7 _) = _
    rw [asK_int, asK_int, k2, hn, k3, hlen3]
    refine (lp_eq l2).trans ?_
    rw [onE_exit, if_pos rfl]
    refine (lp_eq l3).trans ?_
    rw [onE_exit, if_pos rfl]
    show (asK (iv D) fun n6 => asK (iv D) fun n7 => mks Try.prog h20 22 n6 n7 _) = _
    rw [asK_int, asK_int, k14, hlen14]
    refine (lp_eq l6).trans ?_
    rw [onE_exit, if_pos rfl]
    refine (lp_eq l7).trans ?_
    rw [onR_ret]
    rfl
  · have := hV35.nx; omega
  · rw [hV35.fr b (by omega) (by omega), x21.blk b (by omega)]
    exact hT.fr b hb
  · have := hV35.lv
    rw [lifeF_map hok1 hL] at this
    exact this

/-- A state has a number. -/
theorem st_num {ln : List Nat} {s : List Int} (h : stOk (nI ln) s = true) : ∃ c, c < prodN ln ∧ codeP (nI ln) s = (c : Int) ∧ s = nI (stateP ln c) := by
  obtain ⟨h1, h2⟩ := stOk_iff.1 h
  have hs : s = nI (s.map Int.toNat) := by
    show s = List.map _ (List.map _ s)
    rw [List.map_map]
    apply List.ext_getElem
    · simp
    · intro j g1 g2
      have hj : j < (nI ln).length := by rw [← h1]; exact g1
      have hz : ((nI ln).zip s)[j]? = some ((nI ln)[j], s[j]) := by
        rw [List.getElem?_zip_eq_some]
        exact ⟨List.getElem?_eq_getElem hj, List.getElem?_eq_getElem g1⟩
      have := h2 _ (List.mem_of_getElem? hz)
      simp only at this
      simp
      omega
  generalize s.map Int.toNat = sn at hs
  subst hs
  have hp : ∀ p ∈ ln.zip sn, 1 ≤ p.2 ∧ p.2 ≤ p.1 := fun p hp => by
    have := h2 ((p.1 : Int), (p.2 : Int)) (by
      rw [List.zip_map]
      exact List.mem_map.2 ⟨p, hp, rfl⟩)
    simp only at this
    omega
  have hl : sn.length = ln.length := by simpa using h1
  have hy : ∀ y ∈ sn, 1 ≤ y := fun y hy => by
    obtain ⟨j, hj⟩ := List.getElem?_of_mem hy
    have hjl := (List.getElem?_eq_some_iff.1 hj).1
    have hz : (ln.zip sn)[j]? = some (ln[j], y) := by
      rw [List.getElem?_zip_eq_some]
      exact ⟨List.getElem?_eq_getElem (by omega), hj⟩
    exact (hp _ (List.mem_of_getElem? hz)).1
  have hlt := code_lt ln sn 0 hl hp
  refine ⟨codeN 0 ln sn, by omega, code_nI ln sn hy, ?_⟩
  unfold stateP
  rw [digR_code ln sn 0 hl hp]

/-- The life of a state: the document's. -/
theorem s34 {v0 v1 : Value} {ln : List Nat} {c : Nat} {h : H} (hl : SlR h 3 1 v0 (cellsI (nI ln))) (hs : SlR h 3 1 v1 (cellsI (nI (stateP ln c)))) (ht : TaskI (nI ln)) (hc : c < prodN ln) : rn 34 #[v0, v1] h = some (iv (lifeF ln c), h) := by
  obtain ⟨hok, _, _, hD, hDpos⟩ := taskI_ok ht
  have hst := state_ok (fun x hx => (hok x hx).1) c
  obtain ⟨c', hc', hcode, hcc⟩ := st_num hst
  have hcc' : codeP (nI ln) (nI (stateP ln c)) = (c : Int) := by
    have h1 := code_digR ln c 0 (fun x hx => (hok x hx).1)
    have h2 := digR_zero ln c (fun x hx => (hok x hx).1) hc
    rw [h2, Nat.add_zero] at h1
    rw [code_nI ln (stateP ln c) (fun y hy => by
      obtain ⟨j, hj⟩ := List.getElem?_of_mem hy
      have hjl := (List.getElem?_eq_some_iff.1 hj).1
      have hdl : (stateP ln c).length = ln.length := digR_len ln c
      have hz : (ln.zip (stateP ln c))[j]? = some (ln[j], y) := by
        rw [List.getElem?_zip_eq_some]
        exact ⟨List.getElem?_eq_getElem (by omega), hj⟩
      exact (digR_ok ln c (fun x hx => (hok x hx).1) _ (List.mem_of_getElem? hz)).1)]
    unfold stateP
    omega
  obtain ⟨v', h', b, e1, x1, ia⟩ := s62 hl ht
  have e2 := s63 (hl.ext x1) (hs.ext x1) ht hst
  rw [hcc'] at e2
  have c1 := fun (K : Value → H → Option (Value × H)) => calls_eq (K := K) (xs := [_]) e1
  have c2 := fun (K : Value → H → Option (Value × H)) => calls_eq (K := K) (xs := [_, _]) e2
  have e3 : ∀ (K : Value → Option (Value × H)), (six v' (c : Int) 1 fun b o => (h'.cell b o).bind K) = K (iv (lifeF ln c)) := fun K => ia.get (by omega) (by rw [Int.toNat_natCast]; exact mapr_get _ hc) K
  refine p34 (k := 0) (h1 := h') ?_ rfl x1
  simp [f34, c1, c2, e3]

theorem code_state {ln : List Nat} (hok : ∀ x ∈ ln, 1 ≤ x) {c : Nat} (hc : c < prodN ln) : codeP (nI ln) (nI (stateP ln c)) = (c : Int) := by
  have h1 := code_digR ln c 0 hok
  have h2 := digR_zero ln c hok hc
  rw [h2, Nat.add_zero] at h1
  rw [code_nI ln (stateP ln c) (fun y hy => by
    obtain ⟨j, hj⟩ := List.getElem?_of_mem hy
    have hjl := (List.getElem?_eq_some_iff.1 hj).1
    have hdl : (stateP ln c).length = ln.length := digR_len ln c
    have hz : (ln.zip (stateP ln c))[j]? = some (ln[j], y) := by
      rw [List.getElem?_zip_eq_some]
      exact ⟨List.getElem?_eq_getElem (by omega), hj⟩
    exact (digR_ok ln c hok _ (List.mem_of_getElem? hz)).1)]
  unfold stateP
  omega

/-- What a machine answers. -/
theorem IsMach.get {h : H} {b : Nat} {ln : List Nat} {v0 : Value} (a : IsMach h b ln v0) (hok : ∀ x ∈ ln, 1 ≤ x) : ∃ (av v18 : Value) (bl : Nat) (vs : List Value), h.blk b = some (.row [v0, av, v18] 76 true) ∧ b < h.nx ∧
    IA h bl v18 ((List.range (prodN ln)).map (lifeF ln)) ∧ SlR h 22 1 av (cellsV vs) ∧ ∀ j, j < prodN ln → ∃ w, vs[j]? = some w ∧ SlR h 3 1 w (cellsI (rowP ln j)) := by
  obtain ⟨av, v18, bl, vs, life, h1, h2, h3, h4, h5, h6⟩ := a.ex
  rw [lifeF_map hok h6] at h3
  exact ⟨av, v18, bl, vs, h1, h2, h3, h4, h5⟩

/-- The life of a state. -/
theorem s27 {v0 v1 : Value} {ln : List Nat} {c : Nat} {h : H} (hl : SlR h 3 1 v0 (cellsI (nI ln))) (hs : SlR h 3 1 v1 (cellsI (nI (stateP ln c)))) (ht : tasksP (nI ln) = true) (hc : c < prodN ln) : rn 27 #[v0, v1] h = some (.tuple #[iv (lifeF ln c), iv 0], h) := by
  have htI := tasks_I ht
  obtain ⟨hok, _, _, hD, hDpos⟩ := taskI_ok htI
  have hok1 : ∀ x ∈ ln, 1 ≤ x := fun x hx => (hok x hx).1
  have hst := state_ok hok1 c
  have c53 := fun (K : Value → H → Option (Value × H)) => calls_eq (K := K) (xs := [_]) (s53 hl)
  have c65 := fun (K : Value → H → Option (Value × H)) => calls_eq (K := K) (xs := [_, _]) (s65 hl hs)
  obtain ⟨h', e54, x1, hM⟩ := s54 hl htI
  obtain ⟨av, v18, bl, vs, hb, hbn, ia, _, _⟩ := hM.get hok1
  have c54 := fun (K : Value → H → Option (Value × H)) => calls_eq (K := K) (xs := [_]) e54
  have e2 := s66 (hl.ext x1) (hs.ext x1) htI hst
  rw [code_state hok1 hc] at e2
  have c66 := fun (K : Value → H → Option (Value × H)) => calls_eq (K := K) (xs := [_, _]) e2
  have e3 : ∀ (K : Value → Option (Value × H)), (six v18 (c : Int) 1 fun b o => (h'.cell b o).bind K) = K (iv (lifeF ln c)) := fun K => ia.get (by omega) (by rw [Int.toNat_natCast]; exact mapr_get _ hc) K
  have e4 : ∀ (K : Value → Option (Value × H)), (h'.cell h.nx 2).bind K = K v18 := fun K => by rw [cell_of hb]; rfl
  refine p27 (k := 0) (h1 := h') ?_ rfl x1
  have kn : ∀ (x : Option (Value × H)), nil (pt h.nx 0) x = x := fun _ => rfl
  simp [f27, c53, ht, c65, hst, c54, kn, e4, c66, e3, ck, freq, same, hbn]

theorem s27_bad {v0 v1 : Value} {l s : List Int} {h : H} (hl : SlR h 3 1 v0 (cellsI l)) (hs : SlR h 3 1 v1 (cellsI s)) (hb : (tasksP l && stOk l s) = false) : rn 27 #[v0, v1] h = some (.tuple #[iv 0, iv 2], h) := by
  have c53 := fun (K : Value → H → Option (Value × H)) => calls_eq (K := K) (xs := [_]) (s53 hl)
  have c65 := fun (K : Value → H → Option (Value × H)) => calls_eq (K := K) (xs := [_, _]) (s65 hl hs)
  refine p27 (k := 0) (h1 := h) ?_ rfl (.refl _)
  cases ht : tasksP l with
  | false => simp [f27, c53, ht]
  | true =>
    rw [ht, Bool.true_and] at hb
    simp [f27, c53, ht, c65, hb]

theorem s28_bad {v0 v1 : Value} {l s : List Int} {task : Int} {h : H} (hl : SlR h 3 1 v0 (cellsI l)) (hs : SlR h 3 1 v1 (cellsI s)) (hb : (tasksP l && stOk l s && decide (0 ≤ task ∧ task < l.length)) = false) : rn 28 #[v0, v1, iv task] h = some (.tuple #[.slice none 0 0, iv 2], h) := by
  have c53 := fun (K : Value → H → Option (Value × H)) => calls_eq (K := K) (xs := [_]) (s53 hl)
  have c65 := fun (K : Value → H → Option (Value × H)) => calls_eq (K := K) (xs := [_, _]) (s65 hl hs)
  have hn : ∀ {T : Type} (K : Int → Option T), len v0 K = K (l.length : Int) := fun K => by rw [hl.len]; simp
  refine x28 (k := 0) (h1 := h) ?_ rfl
  cases ht : tasksP l with
  | false => simp [f28, c53, ht]
  | true =>
    cases hst : stOk l s with
    | false => simp [f28, c53, ht, c65, hst]
    | true =>
      rw [ht, hst] at hb
      simp only [Bool.and_self, Bool.true_and, decide_eq_false_iff_not] at hb
      by_cases h0 : task < 0
      · simp [f28, c53, ht, c65, hst, h0]
      · have : (l.length : Int) ≤ task := by omega
        simp [f28, c53, ht, c65, hst, h0, hn, this]

/-- The state that comes. -/
theorem s28 {v0 v1 : Value} {l s : List Int} {task : Int} {h : H} (hl : SlR h 3 1 v0 (cellsI l)) (hs : SlR h 3 1 v1 (cellsI s)) (ht : tasksP l = true) (hst : stOk l s = true) (h0 : 0 ≤ task) (h1 : task < l.length) :
    ∃ v h', rn 28 #[v0, v1, iv task] h = some (.tuple #[v, iv (if (nextP l s task).isSome then 0 else 4)], h') ∧ Ext h h' ∧ SlR h' 3 1 v (cellsI ((nextP l s task).getD [])) := by
  have c53 := fun (K : Value → H → Option (Value × H)) => calls_eq (K := K) (xs := [_]) (s53 hl)
  have c65 := fun (K : Value → H → Option (Value × H)) => calls_eq (K := K) (xs := [_, _]) (s65 hl hs)
  have hn : ∀ {T : Type} (K : Int → Option T), len v0 K = K (l.length : Int) := fun K => by rw [hl.len]; simp
  obtain ⟨v, q, h', e, x, hN⟩ := s67 (task := task) hl hs (tasks_I ht) hst
  have c67 := fun (K : Value → H → Option (Value × H)) => calls_eq (K := K) (xs := [_, _, _]) e
  cases ho : nextP l s task with
  | none =>
    rw [ho] at hN
    obtain ⟨rfl, rfl⟩ := hN
    refine ⟨.slice none 0 0, h', x28 (k := 0) ?_ rfl, x, .nil⟩
    simp [f28, c53, ht, c65, hst, show ¬ task < 0 by omega, hn, show ¬ (l.length : Int) ≤ task by omega, c67]
  | some o =>
    rw [ho] at hN
    obtain ⟨hso, rfl, _⟩ := hN
    refine ⟨v, h', x28 (k := 0) ?_ hso.notR2, x, hso⟩
    simp [f28, c53, ht, c65, hst, show ¬ task < 0 by omega, hn, show ¬ (l.length : Int) ≤ task by omega, c67]

theorem s35 {v0 v1 : Value} {l s : List Int} {task : Int} {h : H} (hl : SlR h 3 1 v0 (cellsI l)) (hs : SlR h 3 1 v1 (cellsI s)) (ht : TaskI l) (hst : stOk l s = true) :
    ∃ v h', rn 35 #[v0, v1, iv task] h = some (.tuple #[v, iv (if (nextP l s task).isSome then 0 else 4)], h') ∧ Ext h h' ∧ SlR h' 3 1 v (cellsI ((nextP l s task).getD [])) := by
  obtain ⟨v, q, h', e, x, hN⟩ := s64 (task := task) hl hs ht hst
  have c64 := fun (K : Value → H → Option (Value × H)) => calls_eq (K := K) (xs := [_, _, _]) e
  cases ho : nextP l s task with
  | none =>
    rw [ho] at hN
    obtain ⟨rfl, rfl⟩ := hN
    refine ⟨.slice none 0 0, h', x35 (k := 0) ?_ rfl, x, .nil⟩
    simp [f35, c64]
  | some o =>
    rw [ho] at hN
    obtain ⟨hso, rfl, _⟩ := hN
    refine ⟨v, h', x35 (k := 0) ?_ hso.notR2, x, hso⟩
    simp [f35, c64]

/-- Two slices of the same length: are they the same? -/
theorem s26 {v0 v1 : Value} {a b : List Int} {h : H} (ha : SlR h 3 1 v0 (cellsI a)) (hb : SlR h 3 1 v1 (cellsI b)) : rn 26 #[v0, v1] h = some (.bool (decide (a = b)), h) := by
  have hla := ha.lt62
  rw [List.length_map] at hla
  have hn0 : ∀ {T : Type} (K : Int → Option T), len v0 K = K (a.length : Int) := fun K => by rw [ha.len]; simp
  have hn1 : ∀ {T : Type} (K : Int → Option T), len v1 K = K (b.length : Int) := fun K => by rw [hb.len]; simp
  refine p26 (k := a.length + 1) (h1 := h) ?_ rfl (.refl _)
  by_cases hlen : a.length = b.length
  · have hlp := lp_same (F := f26_l1 rn (a.length + 1) v0 v1 a.length) (k := a.length + 1) (l := a.zip b) (h := h) (fun i (_ : Unit) => [.bool false, iv i])
      (fun i p _ => if decide (p.1 = p.2) = true then .inl () else .inr i) (fun _ _ => True) (fun _ => .ret) (fun i : Nat => [.bool false, iv i]) 0 (fun _ => [.bool false, iv a.length]) (ws := [.bool false, iv 0]) (s0 := ()) rfl trivial (by simp; omega) (by simp)
      (fun _ _ => by simp [f26_l1, hlen])
      (by
        rintro i ⟨x, y⟩ _ hx _
        obtain ⟨g1, g2⟩ := zip_get hx
        simp only at g1 g2
        have hi := (List.getElem?_eq_some_iff.1 g1).1
        refine ⟨fun _ _ => trivial, ?_⟩
        have q1 : ∀ (K : Value → Option (Ex × List Value × H)), (six v0 (i : Int) 1 fun b o => (h.cell b o).bind K) = K (iv x) := fun K => ha.c0 (by omega) (x := [iv x]) (by simp [g1]) rfl K
        have q2 : ∀ (K : Value → Option (Ex × List Value × H)), (six v1 (i : Int) 1 fun b o => (h.cell b o).bind K) = K (iv y) := fun K => hb.c0 (by omega) (x := [iv y]) (by simp [g2]) rfl K
        have hadd : add .i64 (i : Int) 1 = (i : Int) + 1 := add64 (by omega) (by omega)
        by_cases hxy : x = y
        · simp [f26_l1, hi, q1, q2, hxy, hadd, rnd]
        · simp [f26_l1, hi, q1, q2, hxy, rnd])
    rcases itL_all (σ := Unit) (ρ := Nat) (ok := fun _ (p : Int × Int) => decide (p.1 = p.2)) (g := fun i _ => i) (s0 := ()) (a.zip b) 0 with ⟨⟨r, hr⟩, j, p, hj, hne⟩ | ⟨hr, hall⟩
    · rw [hr] at hlp
      have : ¬ a = b := fun e => by
        subst e
        obtain ⟨g1, g2⟩ := zip_get hj
        rw [g1] at g2
        have : p.1 = p.2 := by simpa using g2
        simp [this] at hne
      simp [f26, hn0, hn1, hlen] at hlp ⊢
      rw [lp_eq hlp]
      simp [this]
    · rw [hr] at hlp
      have : a = b := by
        apply List.ext_getElem hlen
        intro j h1 h2
        have hz : (a.zip b)[j]? = some (a[j], b[j]) := by
          rw [List.getElem?_zip_eq_some]
          exact ⟨List.getElem?_eq_getElem h1, List.getElem?_eq_getElem h2⟩
        simpa using hall j _ hz
      have hl := hlp.1
      simp [f26, hn0, hn1, hlen] at hl ⊢
      rw [lp_eq hl]
      simp [this]
  · have : ¬ a = b := fun e => hlen (by rw [e])
    simp [f26, hn0, hn1, show ¬ ((a.length : Int) = b.length) by omega, this]

theorem st_take (l s : List Int) (h5 : l.length ≤ 5) : stOk l (s.take 14) = stOk l s := by
  rcases Nat.le_total s.length 14 with h | h
  · rw [List.take_of_length_le h]
  · have h1 : stOk l (s.take 14) = false := by
      cases hh : stOk l (s.take 14) with
      | false => rfl
      | true =>
        have := (stOk_iff.1 hh).1
        rw [List.length_take] at this
        omega
    have h2 : stOk l s = false := by
      cases hh : stOk l s with
      | false => rfl
      | true =>
        have := (stOk_iff.1 hh).1
        omega
    rw [h1, h2]

end Go.AM
