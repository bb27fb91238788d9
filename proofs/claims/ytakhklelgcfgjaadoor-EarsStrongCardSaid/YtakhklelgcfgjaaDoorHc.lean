/- Orient. -/
import Derived.Test.YtakhklelgcfgjaaDoorHa
import Derived.Test.YtakhklelgcfgjaaDoorHb
namespace Go.AM
open Go.Proofs

variable {R : Type}

attribute [local simp] nx_eq nx_new nx_set blk_new blk_set asI_int asK_int asB_bool asP_ptr al_eq bx_eq len_slice onE_exit onE_ret onR_ret Value.cells cell_new cell_set rd_new rd_set off eq lt le ifB gv out ext20 ext21

theorem look_N {x : Nat} : ∀ {T : TL} (i k : Nat), x ∈ nodesT T → look ((T.zipIdx k).map fun y => ((y.1.1 : Int), iv (y.2 : Int))) (x : Int) i = some (i + numP T x, iv ((k + numP T x : Nat) : Int)) := by
  intro T
  induction T with
  | nil => intro i k h; simp [nodesT] at h
  | cons y T ih =>
    intro i k h
    rw [List.zipIdx_cons, List.map_cons]
    simp only [look, numP]
    by_cases hy : y.1 = x
    · subst hy; simp
    · rw [if_neg (fun e => hy (Int.natCast_inj.1 e).symm), if_neg hy]
      have h' : x ∈ nodesT T := by
        simp only [nodesT, List.map_cons, List.mem_cons] at h
        rcases h with h | h
        · exact absurd h.symm hy
        · exact h
      rw [ih (i + 1) (k + 1) h', show i + 1 + numP T x = i + (numP T x + 1) by omega, show k + 1 + numP T x = k + (numP T x + 1) by omega]

theorem look_P {x : Nat} : ∀ {T : TL} (i : Nat), x ∈ nodesT T → look (kvP T) (x : Int) i = some (i + numP T x, iv (parP T x)) := by
  intro T
  induction T with
  | nil => intro i h; simp [nodesT] at h
  | cons y T ih =>
    intro i h
    unfold kvP at *
    rw [List.map_cons]
    simp only [look, numP, parP]
    by_cases hy : y.1 = x
    · subst hy; simp
    · rw [if_neg (fun e => hy (Int.natCast_inj.1 e).symm), if_neg hy, if_neg hy]
      have h' : x ∈ nodesT T := by
        simp only [nodesT, List.map_cons, List.mem_cons] at h
        rcases h with h | h
        · exact absurd h.symm hy
        · exact h
      rw [ih (i + 1) h', show i + 1 + numP T x = i + (numP T x + 1) by omega]

/-- A new map with one entry, in a cell of its own. -/
theorem mk_map (h : H) (a : Int) : ∃ h8 h10 es c, (∀ (K : H → H → Option R), (mkm h fun h7 => mup Tryd.prog h7 87 (.map (some (nx h))) (.int .i64 0) (.int .i64 a) fun h8 => al h8 87 [.map none] fun h9 => st Tryd.prog h9 87 (nx h8) 0 (.map (some (nx h))) (K h8)) = K h8 h10) ∧
    h8.nx = h.nx + 1 ∧ h10.nx = h.nx + 2 ∧ h10.blk h.nx = some (.mp es c) ∧ KvI [((0 : Int), iv a)] es ∧ h10.blk (h.nx + 1) = some (.row [.map (some h.nx)] 87 true) ∧ Ext h h10 := by
  have hm : (h.new (.mp [] 0)).blk h.nx = some (.mp [] 0) := blk_new_self _ _
  have k0 : KvI ([] : List (Int × Value)) [] := rfl
  refine ⟨(h.new (.mp [] 0)).set h.nx (.mp ([] ++ [{ key := .int .i64 0, val := .int .i64 a, born := 0 }]) (0 + 1)),
    (((h.new (.mp [] 0)).set h.nx (.mp ([] ++ [{ key := .int .i64 0, val := .int .i64 a, born := 0 }]) (0 + 1))).new (.row [.map none] 87 true)).set (h.nx + 1) (.row [.map (some h.nx)] 87 true), _, 0 + 1, fun K => ?_, rfl, rfl, ?_, k0.snoc (.int .i64 a) 0, blk_set_self _ _ _, ?_⟩
  · simp only [mkm]
    rw [nx_eq, mup_new under87 under3i hm k0 rfl, al_eq, w87]
    simp only [wrc]
    rw [show (((h.new (.mp [] 0)).set h.nx (.mp ([] ++ [{ key := .int .i64 0, val := .int .i64 a, born := 0 }]) (0 + 1))).new (.row [.map none] 87 true)).blk (nx ((h.new (.mp [] 0)).set h.nx (.mp ([] ++ [{ key := .int .i64 0, val := .int .i64 a, born := 0 }]) (0 + 1)))) = some (.row [.map none] 87 true) from blk_new_self _ _]
    rfl
  · rw [blk_set_ne _ _ _ (by omega), blk_new_ne _ _ (by simp), blk_set_self]
  · refine ⟨by simp; omega, fun b hb => ?_⟩
    rw [blk_set_ne _ _ _ (by omega), blk_new_ne _ _ (by simp; omega), blk_set_ne _ _ _ (by omega), blk_new_ne _ _ (by omega)]

noncomputable def firmP (g : List Nat) : Bool := connS g (allN g) && decide (bridgesP g = [])

theorem s27_bad {v : Value} {l : List Int} {h : H} (hval : validG l = false) (hs : SlR h 3 1 v (cellsI l)) : ∃ h', rn 27 #[v] h = some (.tuple #[.slice none 0 0, iv 2], h') ∧ Exw h h' := by
  have c63 := fun (K : Value → H → Option (Value × H)) => calls_eq (K := K) (xs := [v]) (s63 hs)
  rw [hval] at c63
  have x3 : Ext h ((h.new (.row [.slice none 0 0] 78 true)).set h.nx (.row [.slice none 0 0] 78 true)) := ((Ext.refl h).new' _).set (Nat.le_refl _) _
  obtain ⟨h2, e2, m2, w2⟩ := x27 (k := 0) (v0 := v) (h := h) (h1 := (h.new (.row [.slice none 0 0] 78 true)).set h.nx (.row [.slice none 0 0] 78 true)) (v := .tuple #[.slice none 0 0, iv 2]) (by
    unfold f27
    rw [c63]
    simp only [Bool.false_eq_true, if_false, ext20, ext21, asB_bool, al_eq, w78, nx_eq]
    rw [show (wrc 1 (h.new (.row [.slice none 0 0] 78 true)) h.nx 0 (.slice none 0 0)) = some ((h.new (.row [.slice none 0 0] 78 true)).set h.nx (.row [.slice none 0 0] 78 true)) by
      unfold wrc; rw [blk_new_self]; rfl]
    rfl) rfl
  exact ⟨h2, e2, w2 x3⟩

set_option maxHeartbeats 1000000 in
theorem or_loop {g : List Nat} {T : TL} {bt bn bp bv mn mp : Nat} {tv v13 : Value} {h8 h12 h18 : H} (hg : GrN g) (tree : Tree g T) (hc0 : Conn g (allN g)) (ht18 : HT g T bt bn bp bv mn mp tv h18) (q8 : h8.nx = bn) (q12 : h12.nx = bp)
    (hap0 : SlR h18 32 2 v13 (cellsP (edgesP g))) : ∃ sv' w h30, lpGo (f27_l1 rn 200 h8 h12 v13 (edgesP g).length) 200 [.slice none 0 0, iv 0] h18 = some (.exit 0, [sv', w], h30) ∧ Ext h18 h30 ∧ AqR h18.nx h30 92 2 sv' (cellsQ (streetsP g T)) := by
  have hlen := hg.len
  have hel := edges_len g hg.toGrB
  obtain ⟨ws', h30, hl, xg, hll, sv', hap', rfl⟩ := lp_for (F := f27_l1 rn 200 h8 h12 v13 (edgesP g).length) (k := 200) (l := edgesP g) (fun _ e acc => acc ++ [castP (orE T e)])
    (fun i acc ws g' => Ext h18 g' ∧ acc.length = i ∧ ∃ sv, AqR h18.nx g' 92 2 sv (cellsQ acc) ∧ ws = [sv, iv i]) 0 (ws := [.slice none 0 0, iv 0]) (h := h18) (s0 := [])
    ⟨.refl _, rfl, _, .nil, rfl⟩ (by omega)
    (by
      rintro acc ws g' ⟨_, _, sv, _, rfl⟩
      simp [f27_l1])
    (by
      rintro i e acc ws g' hx ⟨xg, hal, sv, hap, rfl⟩
      have hi := (List.getElem?_eq_some_iff.1 hx).1
      obtain ⟨hlt1, hlt2, hadj⟩ := mem_edges.1 (List.mem_of_getElem? hx)
      have hadd : add .i64 (i : Int) 1 = ((i + 1 : Nat) : Int) := by rw [add64 (by omega) (by omega)]; omega
      obtain ⟨g3, hg3⟩ : ∃ g3, g3 = (g'.new (.row [.int .i64 0, .int .i64 0] 32 true)).set g'.nx (.row [iv e.1, iv e.2] 32 true) := ⟨_, rfl⟩
      have hbg3 : g3.blk g'.nx = some (.row [iv e.1, iv e.2] 32 true) := by rw [hg3]; exact blk_set_self _ _ _
      have xg3 : Ext g' g3 := by rw [hg3]; exact ((Ext.refl g').new' _).set (Nat.le_refl _) _
      have w2 : ∀ (K : H → Option (Ex × List Value × H)), (wrc 2 (g'.new (.row [.int .i64 0, .int .i64 0] 32 true)) g'.nx 0 (.agg #[iv e.1, iv e.2])).bind K = K g3 := fun K => by
        rw [hg3]
        unfold wrc
        rw [blk_new_self]
        rfl
      have e1 : ∀ (K : Value → Option (Ex × List Value × H)), (six v13 (i : Int) 2 fun b o => ld Tryd.prog g' 32 b o K) = K (.agg #[iv e.1, iv e.2]) := fun K =>
        (hap0.ext xg).ldA ag32 sz32 (by omega) (x := [iv e.1, iv e.2]) (by simp [hx]) K
      have htg := ht18.ext (xg.trans xg3)
      obtain ⟨esn, cn, hbn, hkn⟩ := htg.hn
      obtain ⟨esp, cp, hbp, hkp⟩ := htg.hp
      have m1 := tree.all hg hc0 (x := e.1) (by omega)
      have m2 := tree.all hg hc0 hlt2
      have ln : ∀ x, x ∈ nodesT T → look (kvN T) (x : Int) 0 = some (numP T x, iv (numP T x : Nat)) := fun x hx => by
        have := look_N 0 0 hx
        rw [Nat.zero_add] at this
        exact this
      have lp : ∀ x, x ∈ nodesT T → look (kvP T) (x : Int) 0 = some (numP T x, iv (parP T x)) := fun x hx => by
        have := look_P 0 hx
        rw [Nat.zero_add] at this
        exact this
      have rn' : ∀ (K : Value → Option (Ex × List Value × H)), (ld Tryd.prog g3 87 bn 0 K) = K (.map (some mn)) := fun K => by rw [d87, cell_of htg.n]; rfl
      have rp' : ∀ (K : Value → Option (Ex × List Value × H)), (ld Tryd.prog g3 87 bp 0 K) = K (.map (some mp)) := fun K => by rw [d87, cell_of htg.p]; rfl
      have qn : ∀ x, x ∈ nodesT T → ∀ (K : Value → Option (Ex × List Value × H)), lok Tryd.prog g3 87 (.map (some mn)) (.int .i64 (x : Int)) false K = K (iv (numP T x : Nat)) := fun x hx K => by
        rw [lok_int0 under87 under3i zero3' hbn hkn, ln x hx]
      have qp : ∀ x, x ∈ nodesT T → ∀ (K : Value → Option (Ex × List Value × H)), lok Tryd.prog g3 87 (.map (some mp)) (.int .i64 (x : Int)) false K = K (iv (parP T x)) := fun x hx K => by
        rw [lok_int0 under87 under3i zero3' hbp hkp, lp x hx]
      have hlt : ∀ a b : Nat, AM.lt (a : Int) (b : Int) = decide (a < b) := fun a b => by simp [AM.lt]
      have start2 : f27_l1 rn 200 h8 h12 v13 (edgesP g).length [sv, iv i] g' = (bls Tryd.prog g3 38 1 [(0, .agg #[.int .i64 (castP (orE T e)).1, .int .i64 (castP (orE T e)).2])] fun y h2 => app Tryd.prog h2 38 38 sv y fun v25 h23 => AM.out .normal [v25, iv ((i + 1 : Nat) : Int)] h23) := by
        unfold f27_l1
        rw [show AM.gv [sv, iv i] 1 = iv i from rfl, show AM.gv [sv, iv i] 0 = sv from rfl, asI_int, lt_t (by omega), ifB_true, asK_int]
        rw [e1, al_eq, w32, nx_eq, w2]
        simp only [aix_in (show (0 : Int) ≤ 0 by omega) (show (0 : Int) < ((2 : Nat) : Int) by omega), aix_in (show (0 : Int) ≤ 1 by omega) (show (1 : Int) < ((2 : Nat) : Int) by omega), nx_eq, d3, at_, cell_of hbg3]
        rw [show ([iv (e.1 : Int), iv (e.2 : Int)] : List Value)[0 + (0 : Int).toNat * 1]? = some (iv e.1) from rfl]
        rw [show ([iv (e.1 : Int), iv (e.2 : Int)] : List Value)[0 + (1 : Int).toNat * 1]? = some (iv e.2) from rfl]
        simp only [Option.bind_some, asI_int, q8, q12, rn', rp', qn _ m1, qn _ m2, qp _ m1, qp _ m2, hlt, kbld92, hadd]
        unfold orE castP
        by_cases hnum : numP T e.2 < numP T e.1
        · simp only [hnum, decide_true, ifB_true, if_true]
          by_cases hpar : parP T e.1 = (e.2 : Int)
          · simp only [hpar, AM.eq, decide_true, ifB_true, if_true, beq_self_eq_true]
          · simp only [hpar, AM.eq, decide_false, ifB_false, if_false, beq_false_of_ne hpar]
        · simp only [hnum, decide_false, ifB_false, if_false]
          by_cases hpar : parP T e.2 = (e.1 : Int)
          · simp only [hpar, AM.eq, decide_true, ifB_true, if_true, beq_self_eq_true]
          · simp only [hpar, AM.eq, decide_false, ifB_false, if_false, beq_false_of_ne hpar]
      obtain ⟨sv', h2, e2, a2, n2, k2, b2, hb2, hb2'⟩ := (hap.ext xg3).push app38 app38 (bls38 (castP (orE T e)).1 (castP (orE T e)).2) rfl rfl (by rw [List.length_map]; omega) (xg.trans xg3).nx
      rw [start2, e2]
      refine ⟨_, _, rfl, ⟨by have := (xg.trans xg3).nx; omega, fun b hb => ?_⟩, by simp; omega, sv', ?_, rfl⟩
      · rw [k2 b (by have := (xg.trans xg3).nx; omega) (fun e => by have := ((hap.ext xg3).blkOf e).1; omega)]
        exact (xg.trans xg3).blk b hb
      · have : cellsQ (acc ++ [castP (orE T e)]) = cellsQ acc ++ [[iv (castP (orE T e)).1, iv (castP (orE T e)).2]] := by simp
        rw [this]; exact a2)
  have hfold : foldI (fun _ e acc => acc ++ [castP (orE T e)]) (edgesP g) 0 [] = streetsP g T := by
    have := foldI_filter (p := fun (_ : Nat × Nat) => true) (f := fun e => castP (orE T e)) (edgesP g) 0 []
    rw [List.filter_eq_self.2 (fun _ _ => rfl), List.nil_append] at this
    exact this
  rw [hfold] at hap'
  exact ⟨sv', _, h30, hl, xg, hap'⟩

end Go.AM
