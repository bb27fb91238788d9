/- Streets down a search tree, and up all others: strong where no edge is a bridge. And strong streets only there. Plain. -/
import Derived.Test.YtakhklelgcfgjaaDoorEz
namespace Go.AM
open Go.Proofs

/-! ### A node's place and its parent -/

def numP : TL → Nat → Nat
  | [], _ => 0
  | y :: T, x => if y.1 = x then 0 else numP T x + 1
def parP : TL → Nat → Int
  | [], _ => 0
  | y :: T, x => if y.1 = x then y.2 else parP T x

theorem numP_at {T1 T2 : TL} {x : Nat} {p : Int} (h : x ∉ nodesT T1) : numP (T1 ++ (x, p) :: T2) x = T1.length := by
  induction T1 with
  | nil => simp [numP]
  | cons y T1 ih =>
    simp only [nodesT, List.map_cons, List.mem_cons, not_or] at h
    simp only [List.cons_append, numP, List.length_cons]
    rw [if_neg (fun e => h.1 e.symm), ih h.2]

theorem parP_at {T1 T2 : TL} {x : Nat} {p : Int} (h : x ∉ nodesT T1) : parP (T1 ++ (x, p) :: T2) x = p := by
  induction T1 with
  | nil => simp [parP]
  | cons y T1 ih =>
    simp only [nodesT, List.map_cons, List.mem_cons, not_or] at h
    simp only [List.cons_append, parP]
    rw [if_neg (fun e => h.1 e.symm), ih h.2]

theorem numP_ahead {T1 T2 : TL} {y : Nat} (h : y ∈ nodesT T1) : numP (T1 ++ T2) y < T1.length := by
  induction T1 with
  | nil => simp [nodesT] at h
  | cons z T1 ih =>
    simp only [List.cons_append, numP, List.length_cons]
    split
    · omega
    · rename_i hz
      simp only [nodesT, List.map_cons, List.mem_cons] at h
      rcases h with h | h
      · exact absurd h.symm hz
      · have := ih h; omega

theorem split_at {T : TL} {x : Nat} {q : Int} (h : (x, q) ∈ T) (hn : (nodesT T).Nodup) : ∃ T1 T2, T = T1 ++ (x, q) :: T2 ∧ x ∉ nodesT T1 := by
  obtain ⟨T1, T2, rfl⟩ := List.append_of_mem h
  refine ⟨T1, T2, rfl, fun hm => ?_⟩
  rw [nodesT_app, List.nodup_append] at hn
  exact hn.2.2 x hm x (by simp [nodesT]) rfl

theorem split_node {T : TL} {x : Nat} (h : x ∈ nodesT T) (hn : (nodesT T).Nodup) : ∃ T1 q T2, T = T1 ++ (x, q) :: T2 ∧ x ∉ nodesT T1 := by
  obtain ⟨⟨y, q⟩, hy, rfl⟩ := List.mem_map.1 h
  obtain ⟨T1, T2, h1, h2⟩ := split_at hy hn
  exact ⟨T1, q, T2, h1, h2⟩

section
variable {g : List Nat} {T : TL}

theorem parP_of (hw : Wf g T) {x : Nat} {q : Int} (h : (x, q) ∈ T) : parP T x = q := by
  obtain ⟨T1, T2, rfl, h2⟩ := split_at h hw.nodup
  exact parP_at h2

theorem num_parent (hw : Wf g T) {x p : Nat} (h : (x, (p : Int)) ∈ T) : numP T p < numP T x ∧ adj g p x = true := by
  obtain ⟨T1, T2, rfl, h2⟩ := split_at h hw.nodup
  rcases hw.par T1 x p T2 rfl with ⟨_, _, h3⟩ | ⟨p', h3, h4, h5⟩
  · omega
  · have : p' = p := by omega
    subst this
    rw [numP_at h2]
    exact ⟨numP_ahead h4, h5⟩

theorem Dn.num (hw : Wf g T) {a b : Nat} (h : Dn T a b) : a = b ∨ numP T a < numP T b := by
  induction h with
  | base => exact .inl rfl
  | step _ h2 ih =>
    have := (num_parent hw h2).1
    rcases ih with rfl | h3
    · exact .inr this
    · exact .inr (by omega)

theorem Dn.chain (hw : Wf g T) {u y x : Nat} (h : Dn T u x) (h' : Dn T y x) : Dn T u y ∨ Dn T y u := by
  induction h with
  | base => exact .inr h'
  | step h1 h2 ih =>
    cases h' with
    | base => exact .inl (h1.step h2)
    | step h3 h4 =>
      have e1 := parP_of hw h2
      have e2 := parP_of hw h4
      rw [e1] at e2
      have := Int.natCast_inj.1 e2
      subst this
      exact ih h3

/-! ### The streets -/

def orE (T : TL) (e : Nat × Nat) : Nat × Nat :=
  let s := if numP T e.2 < numP T e.1 then (e.2, e.1) else e
  if parP T s.2 = (s.1 : Int) then s else (s.2, s.1)
def castP (s : Nat × Nat) : Int × Int := ((s.1 : Int), (s.2 : Int))
def streetsP (g : List Nat) (T : TL) : List (Int × Int) := (edgesP g).map fun e => castP (orE T e)

theorem orE_or (T : TL) (e : Nat × Nat) : orE T e = e ∨ orE T e = (e.2, e.1) := by
  unfold orE
  by_cases h1 : numP T e.2 < numP T e.1
  · simp only [h1, if_true]
    split
    · exact .inr rfl
    · exact .inl rfl
  · simp only [h1, if_false]
    split
    · exact .inl rfl
    · exact .inr rfl

theorem streets_len (g : List Nat) (T : TL) : (streetsP g T).length = (edgesP g).length := by simp [streetsP]

theorem streets_ok (g : List Nat) (T : TL) : okZ (edgesP g) (streetsP g T) = true := by
  unfold okZ streetsP
  rw [List.all_eq_true]
  intro p hp
  rw [List.zip_map_right, List.mem_map] at hp
  obtain ⟨⟨a, b⟩, hq, rfl⟩ := hp
  have hab : a = b := by
    obtain ⟨i, hi⟩ := List.mem_iff_getElem?.1 hq
    rw [List.getElem?_zip_eq_some] at hi
    have := hi.1.symm.trans hi.2
    exact Option.some.inj this
  subst hab
  simp only [Prod.map, id_eq]
  unfold mtE castP
  rcases orE_or T a with h | h <;> rw [h] <;> simp

/-- Which way an edge goes. -/
theorem mem_streets (hg : GrN g) {a b : Nat} (h : adj g a b = true) (hlt : numP T a < numP T b) : (if parP T b = (a : Int) then castP (a, b) else castP (b, a)) ∈ streetsP g T := by
  have hne : a ≠ b := by rintro rfl; omega
  obtain ⟨h1, h2⟩ := hg.toGrB.adj_lt h
  unfold streetsP
  rw [List.mem_map]
  by_cases hab : a < b
  · refine ⟨(a, b), mem_edges.2 ⟨hab, h2, h⟩, ?_⟩
    unfold orE
    have h' : ¬ numP T b < numP T a := by omega
    simp only [h', if_false]
    by_cases hp : parP T b = (a : Int)
    · rw [if_pos hp, if_pos hp]
    · rw [if_neg hp, if_neg hp]
  · refine ⟨(b, a), mem_edges.2 ⟨by simp only; omega, h1, by simp only; rw [hg.sym]; exact h⟩, ?_⟩
    unfold orE
    simp only [hlt, if_true]
    by_cases hp : parP T b = (a : Int)
    · rw [if_pos hp, if_pos hp]
    · rw [if_neg hp, if_neg hp]

theorem exit_of {G : List Nat} {W : Nat} {S : Nat → Prop} {u p : Nat} (h : Rch G W u p) (hu : S u) (hp : ¬ S p) : ∃ x y, S x ∧ ¬ S y ∧ adj G x y = true := by
  induction h with
  | base => exact absurd hu hp
  | @step a b h1 h2 h3 ih =>
    by_cases ha : S a
    · exact ⟨a, b, ha, hp, h2⟩
    · exact ih ha

/-- A search tree of the whole graph. -/
structure Tree (g : List Nat) (T : TL) : Prop where
  wf : Wf g T
  dn : ∀ x ∈ nodesT T, Dn T 0 x
  star : ∀ x ∈ nodesT T, Star g T x
  zero : 0 ∈ nodesT T

theorem Vis.tree {X : TL} (h : Vis g [(0, -1)] 0 X) : Tree g ([(0, -1)] ++ X) := by
  refine ⟨h.wf, fun x hx => ?_, fun x hx => ?_, by simp [nodesT]⟩
  · rw [nodesT_app, List.mem_append] at hx
    rcases hx with hx | hx
    · simp [nodesT] at hx; subst hx; exact .base
    · exact h.dn x hx
  · rw [nodesT_app, List.mem_append] at hx
    rcases hx with hx | hx
    · simp [nodesT] at hx; exact h.star x (.inl hx)
    · exact h.star x (.inr hx)

theorem Star.sees (hw : Wf g T) {x y : Nat} (h : Star g T x) (ha : adj g x y = true) : numP T y < numP T x ∨ Dn T x y := by
  obtain ⟨T1, T2, p, rfl, h2⟩ := h
  rcases h2 y ha with h3 | h3
  · left
    rw [numP_at]
    · exact numP_ahead h3
    · intro hm
      have := hw.nodup
      rw [nodesT_app, List.nodup_append] at this
      exact this.2.2 x hm x (by simp [nodesT]) rfl
  · exact .inr h3

theorem Dn.node {a b : Nat} (h : Dn T a b) (ha : a ∈ nodesT T) : b ∈ nodesT T := by
  cases h with
  | base => exact ha
  | step _ h2 => exact List.mem_map.2 ⟨_, h2, rfl⟩

theorem Star.node {x y : Nat} (h : Star g T x) (ha : adj g x y = true) : y ∈ nodesT T := by
  obtain ⟨T1, T2, p, rfl, h2⟩ := h
  rcases h2 y ha with h3 | h3
  · rw [nodesT_app]; exact List.mem_append_left _ h3
  · exact h3.node (by simp [nodesT])

theorem Tree.all (hg : GrN g) (ht : Tree g T) (hc : Conn g (allN g)) {x : Nat} (hx : x < g.length) : x ∈ nodesT T := by
  have h : Rch g (allN g) 0 x := hc 0 x (all_bit0 hg) (by rw [allN_bit]; exact decide_eq_true hx)
  induction h with
  | base => exact ht.zero
  | step _ h2 h3 ih => exact (ht.star _ (ih (hg.toGrB.adj_lt h2).1)).node h2

theorem no_bridge (hg : GrN g) (hb : bridgesP g = []) {u p : Nat} (ha : adj g u p = true) : ∃ G, Rch G (allN g) u p ∧ ∀ x y, adj G x y = true → adj g x y = true ∧ ¬ (x = u ∧ y = p) ∧ ¬ (x = p ∧ y = u) := by
  obtain ⟨h1, h2⟩ := hg.toGrB.adj_lt ha
  have hne : u ≠ p := by rintro rfl; rw [hg.irr] at ha; cases ha
  have key : ∀ a b, a < b → b < g.length → adj g a b = true → Rch (delE g a b) (allN g) a b := by
    intro a b hab hbn hadj
    have hr : roundQ g a b = true := by
      cases hq : roundQ g a b with
      | true => rfl
      | false =>
        have : (a, b) ∈ bridgesP g := List.mem_filter.2 ⟨mem_edges.2 ⟨hab, hbn, hadj⟩, by simp [hq]⟩
        rw [hb] at this; cases this
    exact (round_iff hg (by omega)).1 hr
  rcases Nat.lt_or_gt_of_ne hne with hlt | hlt
  · refine ⟨_, key u p hlt h2 ha, fun x y hxy => ?_⟩
    rw [adj_delE h1 h2 hne] at hxy
    simp only [Bool.and_eq_true, Bool.not_eq_true', Bool.or_eq_false_iff, decide_eq_false_iff_not] at hxy
    exact ⟨hxy.1, hxy.2.1, hxy.2.2⟩
  · have hs : ∀ a b, adj (delE g p u) a b = adj (delE g p u) b a := by
      intro a b
      rw [adj_delE h2 h1 (fun e => hne e.symm), adj_delE h2 h1 (fun e => hne e.symm), hg.sym a b]
      congr 2
      rw [Bool.or_comm]
      congr 1 <;> simp [and_comm]
    refine ⟨_, (key p u hlt h1 (by rw [hg.sym]; exact ha)).sym hs (by rw [allN_bit]; exact decide_eq_true h2), fun x y hxy => ?_⟩
    rw [adj_delE h2 h1 (fun e => hne e.symm)] at hxy
    simp only [Bool.and_eq_true, Bool.not_eq_true', Bool.or_eq_false_iff, decide_eq_false_iff_not] at hxy
    exact ⟨hxy.1, hxy.2.2, hxy.2.1⟩

theorem arrow_of (hg : GrN g) {a b : Nat} (h : castP (a, b) ∈ streetsP g T) : adj (aheadP g.length (streetsP g T)) a b = true :=
  (adj_ahead (streets_len g T) (streets_ok g T)).2 h

theorem Dn.reach (hg : GrN g) (hw : Wf g T) {a b : Nat} (h : Dn T a b) : Rch (aheadP g.length (streetsP g T)) (allN g) a b := by
  induction h with
  | base => exact .base
  | @step p u h1 h2 ih =>
    obtain ⟨h3, h4⟩ := num_parent hw h2
    have := mem_streets (T := T) hg h4 h3
    rw [if_pos (parP_of hw h2)] at this
    exact ih.step (arrow_of hg this) (by rw [allN_bit]; exact decide_eq_true (hg.toGrB.adj_lt h4).2)

/-- From each node but the first there is a way to an earlier one. -/
theorem Tree.up (hg : GrN g) (ht : Tree g T) (hb : bridgesP g = []) {u : Nat} (hu : u ∈ nodesT T) (h0 : u ≠ 0) : ∃ y ∈ nodesT T, numP T y < numP T u ∧ Rch (aheadP g.length (streetsP g T)) (allN g) u y := by
  have hw := ht.wf
  obtain ⟨T1, q, T2, hT, hu1⟩ := split_node hu hw.nodup
  obtain ⟨p, rfl, hp1, hp2⟩ : ∃ p : Nat, q = (p : Int) ∧ p ∈ nodesT T1 ∧ adj g p u = true := by
    rcases hw.par T1 u q T2 hT with ⟨_, h, _⟩ | h
    · exact absurd h h0
    · exact h
  have hup : (u, (p : Int)) ∈ T := by rw [hT]; simp
  have hnum := (num_parent hw hup).1
  obtain ⟨G, hG, hG2⟩ := no_bridge hg hb (show adj g u p = true by rw [hg.sym]; exact hp2)
  have hnp : ¬ Dn T u p := fun h => by
    rcases h.num hw with e | e
    · subst e; omega
    · omega
  obtain ⟨x, y, hx, hy, hxy⟩ := exit_of (S := Dn T u) hG .base hnp
  obtain ⟨hadj, hne1, hne2⟩ := hG2 x y hxy
  have hxn := hx.node hu
  have hyn := (ht.star x hxn).node hadj
  have hlt : numP T y < numP T x := by
    rcases (ht.star x hxn).sees hw hadj with h | h
    · exact h
    · exact absurd (hx.trans h) hy
  have hyx : Dn T y x := by
    rcases (ht.star y hyn).sees hw (by rw [hg.sym]; exact hadj) with h | h
    · omega
    · exact h
  have hyu : numP T y < numP T u := by
    rcases hx.chain hw hyx with h | h
    · exact absurd h hy
    · rcases h.num hw with e | e
      · subst e; exact absurd .base hy
      · exact e
  refine ⟨y, hyn, hyu, (hx.reach hg hw).step (b := y) ?_ (by rw [allN_bit]; exact decide_eq_true (hw.lt y hyn))⟩
  have hpar : parP T x ≠ (y : Int) := by
    intro he
    obtain ⟨T1', q', T2', hT', hx1⟩ := split_node hxn hw.nodup
    have hq' : (x, q') ∈ T := by rw [hT']; simp
    rw [parP_of hw hq'] at he
    subst he
    cases hx with
    | base =>
      have e1 := parP_of hw hq'
      rw [parP_of hw hup] at e1
      have := Int.natCast_inj.1 e1
      exact hne1 ⟨rfl, this.symm⟩
    | step h1 h2 =>
      have e1 := parP_of hw hq'
      rw [parP_of hw h2] at e1
      have := Int.natCast_inj.1 e1
      subst this
      exact hy h1
  have := mem_streets (T := T) hg (show adj g y x = true by rw [hg.sym]; exact hadj) hlt
  rw [if_neg hpar] at this
  exact arrow_of hg this

theorem numP_zero (hw : Wf g T) {x : Nat} (hx : x ∈ nodesT T) (h : ∀ y, ¬ numP T y < numP T x) (ht : Tree g T) : x = 0 := by
  rcases (ht.dn x hx).num hw with e | e
  · exact e.symm
  · exact absurd e (h 0)

theorem Tree.strong (hg : GrN g) (ht : Tree g T) (hc : Conn g (allN g)) (hb : bridgesP g = []) : okR g (streetsP g T) = true := by
  rw [okR_iff hg]
  refine ⟨streets_len g T, streets_ok g T, fun a b ha hb' => ?_⟩
  rw [allN_bit, decide_eq_true_iff] at ha hb'
  have down := (ht.dn b (ht.all hg hc hb')).reach hg ht.wf
  have up : ∀ d u, u ∈ nodesT T → numP T u < d → Rch (aheadP g.length (streetsP g T)) (allN g) u 0 := by
    intro d
    induction d with
    | zero => intro u _ h; omega
    | succ d ih =>
      intro u hu hd
      by_cases h0 : u = 0
      · subst h0; exact .base
      · obtain ⟨y, hy, hlt, hr⟩ := ht.up hg hb hu h0
        exact hr.trans (ih y hy (by omega))
  exact (up _ a (ht.all hg hc ha) (Nat.lt_succ_self _)).trans down

end

/-! ### Strong streets only without bridges -/

theorem edges_nodup (g : List Nat) : (edgesP g).Nodup := by rw [edges_pairL]; exact pairL_nodup _ _

theorem strong_firm {g : List Nat} {L : List (Int × Int)} (hg : GrN g) (h : okR g L = true) : Conn g (allN g) ∧ bridgesP g = [] := by
  obtain ⟨hl, hz, hc⟩ := (okR_iff hg).1 h
  have hsub : ∀ u v, adj (aheadP g.length L) u v = true → adj g u v = true := by
    intro u v huv
    obtain ⟨i, hi⟩ := List.mem_iff_getElem?.1 ((adj_ahead hl hz).1 huv)
    obtain ⟨e, he, hm⟩ := okZ_get hl hz hi
    obtain ⟨h1, h2, h3⟩ := mem_edges.1 (List.mem_of_getElem? he)
    obtain ⟨a, c, h4, h5⟩ := mtE_nat hm
    have e1 := Int.natCast_inj.1 (Prod.mk.inj h4).1
    have e2 := Int.natCast_inj.1 (Prod.mk.inj h4).2
    subst e1 e2
    rcases h5 with ⟨rfl, rfl⟩ | ⟨rfl, rfl⟩
    · exact h3
    · rw [hg.sym]; exact h3
  have hanti : ∀ u v, adj (aheadP g.length L) u v = true → adj (aheadP g.length L) v u = true → False := by
    intro u v h1 h2
    obtain ⟨i, hi⟩ := List.mem_iff_getElem?.1 ((adj_ahead hl hz).1 h1)
    obtain ⟨j, hj⟩ := List.mem_iff_getElem?.1 ((adj_ahead hl hz).1 h2)
    obtain ⟨e, he, hm⟩ := okZ_get hl hz hi
    obtain ⟨e', he', hm'⟩ := okZ_get hl hz hj
    obtain ⟨q1, q2, _⟩ := mem_edges.1 (List.mem_of_getElem? he)
    obtain ⟨q3, q4, _⟩ := mem_edges.1 (List.mem_of_getElem? he')
    obtain ⟨a, c, h4, h5⟩ := mtE_nat hm
    obtain ⟨a', c', h4', h5'⟩ := mtE_nat hm'
    have e1 := Int.natCast_inj.1 (Prod.mk.inj h4).1
    have e2 := Int.natCast_inj.1 (Prod.mk.inj h4).2
    have e3 := Int.natCast_inj.1 (Prod.mk.inj h4').1
    have e4 := Int.natCast_inj.1 (Prod.mk.inj h4').2
    subst e1 e2 e3 e4
    have hee : e = e' := by
      refine Prod.ext ?_ ?_ <;> omega
    subst hee
    have hij : i = j := (List.getElem?_inj (List.getElem?_eq_some_iff.1 he).1 (edges_nodup g)).1 (he.trans he'.symm)
    subst hij
    rw [hi] at hj
    have := Int.natCast_inj.1 (Prod.mk.inj (Option.some.inj hj)).1
    subst this
    omega
  constructor
  · intro a b ha hb
    have := hc a b ha hb
    clear hb
    induction this with
    | base => exact .base
    | step _ h2 h3 ih => exact ih.step (hsub _ _ h2) h3
  · rw [List.eq_nil_iff_forall_not_mem]
    intro e he
    obtain ⟨he1, he2⟩ := List.mem_filter.1 he
    obtain ⟨h1, h2, h3⟩ := mem_edges.1 he1
    obtain ⟨a, b⟩ := e
    simp only at h1 h2 h3 he2
    have ha : a < g.length := by omega
    have hba : (allN g).testBit a = true := by rw [allN_bit]; exact decide_eq_true ha
    have hbb : (allN g).testBit b = true := by rw [allN_bit]; exact decide_eq_true h2
    -- a way without the arrows of the edge
    have way : ∀ u v, adj (aheadP g.length L) v u = false → (u = a ∧ v = b ∨ u = b ∧ v = a) → ∀ x, Rch (aheadP g.length L) (allN g) v x → Rch (delE g a b) (allN g) v x := by
      intro u v hvu huv x hx
      induction hx with
      | base => exact .base
      | @step y z h4 h5 h6 ih =>
        by_cases hz' : z = v
        · subst hz'; exact .base
        · refine ih.step ?_ h6
          rw [adj_delE ha h2 (by omega), hsub _ _ h5]
          rw [Bool.true_and, Bool.not_eq_true', Bool.or_eq_false_iff, decide_eq_false_iff_not, decide_eq_false_iff_not]
          constructor
          · rintro ⟨rfl, rfl⟩
            rcases huv with ⟨rfl, rfl⟩ | ⟨rfl, rfl⟩
            · exact hz' rfl
            · rw [h5] at hvu; cases hvu
          · rintro ⟨rfl, rfl⟩
            rcases huv with ⟨rfl, rfl⟩ | ⟨rfl, rfl⟩
            · rw [h5] at hvu; cases hvu
            · exact hz' rfl
    have hs : ∀ x y, adj (delE g a b) x y = adj (delE g a b) y x := by
      intro x y
      rw [adj_delE ha h2 (by omega), adj_delE ha h2 (by omega), hg.sym x y]
      congr 2
      rw [Bool.or_comm]
      congr 1 <;> simp [and_comm]
    have hr : Rch (delE g a b) (allN g) a b := by
      cases hab : adj (aheadP g.length L) a b with
      | false => exact way b a hab (.inr ⟨rfl, rfl⟩) b (hc a b hba hbb)
      | true =>
        have hba' : adj (aheadP g.length L) b a = false := Bool.eq_false_iff.2 fun h => hanti a b hab h
        exact (way a b hba' (.inl ⟨rfl, rfl⟩) a (hc b a hbb hba)).sym hs hbb
    rw [(round_iff hg ha).2 hr] at he2
    cases he2

end Go.AM
