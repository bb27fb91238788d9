/- The longest slice of tasks: what is first, the program's and the document's. -/
import Derived.Test.YtnhmgokjijlhbaaRv
import Derived.Test.YtnhmgokjijlhbaaF5
namespace Go.AM
open Go.Proofs Go.Lives

variable {R : Type}

attribute [local simp] nx_eq nx_new nx_set blk_new blk_set asI_int asK_int asB_bool asP_ptr al_eq bx_eq len_slice onE_exit onE_ret onR_ret Value.cells d3 d22 d31 d60 d70 w70 w60 w3 w22 cell_new cell_set rd_new rd_set off eq lt le ifB gv out eqF1 eqF2 eqF3 eqF4 eqF5 eqF6 eqF7 eqF8 ext20 ext21

/-! ### The beginning -/

def beg (ln : List Nat) : Nat := codeN 0 ln ln

theorem beg_spec {ln : List Nat} (hok : ∀ x ∈ ln, 1 ≤ x) : beg ln < prodN ln ∧ stateP ln (beg ln) = ln := by
  have hp : ∀ p ∈ ln.zip ln, 1 ≤ p.2 ∧ p.2 ≤ p.1 := fun p hp => by
    obtain ⟨j, hj⟩ := List.getElem?_of_mem hp
    rw [List.getElem?_zip_eq_some] at hj
    have h1 := hj.1
    rw [hj.2] at h1
    have h2 : p.2 = p.1 := Option.some.inj h1
    have h3 := hok p.2 (List.mem_of_getElem? hj.2)
    omega
  have h1 := code_lt ln ln 0 rfl hp
  refine ⟨by unfold beg; omega, ?_⟩
  unfold stateP beg
  rw [digR_code ln ln 0 rfl hp]

theorem s59 {v0 : Value} {ln : List Nat} {h : H} (hl : SlR h 3 1 v0 (cellsI (nI ln))) (ht : TaskI (nI ln)) : rn 59 #[v0] h = some (iv (beg ln), h) := by
  have hok : ∀ x ∈ ln, 1 ≤ x := fun x hx => ((taskI_ok ht).1 x hx).1
  obtain ⟨hb1, hb2⟩ := beg_spec hok
  have hst := state_ok hok (beg ln)
  rw [hb2] at hst
  have e := s66 hl hl ht hst
  have hc := code_state hok hb1
  rw [hb2] at hc
  rw [hc] at e
  have c1 := fun (K : Value → H → Option (Value × H)) => calls_eq (K := K) (xs := [_, _]) e
  refine p59 (k := 0) (h1 := h) ?_ rfl (.refl _)
  simp [f59, c1]

/-! ### The first one that a function takes -/

def idxP (p : Int → Bool) (l : List Int) : Int := if l.any p then (l.findIdx p : Nat) else -1

theorem s60 {v f : Value} {fn : FuncId} {xs ys : List Value} {l : List Int} {p : Int → Bool} {h : H} (hl : SlR h 3 1 v (cellsI l)) (hf : f = .func (.func fn) xs.toArray ys.toArray) (hp : ∀ x ∈ l, rn fn (xs ++ [iv x] ++ ys).toArray h = some (.bool (p x), h)) :
    rn 60 #[v, f] h = some (iv (idxP p l), h) := by
  have hlen := hl.lt62
  rw [List.length_map] at hlen
  have hn : ∀ {T : Type} (K : Int → Option T), len v K = K (l.length : Int) := fun K => by rw [hl.len]; simp
  refine p60 (k := l.length + 1) (h1 := h) ?_ rfl (.refl _)
  have hlp := lp_same (F := f60_l1 rn (l.length + 1) v f l.length) (k := l.length + 1) (l := l) (h := h) (fun i (_ : Unit) => [iv 0, iv i])
    (fun i x _ => if (!p x) = true then .inl () else .inr i) (fun _ _ => True) (fun _ => .ret) (fun i : Nat => [iv i, iv i]) 0 (fun _ => [iv 0, iv l.length]) (ws := [iv 0, iv 0]) (s0 := ()) rfl trivial (by omega) (by simp)
    (fun _ _ => by simp [f60_l1])
    (by
      intro i x _ hx _
      have hi := (List.getElem?_eq_some_iff.1 hx).1
      refine ⟨fun _ _ => trivial, ?_⟩
      have e1 : ∀ (K : Value → Option (Ex × List Value × H)), (six v (i : Int) 1 fun b o => (h.cell b o).bind K) = K (iv x) := fun K => hl.c0 (by omega) (x := [iv x]) (by simp [hx]) rfl K
      have e2 : ∀ (K : Value → H → Option (Ex × List Value × H)), callsV rn h f [iv x] K = K (.bool (p x)) h := fun K => by
        rw [hf, callsV_eq]
        exact calls_eq (hp x (List.mem_of_getElem? hx))
      have hadd : add .i64 (i : Int) 1 = (i : Int) + 1 := add64 (by omega) (by omega)
      cases hpx : p x <;> simp [f60_l1, hi, e1, e2, hpx, hadd, rnd])
  have key : ∀ (l : List Int) (i : Nat), (l.any p = true ∧ itL (σ := Unit) (ρ := Nat) (fun i x _ => if (!p x) = true then .inl () else .inr i) l i () = .inr (i + l.findIdx p)) ∨ (l.any p = false ∧ itL (σ := Unit) (ρ := Nat) (fun i x _ => if (!p x) = true then .inl () else .inr i) l i () = .inl ()) := by
    intro l
    induction l with
    | nil => intro i; exact .inr ⟨rfl, rfl⟩
    | cons x l ih =>
      intro i
      simp only [itL, List.any_cons, List.findIdx_cons]
      cases hpx : p x with
      | true => left; simp
      | false =>
        rcases ih (i + 1) with ⟨h1, h2⟩ | ⟨h1, h2⟩
        · left
          simp only [Bool.not_false, if_true, Bool.false_or, h1, h2, cond_false, true_and]
          congr 1
          omega
        · right
          simp only [Bool.not_false, if_true, Bool.false_or, h1, h2, and_self]
  rcases key l 0 with ⟨h1, h2⟩ | ⟨h1, h2⟩
  · rw [h2] at hlp
    simp only [Nat.zero_add] at hlp
    unfold f60
    rw [hn]
    refine (lp_eq hlp).trans ?_
    simp [onE, idxP, h1, onR]
  · rw [h2] at hlp
    unfold f60
    rw [hn]
    refine (lp_eq hlp.1).trans ?_
    simp [onE, idxP, h1]

/-! ### What is done last -/

noncomputable def goodL (ln : List Nat) (c : Nat) (x : Int) : Bool := decide (x ≠ -1) && decide (lifeF ln x.toNat = lifeF ln c - 1)
noncomputable def pick (ln : List Nat) (c : Nat) : Nat := (rowP ln c).findIdx (goodL ln c)

theorem pick_ok {ln : List Nat} (hok : ∀ x ∈ ln, 1 ≤ x) {c : Nat} (hc : c < prodN ln) (hpos : 0 < lifeF ln c) :
    (rowP ln c).any (goodL ln c) = true ∧ pick ln c < ln.length ∧ ∃ t, t < prodN ln ∧ aftP ln c (pick ln c) = (t : Int) ∧ lifeF ln t = lifeF ln c - 1 ∧ ∀ j, j < pick ln c → goodL ln c (aftP ln c j) = false := by
  obtain ⟨_, h2⟩ := lifeF_is hok c hc
  obtain ⟨_, _, h3⟩ := h2 (by omega)
  obtain ⟨t, ht, h4⟩ := h3.resolve_left (by omega)
  unfold tosP at ht
  obtain ⟨x, hx, rfl⟩ := List.mem_map.1 ht
  obtain ⟨h5, h6⟩ := List.mem_filter.1 hx
  have hg : goodL ln c x = true := by
    unfold goodL
    rw [h6, h4]
    simp
  have hany : (rowP ln c).any (goodL ln c) = true := List.any_eq_true.2 ⟨x, h5, hg⟩
  have hlt : pick ln c < (rowP ln c).length := List.findIdx_lt_length_of_exists ⟨x, h5, hg⟩
  have hlen : (rowP ln c).length = ln.length := by simp [rowP]
  have hget : ∀ j (hj : j < (rowP ln c).length), (rowP ln c)[j] = aftP ln c j := fun j hj => by simp [rowP]
  have hgp : goodL ln c (rowP ln c)[pick ln c] = true := List.findIdx_getElem
  rw [hget _ hlt] at hgp
  refine ⟨hany, by omega, ?_⟩
  unfold goodL at hgp
  simp only [Bool.and_eq_true, decide_eq_true_eq] at hgp
  have hr := (aft_ok hok c (pick ln c)).resolve_left hgp.1
  obtain ⟨t, ht⟩ := Int.eq_ofNat_of_zero_le hr.1
  rw [ht] at hgp hr
  refine ⟨t, by omega, ht, by simpa using hgp.2, fun j hj => ?_⟩
  have := List.not_of_lt_findIdx (p := goodL ln c) (xs := rowP ln c) (i := j) hj
  rw [hget j (by omega)] at this
  simpa using this

noncomputable def lastL (ln : List Nat) : Nat → Nat → List Int
  | 0, _ => []
  | n + 1, c => (pick ln c : Int) :: lastL ln n (aftP ln c (pick ln c)).toNat

theorem lastL_len (ln : List Nat) : ∀ (n c : Nat), (lastL ln n c).length = n := by
  intro n
  induction n with
  | zero => intro c; rfl
  | succ n ih => intro c; simp [lastL, ih]

/-- Blocks in which a machine stands. -/
structure MachAt (g : H) (a b0 : Nat) (ln : List Nat) (v0 av v18 : Value) (bl : Nat) (vs : List Value) : Prop where
  alt : a < g.nx
  blt : b0 < g.nx
  ptr : g.blk a = some (.row [pt b0 0] 70 true)
  mb : g.blk b0 = some (.row [v0, av, v18] 76 true)
  lf : IA g bl v18 ((List.range (prodN ln)).map (lifeF ln))
  av_ : SlR g 22 1 av (cellsV vs)
  rows : ∀ j, j < prodN ln → ∃ w, vs[j]? = some w ∧ SlR g 3 1 w (cellsI (rowP ln j))

theorem MachAt.ext {g g' : H} {a b0 : Nat} {ln : List Nat} {v0 av v18 : Value} {bl : Nat} {vs : List Value} (m : MachAt g a b0 ln v0 av v18 bl vs) (x : Ext g g') : MachAt g' a b0 ln v0 av v18 bl vs :=
  ⟨Nat.lt_of_lt_of_le m.alt x.nx, Nat.lt_of_lt_of_le m.blt x.nx, (x.blk _ m.alt).trans m.ptr, (x.blk _ m.blt).trans m.mb, m.lf.ext x, m.av_.ext x, fun j hj => by
    obtain ⟨w, hw, hs⟩ := m.rows j hj
    exact ⟨w, hw, hs.ext x⟩⟩

theorem MachAt.life {g : H} {a b0 : Nat} {ln : List Nat} {v0 av v18 : Value} {bl : Nat} {vs : List Value} (m : MachAt g a b0 ln v0 av v18 bl vs) {c : Nat} (hc : c < prodN ln) (K : Value → Option R) : (six v18 (c : Int) 1 fun b o => (g.cell b o).bind K) = K (iv (lifeF ln c)) :=
  m.lf.get (by omega) (by rw [Int.toNat_natCast]; exact mapr_get _ hc) K

theorem MachAt.row {g : H} {a b0 : Nat} {ln : List Nat} {v0 av v18 : Value} {bl : Nat} {vs : List Value} (m : MachAt g a b0 ln v0 av v18 bl vs) {c : Nat} (hc : c < prodN ln) : ∃ w, (∀ {R : Type} (K : Value → Option R), (six av (c : Int) 1 fun b o => (g.cell b o).bind K) = K w) ∧ SlR g 3 1 w (cellsI (rowP ln c)) := by
  obtain ⟨w, hw, hs⟩ := m.rows c hc
  exact ⟨w, fun K => m.av_.c0 (by omega) (x := [w]) (by simp [hw]) rfl K, hs⟩

theorem nilp (b o : Nat) (x : Option R) : nil (pt b o) x = x := rfl

theorem s61 {g : H} {a b0 B : Nat} {ln : List Nat} {v0 av v18 : Value} {bl : Nat} {vs : List Value} {c : Nat} (hok : ∀ x ∈ ln, 1 ≤ x) (m : MachAt g a b0 ln v0 av v18 bl vs) (hB : g.blk B = some (.row [iv c] 3 true)) (hc : c < prodN ln) (hD : prodN ln < 2 ^ 40) {x : Int} (hx : x = -1 ∨ (0 ≤ x ∧ x < (prodN ln : Nat))) :
    rn 61 #[iv x, pt a 0, pt B 0] g = some (.bool (goodL ln c x), g) := by
  refine p61 (k := 0) (h1 := g) ?_ rfl (.refl _)
  have e1 : ∀ (K : Value → Option (Value × H)), (g.cell a 0).bind K = K (pt b0 0) := fun K => by rw [cell_of m.ptr]; rfl
  have e2 : ∀ (K : Value → Option (Value × H)), (g.cell b0 2).bind K = K v18 := fun K => by rw [cell_of m.mb]; rfl
  have e3 : ∀ (K : Value → Option (Value × H)), (g.cell B 0).bind K = K (iv c) := fun K => by rw [cell_of hB]; rfl
  have e4 := fun (K : Value → Option (Value × H)) => m.life hc K
  rcases hx with rfl | ⟨h0, h1⟩
  · simp [f61, goodL]
  · obtain ⟨t, rfl⟩ := Int.eq_ofNat_of_zero_le h0
    have ht : t < prodN ln := by omega
    have e5 := fun (K : Value → Option (Value × H)) => m.life ht K
    have hb := lifeF_lt hok hc
    have hsub : sub .i64 (lifeF ln c) 1 = lifeF ln c - 1 := sub64 (by omega) (by omega)
    have hne : ¬ ((t : Int) = -1) := by omega
    simp [f61, hne, e1, nilp, e2, e5, e3, e4, hsub, goodL]
    rw [Bool.eq_iff_iff]
    simp

end Go.AM
