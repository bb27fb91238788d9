/- Two slices: are they the same? The least and the greatest number (the same texts as elsewhere, for claims that need no more). -/
import Derived.Test.YtnhmgokjijlhbaaF2
import Derived.Test.YtnhmgokjijlhbaaF5
import Derived.Test.YtnhmgokjijlhbaaRa
namespace Go.AM
open Go.Proofs

variable {R : Type}

attribute [local simp] nx_eq nx_new nx_set blk_new blk_set asI_int asK_int asB_bool asP_ptr al_eq bx_eq len_slice onE_exit onE_ret onR_ret Value.cells d3 d22 w3 cell_new cell_set rd_new rd_set off eq lt le ifB gv out

theorem foldI_lq {α σ : Type} (g : σ → α → σ) : ∀ (l : List α) (i : Nat) (s : σ), foldI (fun _ x st => g st x) l i s = l.foldl g s := by
  intro l
  induction l with
  | nil => intro i s; rfl
  | cons x l ih => intro i s; exact ih _ _

theorem zip_getq {l s : List Int} {i : Nat} {p : Int × Int} (h : (l.zip s)[i]? = some p) : l[i]? = some p.1 ∧ s[i]? = some p.2 := by
  rw [List.getElem?_zip_eq_some] at h
  exact h

theorem s26q {v0 v1 : Value} {a b : List Int} {h : H} (ha : SlR h 3 1 v0 (cellsI a)) (hb : SlR h 3 1 v1 (cellsI b)) : rn 26 #[v0, v1] h = some (.bool (decide (a = b)), h) := by
  have hla := ha.lt62
  rw [List.length_map] at hla
  have hn0 : ∀ {T : Type} (K : Int → Option T), len v0 K = K (a.length : Int) := fun K => by rw [ha.len]; simp
  have hn1 : ∀ {T : Type} (K : Int → Option T), len v1 K = K (b.length : Int) := fun K => by rw [hb.len]; simp
  refine p26 (k := a.length + 1) (h1 := h) ?_ rfl (.refl _)
  by_cases hlen : a.length = b.length
  · have hlp := lp_same (F := f26_l1 rn (a.length + 1) v0 v1 a.length) (k := a.length + 1) (l := a.zip b) (h := h) (fun i (_ : Unit) => [.bool false, iv i])
      (fun i p _ => if decide (p.1 = p.2) = true then .inl () else .inr i) (fun _ _ => True) (fun _ => .ret) (fun i : Nat => [.bool false, iv i]) 0 (fun _ => [.bool false, iv a.length]) (ws := [.bool false, iv 0]) (s0 := ()) rfl trivial (by simp; omega) (by simp)
      (fun _ _ => by simp [f26_l1, hlen])
      (by
        rintro i ⟨x, y⟩ _ hx _
        obtain ⟨g1, g2⟩ := zip_getq hx
        simp only at g1 g2
        have hi := (List.getElem?_eq_some_iff.1 g1).1
        refine ⟨fun _ _ => trivial, ?_⟩
        have q1 : ∀ (K : Value → Option (Ex × List Value × H)), (six v0 (i : Int) 1 fun b o => (h.cell b o).bind K) = K (iv x) := fun K => ha.c0 (by omega) (x := [iv x]) (by simp [g1]) rfl K
        have q2 : ∀ (K : Value → Option (Ex × List Value × H)), (six v1 (i : Int) 1 fun b o => (h.cell b o).bind K) = K (iv y) := fun K => hb.c0 (by omega) (x := [iv y]) (by simp [g2]) rfl K
        have hadd : add .i64 (i : Int) 1 = (i : Int) + 1 := add64 (by omega) (by omega)
        by_cases hxy : x = y
        · simp [f26_l1, hi, q1, q2, hxy, hadd, rnd]
        · simp [f26_l1, hi, q1, q2, hxy, rnd])
    rcases itL_all (σ := Unit) (ρ := Nat) (ok := fun _ (p : Int × Int) => decide (p.1 = p.2)) (g := fun i _ => i) (s0 := ()) (a.zip b) 0 with ⟨⟨r, hr⟩, j, p, hj, hne⟩ | ⟨hr, hall⟩
    · rw [hr] at hlp
      have : ¬ a = b := fun e => by
        subst e
        obtain ⟨g1, g2⟩ := zip_getq hj
        rw [g1] at g2
        have : p.1 = p.2 := by simpa using g2
        simp [this] at hne
      simp [f26, hn0, hn1, hlen] at hlp ⊢
      rw [lp_eq hlp]
      simp [this]
    · rw [hr] at hlp
      have : a = b := by
        apply List.ext_getElem hlen
        intro j h1 h2
        have hz : (a.zip b)[j]? = some (a[j], b[j]) := by
          rw [List.getElem?_zip_eq_some]
          exact ⟨List.getElem?_eq_getElem h1, List.getElem?_eq_getElem h2⟩
        simpa using hall j _ hz
      have hl := hlp.1
      simp [f26, hn0, hn1, hlen] at hl ⊢
      rw [lp_eq hl]
      simp [this]
  · have : ¬ a = b := fun e => hlen (by rw [e])
    simp [f26, hn0, hn1, show ¬ ((a.length : Int) = b.length) by omega, this]

theorem s78q {v : Value} {x0 : Int} {l : List Int} {h : H} (hs : SlR h 3 1 v (cellsI (x0 :: l))) (hlen : l.length < 100000) : rn 78 #[v] h = some (iv (minP (x0 :: l)), h) := by
  refine p78 (k := 200010) (h1 := h) ?_ rfl (.refl _)
  have hn : ∀ {T : Type} (K : Int → Option T), len v K = K ((l.length + 1 : Nat) : Int) := fun K => by rw [hs.len, List.length_map, List.length_cons]
  have hl := lp_same (ρ := Empty) (F := f78_l1 rn 200010 v) (k := 200010) (l := l) (h := h) (fun i st => [iv st, iv ((i : Int) + 1)])
    (fun _ x st => .inl (imin st x)) (fun _ _ => True) (fun _ => .ret) (fun _ => []) 0 (fun st => [iv st, iv ((l.length : Int) + 1)]) (ws := [iv x0, iv 1]) (s0 := x0) rfl trivial (by omega) (by simp)
    (fun _ _ => by simp [f78_l1, hn])
    (by
      intro i x st hx _
      have hi := (List.getElem?_eq_some_iff.1 hx).1
      refine ⟨fun _ _ => trivial, ?_⟩
      have g1 : ∀ (K : Value → Option (Ex × List Value × H)), (six v ((i : Int) + 1) 1 fun b o => (h.cell b o).bind K) = K (iv x) := fun K => hs.c0 (by omega) (x := [iv x]) (by rw [show ((i : Int) + 1).toNat = i + 1 by omega]; simp [hx]) rfl K
      have hadd : add .i64 ((i : Int) + 1) 1 = (i : Int) + 1 + 1 := add64 (by omega) (by omega)
      simp [f78_l1, hn, show i < l.length by omega, g1, rnd, hadd])
  rw [itL_inl (fun _ x st => imin st x), foldI_lq (fun st x => imin st x)] at hl
  have g0 : ∀ (K : Value → Option (Value × H)), (six v 0 1 fun b o => (h.cell b o).bind K) = K (iv x0) := fun K => hs.c0 (by omega) (x := [iv x0]) rfl rfl K
  simp [f78, hn, g0, lp_eq hl.1, minP, show ¬ ((l.length : Int) + 1 < 1) by omega]

theorem s79q {v : Value} {x0 : Int} {l : List Int} {h : H} (hs : SlR h 3 1 v (cellsI (x0 :: l))) (hlen : l.length < 100000) : rn 79 #[v] h = some (iv (maxP (x0 :: l)), h) := by
  refine p79 (k := 200010) (h1 := h) ?_ rfl (.refl _)
  have hn : ∀ {T : Type} (K : Int → Option T), len v K = K ((l.length + 1 : Nat) : Int) := fun K => by rw [hs.len, List.length_map, List.length_cons]
  have hl := lp_same (ρ := Empty) (F := f79_l1 rn 200010 v) (k := 200010) (l := l) (h := h) (fun i st => [iv st, iv ((i : Int) + 1)])
    (fun _ x st => .inl (imax st x)) (fun _ _ => True) (fun _ => .ret) (fun _ => []) 0 (fun st => [iv st, iv ((l.length : Int) + 1)]) (ws := [iv x0, iv 1]) (s0 := x0) rfl trivial (by omega) (by simp)
    (fun _ _ => by simp [f79_l1, hn])
    (by
      intro i x st hx _
      have hi := (List.getElem?_eq_some_iff.1 hx).1
      refine ⟨fun _ _ => trivial, ?_⟩
      have g1 : ∀ (K : Value → Option (Ex × List Value × H)), (six v ((i : Int) + 1) 1 fun b o => (h.cell b o).bind K) = K (iv x) := fun K => hs.c0 (by omega) (x := [iv x]) (by rw [show ((i : Int) + 1).toNat = i + 1 by omega]; simp [hx]) rfl K
      have hadd : add .i64 ((i : Int) + 1) 1 = (i : Int) + 1 + 1 := add64 (by omega) (by omega)
      simp [f79_l1, hn, show i < l.length by omega, g1, rnd, hadd])
  rw [itL_inl (fun _ x st => imax st x), foldI_lq (fun st x => imax st x)] at hl
  have g0 : ∀ (K : Value → Option (Value × H)), (six v 0 1 fun b o => (h.cell b o).bind K) = K (iv x0) := fun K => hs.c0 (by omega) (x := [iv x0]) rfl rfl K
  simp [f79, hn, g0, lp_eq hl.1, maxP, show ¬ ((l.length : Int) + 1 < 1) by omega]

end Go.AM
