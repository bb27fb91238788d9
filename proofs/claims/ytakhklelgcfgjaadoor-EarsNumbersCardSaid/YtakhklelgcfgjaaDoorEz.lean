/- A search tree: what holds while it grows. Plain. -/
import Derived.Test.YtakhklelgcfgjaaDoorEy
namespace Go.AM
open Go.Proofs

abbrev TL := List (Nat × Int)
def nodesT (T : TL) : List Nat := T.map Prod.fst

/-- Below in the tree. -/
inductive Dn (T : TL) (a : Nat) : Nat → Prop
  | base : Dn T a a
  | step {p u : Nat} : Dn T a p → (u, (p : Int)) ∈ T → Dn T a u

theorem Dn.mono {T T' : TL} {a b : Nat} (h : Dn T a b) (hs : ∀ x ∈ T, x ∈ T') : Dn T' a b := by
  induction h with
  | base => exact .base
  | step _ h2 ih => exact ih.step (hs _ h2)

theorem Dn.trans {T : TL} {a b c : Nat} (h : Dn T a b) (h2 : Dn T b c) : Dn T a c := by
  induction h2 with
  | base => exact h
  | step _ h3 ih => exact ih.step h3

/-- The neighbours of a node came ahead of it or stand below it. -/
def Star (g : List Nat) (T : TL) (x : Nat) : Prop := ∃ T1 T2 p, T = T1 ++ (x, p) :: T2 ∧ ∀ y, adj g x y = true → y ∈ nodesT T1 ∨ Dn T x y

theorem Star.app {g : List Nat} {T : TL} {x : Nat} (h : Star g T x) (X : TL) : Star g (T ++ X) x := by
  obtain ⟨T1, T2, p, rfl, h2⟩ := h
  refine ⟨T1, T2 ++ X, p, by simp, fun y hy => ?_⟩
  rcases h2 y hy with h3 | h3
  · exact .inl h3
  · exact .inr (h3.mono fun z hz => List.mem_append_left _ hz)

structure Wf (g : List Nat) (T : TL) : Prop where
  nodup : (nodesT T).Nodup
  lt : ∀ x ∈ nodesT T, x < g.length
  par : ∀ T1 u q T2, T = T1 ++ (u, q) :: T2 → (T1 = [] ∧ u = 0 ∧ q = -1) ∨ ∃ p : Nat, q = (p : Int) ∧ p ∈ nodesT T1 ∧ adj g p u = true

theorem Wf.len {g : List Nat} {T : TL} (h : Wf g T) : T.length ≤ g.length := by
  have h1 : (nodesT T).length ≤ (List.range g.length).length := len_le (F := fun x => x) h.nodup (fun x hx => List.mem_range.2 (h.lt x hx)) (fun _ _ _ _ e => e)
  simpa [nodesT] using h1

/-- A node more. -/
theorem Wf.snoc {g : List Nat} (hg : GrB g) {T : TL} (h : Wf g T) {u v : Nat} (hv : v ∈ nodesT T) (hu : u ∉ nodesT T) (ha : adj g v u = true) : Wf g (T ++ [(u, (v : Int))]) := by
  have hn : nodesT (T ++ [(u, (v : Int))]) = nodesT T ++ [u] := by simp [nodesT]
  refine ⟨?_, ?_, ?_⟩
  · rw [hn, List.nodup_append]
    refine ⟨h.nodup, by simp, fun a ha' b hb => ?_⟩
    rw [List.mem_singleton] at hb
    rintro rfl
    rw [hb] at ha'
    exact hu ha'
  · intro x hx
    rw [hn, List.mem_append, List.mem_singleton] at hx
    rcases hx with hx | rfl
    · exact h.lt x hx
    · exact (hg.adj_lt ha).2
  · intro T1 u' q T2 he
    rcases List.eq_nil_or_concat T2 with rfl | ⟨T3, y, rfl⟩
    · have := List.append_inj' he rfl
      obtain ⟨rfl, h2⟩ := this
      simp only [List.cons.injEq, Prod.mk.injEq, and_true] at h2
      obtain ⟨rfl, rfl⟩ := h2
      exact .inr ⟨v, rfl, hv, ha⟩
    · rw [List.concat_eq_append, ← List.cons_append, ← List.append_assoc] at he
      exact h.par T1 u' q T3 (List.append_inj' he rfl).1

structure Vis (g : List Nat) (T : TL) (v : Nat) (X : TL) : Prop where
  wf : Wf g (T ++ X)
  dn : ∀ x ∈ nodesT X, Dn (T ++ X) v x
  star : ∀ x, x = v ∨ x ∈ nodesT X → Star g (T ++ X) x

structure Lp (g : List Nat) (T : TL) (v : Nat) (X : TL) (i : Nat) : Prop where
  wf : Wf g (T ++ X)
  dn : ∀ x ∈ nodesT X, Dn (T ++ X) v x
  star : ∀ x ∈ nodesT X, Star g (T ++ X) x
  done : ∀ y ∈ (elts (nb g v)).take i, y ∈ nodesT (T ++ X)

theorem nodesT_app (T X : TL) : nodesT (T ++ X) = nodesT T ++ nodesT X := List.map_append ..

theorem lp0 {g : List Nat} {T : TL} {v : Nat} (h : Wf g T) : Lp g T v [] 0 := ⟨by simpa using h, by simp [nodesT], by simp [nodesT], by simp⟩

theorem Lp.skip {g : List Nat} {T X : TL} {v i u : Nat} (h : Lp g T v X i) (hu : (elts (nb g v))[i]? = some u) (hm : u ∈ nodesT (T ++ X)) : Lp g T v X (i + 1) := by
  refine ⟨h.wf, h.dn, h.star, fun y hy => ?_⟩
  rw [List.take_add_one, hu, List.mem_append] at hy
  rcases hy with hy | hy
  · exact h.done y hy
  · simp at hy; rw [hy]; exact hm

theorem Lp.next {g : List Nat} {T X Y : TL} {v i u : Nat} (h : Lp g T v X i) (hu : (elts (nb g v))[i]? = some u) (hv : Vis g (T ++ X ++ [(u, (v : Int))]) u Y) : Lp g T v (X ++ (u, (v : Int)) :: Y) (i + 1) := by
  have he : T ++ X ++ [(u, (v : Int))] ++ Y = T ++ (X ++ (u, (v : Int)) :: Y) := by simp
  have hv1 := hv.wf
  have hv2 := hv.dn
  have hv3 := hv.star
  rw [he] at hv1 hv2 hv3
  have hsub : ∀ x ∈ T ++ X, x ∈ T ++ (X ++ (u, (v : Int)) :: Y) := fun x hx => by
    rw [← List.append_assoc]; exact List.mem_append_left _ hx
  have hn : nodesT (X ++ (u, (v : Int)) :: Y) = nodesT X ++ u :: nodesT Y := by simp [nodesT]
  have hu' : Dn (T ++ (X ++ (u, (v : Int)) :: Y)) v u := .step .base (by simp)
  refine ⟨hv1, fun x hx => ?_, fun x hx => ?_, fun y hy => ?_⟩
  · rw [hn, List.mem_append, List.mem_cons] at hx
    rcases hx with hx | rfl | hx
    · exact (h.dn x hx).mono hsub
    · exact hu'
    · exact hu'.trans (hv2 x hx)
  · rw [hn, List.mem_append, List.mem_cons] at hx
    rcases hx with hx | rfl | hx
    · rw [← List.append_assoc]; exact (h.star x hx).app _
    · exact hv3 x (.inl rfl)
    · exact hv3 x (.inr hx)
  · rw [← List.append_assoc, nodesT_app, List.mem_append]
    rw [List.take_add_one, hu, List.mem_append] at hy
    rcases hy with hy | hy
    · exact .inl (h.done y hy)
    · simp at hy; subst hy; exact .inr (by simp [nodesT])

theorem Lp.fin {g : List Nat} (hg : GrN g) {T1 X : TL} {v : Nat} {p : Int} (h : Lp g (T1 ++ [(v, p)]) v X (elts (nb g v)).length) : Vis g (T1 ++ [(v, p)]) v X := by
  refine ⟨h.wf, h.dn, fun x hx => ?_⟩
  rcases hx with rfl | hx
  · refine ⟨T1, X, p, by simp, fun y hy => ?_⟩
    have hm := h.done y (by
      rw [List.take_length]
      exact (mem_elts (Nat.lt_of_lt_of_le (hg.nb_lt _) hg.pow)).2 hy)
    rw [nodesT_app, nodesT_app, List.mem_append, List.mem_append] at hm
    rcases hm with (hm | hm) | hm
    · exact .inl hm
    · simp only [nodesT, List.map_cons, List.map_nil, List.mem_singleton] at hm
      subst hm
      rw [hg.irr] at hy; cases hy
    · exact .inr (h.dn y hm)
  · exact h.star x hx

theorem wf0 {g : List Nat} (hg : GrN g) : Wf g [(0, -1)] := by
  refine ⟨by simp [nodesT], by simp [nodesT]; exact hg.pos, fun T1 u q T2 he => ?_⟩
  cases T1 with
  | nil => simp at he; exact .inl ⟨rfl, he.1.1.symm, he.1.2.symm⟩
  | cons a T1 => simp at he

end Go.AM
