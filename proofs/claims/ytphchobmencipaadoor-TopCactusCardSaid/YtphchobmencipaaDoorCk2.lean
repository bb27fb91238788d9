/- Parts of the proof, put together: what the functions of the program answer, and plain laws. -/
import Derived.Test.YtphchobmencipaaDoorAmRun
import Derived.Test.YtphchobmencipaaDoorRows
import Derived.LaidMore
import Derived.Stop.Joined
import Derived.ProofKit
import Derived.OpenShut
import Derived.Test.YtphchobmencipaaDoorCk1

section

/- PLAIN: outer orders: no two edges cross. Where each edge is in at most one cycle there is one; where there is one, the width is at most 2. -/
namespace Go.AM
open Go.Proofs
/-- No two edges cross. -/
def NX (a : Ad) (l : List Nat) : Prop := ∀ p q r s, [p, q, r, s].Sublist l → a p r = true → a q s = true → False

theorem NX.sub {a : Ad} {l m : List Nat} (h : NX a l) (s : m.Sublist l) : NX a m := fun p q r s' hs => h p q r s' (hs.trans s)

theorem sub_tail {α : Type} {x y : α} {l m : List α} (h : (x :: l).Sublist (y :: m)) : l.Sublist m := by
  cases h with
  | cons _ h => exact (List.sublist_cons_self x l).trans h
  | cons_cons _ h => exact h

/-- The first one may be the last one. -/
theorem NX.rot1 {a : Ad} (ha : Sym a) {x : Nat} {l : List Nat} (h : NX a (x :: l)) : NX a (l ++ [x]) := by
  intro p q r s hs h1 h2
  obtain ⟨u, v, e, hu, hv⟩ := List.sublist_append_iff.1 hs
  match v, hv with
  | [], _ =>
    rw [List.append_nil] at e
    subst e
    exact h p q r s (hu.trans (List.sublist_cons_self x l)) h1 h2
  | [y], hv =>
    have hy : y = x := by simpa using hv.subset List.mem_cons_self
    subst hy
    have e1 : u = [p, q, r] ∧ s = y := by
      match u, e with
      | [], e => simp at e
      | [_], e => simp at e
      | [_, _], e => simp at e
      | [a1, a2, a3], e => simp at e; simp [e]
      | _ :: _ :: _ :: _ :: _, e => simp at e
    obtain ⟨rfl, rfl⟩ := e1
    rw [ha.sym] at h2
    exact h s p q r (hu.cons_cons s) h2 h1
  | y :: z :: t, hv =>
    have := hv.length_le
    simp at this

theorem NX.rot {a : Ad} (ha : Sym a) : ∀ (l m : List Nat), NX a (l ++ m) → NX a (m ++ l)
  | [], m, h => by simpa using h
  | x :: l, m, h => by
    have h1 : NX a ((l ++ m) ++ [x]) := NX.rot1 ha (l := l ++ m) h
    rw [List.append_assoc] at h1
    have := NX.rot ha l (m ++ [x]) h1
    simpa using this

/-- Two orders that have their first node in common are put together. -/
theorem NX.glue {a : Ad} (ha : Sym a) {w : Nat} {α β : List Nat} (hβ : w ∉ β) (h1 : NX a (w :: α)) (h2 : NX a (w :: β)) (hne : ∀ x ∈ β, ∀ y ∈ α, a x y = false) : NX a (w :: (β ++ α)) := by
  intro p q r s hs e1 e2
  rw [show w :: (β ++ α) = (w :: β) ++ α from rfl] at hs
  obtain ⟨u, v, e, hu, hv⟩ := List.sublist_append_iff.1 hs
  have inβ : ∀ {x y : Nat} {t : List Nat}, (x :: y :: t).Sublist (w :: β) → y ∈ β := fun h => (sub_tail h).subset List.mem_cons_self
  match u, hu, e with
  | [], _, e =>
    rw [List.nil_append] at e
    subst e
    exact h1 p q r s (hv.trans (List.sublist_cons_self w α)) e1 e2
  | [x1], hu, e =>
    simp only [List.cons_append, List.nil_append, List.cons.injEq] at e
    obtain ⟨rfl, rfl⟩ := e
    have hp : p = w ∨ p ∈ β := List.mem_cons.1 (hu.subset List.mem_cons_self)
    rcases hp with rfl | hp
    · exact h1 p q r s (hv.cons_cons p) e1 e2
    · rw [hne p hp r (hv.subset (by simp))] at e1; cases e1
  | [x1, x2], hu, e =>
    simp only [List.cons_append, List.nil_append, List.cons.injEq] at e
    obtain ⟨rfl, rfl, rfl⟩ := e
    rw [hne q (inβ hu) s (hv.subset (by simp))] at e2; cases e2
  | [x1, x2, x3], hu, e =>
    simp only [List.cons_append, List.nil_append, List.cons.injEq] at e
    obtain ⟨rfl, rfl, rfl, rfl⟩ := e
    rw [hne q (inβ hu) s (hv.subset (by simp))] at e2; cases e2
  | [x1, x2, x3, x4], hu, e =>
    simp only [List.cons_append, List.nil_append, List.cons.injEq] at e
    obtain ⟨rfl, rfl, rfl, rfl, _⟩ := e
    exact h2 p q r s hu e1 e2
  | _ :: _ :: _ :: _ :: _ :: _, _, e => simp at e

theorem NX.glue0 {a : Ad} {α β : List Nat} (h1 : NX a α) (h2 : NX a β) (hne : ∀ x ∈ β, ∀ y ∈ α, a x y = false) : NX a (β ++ α) := by
  intro p q r s hs e1 e2
  obtain ⟨u, v, e, hu, hv⟩ := List.sublist_append_iff.1 hs
  match u, hu, e with
  | [], _, e =>
    rw [List.nil_append] at e
    subst e
    exact h1 p q r s hv e1 e2
  | [x1], hu, e =>
    simp only [List.cons_append, List.nil_append, List.cons.injEq] at e
    obtain ⟨rfl, rfl⟩ := e
    rw [hne p (hu.subset (by simp)) r (hv.subset (by simp))] at e1; cases e1
  | [x1, x2], hu, e =>
    simp only [List.cons_append, List.nil_append, List.cons.injEq] at e
    obtain ⟨rfl, rfl, rfl⟩ := e
    rw [hne q (hu.subset (by simp)) s (hv.subset (by simp))] at e2; cases e2
  | [x1, x2, x3], hu, e =>
    simp only [List.cons_append, List.nil_append, List.cons.injEq] at e
    obtain ⟨rfl, rfl, rfl, rfl⟩ := e
    rw [hne q (hu.subset (by simp)) s (hv.subset (by simp))] at e2; cases e2
  | [x1, x2, x3, x4], hu, e =>
    simp only [List.cons_append, List.nil_append, List.cons.injEq] at e
    obtain ⟨rfl, rfl, rfl, rfl, _⟩ := e
    exact h2 p q r s hu e1 e2
  | _ :: _ :: _ :: _ :: _ :: _, _, e => simp at e

def OutS (g : List Nat) (S : Nat) : Prop := ∃ l : List Nat, l.Nodup ∧ (∀ i, i ∈ l ↔ S.testBit i = true) ∧ NX (adj g) l

/-! ### A cycle -/
theorem three_le {g : List Nat} {S v x y z : Nat} (hS : S < 1024) (hx : S.testBit x = true) (hy : S.testBit y = true) (hz : S.testBit z = true) (hxy : x ≠ y) (hxz : x ≠ z) (hyz : y ≠ z)
    (ax : adj g v x = true) (ay : adj g v y = true) (az : adj g v z = true) : 3 ≤ (elts S).countP (adj g v) := by
  rw [List.countP_eq_length_filter]
  refine len_sub (l := [x, y, z]) (by simp [hxy, hxz, hyz]) fun u hu => ?_
  rw [List.mem_filter, mem_elts hS]
  simp only [List.mem_cons, List.not_mem_nil, or_false] at hu
  rcases hu with rfl | rfl | rfl
  · exact ⟨hx, ax⟩
  · exact ⟨hy, ay⟩
  · exact ⟨hz, az⟩

/-- A way without repetition, backward: each next one has an edge to the one before. -/
structure PathL (g : List Nat) (S : Nat) (l : List Nat) : Prop where
  nd : l.Nodup
  on : ∀ x ∈ l, S.testBit x = true
  ch : ∀ i x y, l[i]? = some x → l[i + 1]? = some y → adj g x y = true

theorem path_max {g : List Nat} {S v : Nat} (hS : S < 1024) (hv : S.testBit v = true) : ∃ (x : Nat) (l : List Nat), PathL g S (x :: l) ∧ ∀ z, S.testBit z = true → adj g z x = true → z ∈ x :: l := by
  have h1 : PathL g S [v] := ⟨by simp, by simpa using hv, fun i x y _ hy => by simp at hy⟩
  have key : ∀ (d : Nat) (x : Nat) (l : List Nat), PathL g S (x :: l) → (x :: l).length + d = 11 → ∃ (x : Nat) (l : List Nat), PathL g S (x :: l) ∧ ∀ z, S.testBit z = true → adj g z x = true → z ∈ x :: l := by
    intro d
    induction d with
    | zero =>
      intro x l hp hd
      have := len_sub hp.nd fun y hy => (mem_elts hS).2 (hp.on y hy)
      have h10 : (elts S).length ≤ 10 := by unfold elts; exact Nat.le_trans (List.length_filter_le _ _) (by simp)
      omega
    | succ d ih =>
      intro x l hp hd
      by_cases h : ∀ z, S.testBit z = true → adj g z x = true → z ∈ x :: l
      · exact ⟨x, l, hp, h⟩
      · simp only [Classical.not_forall] at h
        obtain ⟨z, hz, hzx, hzl⟩ := h
        refine ih z (x :: l) ⟨List.nodup_cons.2 ⟨hzl, hp.nd⟩, fun y hy => ?_, fun i a b ha hb => ?_⟩ (by simp only [List.length_cons] at hd ⊢; omega)
        · rcases List.mem_cons.1 hy with rfl | hy
          · exact hz
          · exact hp.on y hy
        · cases i with
          | zero =>
            simp at ha hb
            subst ha; subst hb; exact hzx
          | succ i =>
            rw [List.getElem?_cons_succ] at ha hb
            exact hp.ch i a b ha hb
  exact key 10 v [] h1 rfl

/-- Positions of four nodes, one behind the other. -/
theorem four_at : ∀ {l : List Nat} {p q r s : Nat}, [p, q, r, s].Sublist l → ∃ i j k m : Nat, i < j ∧ j < k ∧ k < m ∧ l[i]? = some p ∧ l[j]? = some q ∧ l[k]? = some r ∧ l[m]? = some s := by
  have one : ∀ {l : List Nat} {p : Nat} {t : List Nat}, (p :: t).Sublist l → ∃ i, l[i]? = some p ∧ t.Sublist (l.drop (i + 1)) := by
    intro l
    induction l with
    | nil => intro p t h; cases h
    | cons x l ih =>
      intro p t h
      cases h with
      | cons _ h =>
        obtain ⟨i, h1, h2⟩ := ih h
        exact ⟨i + 1, by simpa using h1, by simpa using h2⟩
      | cons_cons _ h => exact ⟨0, by simp, by simpa using h⟩
  intro l p q r s h
  obtain ⟨i, hi, h⟩ := one h
  obtain ⟨j, hj, h⟩ := one h
  obtain ⟨k, hk, h⟩ := one h
  obtain ⟨m, hm, _⟩ := one h
  rw [List.getElem?_drop] at hj
  rw [List.drop_drop, List.getElem?_drop] at hk
  rw [List.drop_drop, List.drop_drop, List.getElem?_drop] at hm
  exact ⟨i, _, _, _, by omega, by omega, by omega, hi, hj, hk, hm⟩

theorem at_four : ∀ {l : List Nat} {i j k m p q r s : Nat}, i < j → j < k → k < m → l[i]? = some p → l[j]? = some q → l[k]? = some r → l[m]? = some s → [p, q, r, s].Sublist l := by
  have one : ∀ {l : List Nat} {i p : Nat} {t : List Nat}, l[i]? = some p → t.Sublist (l.drop (i + 1)) → (p :: t).Sublist l := by
    intro l
    induction l with
    | nil => intro i p t h; simp at h
    | cons x l ih =>
      intro i p t h ht
      cases i with
      | zero =>
        simp at h ht
        subst h
        exact ht.cons_cons x
      | succ i =>
        simp at h ht
        exact (ih h ht).cons x
  intro l i j k m p q r s h1 h2 h3 hi hj hk hm
  refine one hi (one (i := j - (i + 1)) ?_ (one (i := k - (j + 1)) ?_ (one (i := m - (k + 1)) ?_ (List.nil_sublist _))))
  · rw [List.getElem?_drop]; rw [show i + 1 + (j - (i + 1)) = j by omega]; exact hj
  · rw [List.drop_drop, List.getElem?_drop, show i + 1 + (j - (i + 1) + 1) + (k - (j + 1)) = k by omega]; exact hk
  · rw [List.drop_drop, List.drop_drop, List.getElem?_drop, show i + 1 + (j - (i + 1) + 1 + (k - (j + 1) + 1)) + (m - (k + 1)) = m by omega]; exact hm

theorem sum_tight {α : Type} {f : α → Nat} {m : Nat} : ∀ (l : List α), (∀ x ∈ l, m ≤ f x) → (l.map f).sum = m * l.length → ∀ x ∈ l, f x = m
  | [], _, _ => by simp
  | y :: l, h, hs => by
    have h1 := h y List.mem_cons_self
    have h2 := sum_ge (f := f) (m := m) l fun x hx => h x (List.mem_cons_of_mem _ hx)
    rw [List.map_cons, List.sum_cons, List.length_cons, Nat.mul_add, Nat.mul_one] at hs
    intro x hx
    rcases List.mem_cons.1 hx with rfl | hx
    · omega
    · exact sum_tight l (fun x hx => h x (List.mem_cons_of_mem _ hx)) (by omega) x hx

/-- A set without cut nodes that has as many edges as nodes has an outer order. -/
theorem cycle_out {g : List Nat} (hg : GrN g) {S : Nat} (hS : S < 2 ^ g.length) (hp : 2 < pop S) (hb : Bi g S) (he : ends g S = 2 * pop S) : OutS g S := by
  have hS' : S < 1024 := Nat.lt_of_lt_of_le hS hg.pow
  have hdeg : ∀ v, S.testBit v = true → (elts S).countP (adj g v) = 2 := by
    intro v hv
    refine sum_tight (f := fun v => (elts S).countP (adj g v)) (elts S) (fun x hx => deg_two hS' hp hb hg.irr ((mem_elts hS').1 hx)) ?_ v ((mem_elts hS').2 hv)
    rw [← ends_eq, he, elts_len]
  have no3 : ∀ v x y z, S.testBit v = true → S.testBit x = true → S.testBit y = true → S.testBit z = true → x ≠ y → x ≠ z → y ≠ z → adj g v x = true → adj g v y = true → adj g v z = true → False := by
    intro v x y z hv hx hy hz a b c d e f
    have := three_le hS' hx hy hz a b c d e f
    have := hdeg v hv
    omega
  obtain ⟨v, hv⟩ : ∃ v, S.testBit v = true := by
    refine Classical.byContradiction fun hc => ?_
    have : S = 0 := Nat.eq_of_testBit_eq fun i => by
      rw [Nat.zero_testBit, Bool.eq_false_iff]
      exact fun h => hc ⟨i, h⟩
    subst this
    have : pop 0 = 0 := by decide
    omega
  obtain ⟨x, l, hP, hmax⟩ := path_max (g := g) hS' hv
  have hxS := hP.on x List.mem_cons_self
  generalize hLd : x :: l = L at hP hmax
  have hL0 : L[0]? = some x := by rw [← hLd]; rfl
  have hpos : 0 < L.length := by rw [← hLd]; simp
  have nn := hP.nd
  -- positions of neighbours of x
  have two : ∃ y z, S.testBit y = true ∧ S.testBit z = true ∧ y ≠ z ∧ adj g x y = true ∧ adj g x z = true := by
    have h2 := hdeg x hxS
    rw [List.countP_eq_length_filter] at h2
    match hf : (elts S).filter (adj g x), h2 with
    | [y, z], _ =>
      have hn : ((elts S).filter (adj g x)).Nodup := (elts_nodup S).filter _
      have my : y ∈ (elts S).filter (adj g x) := by rw [hf]; simp
      have mz : z ∈ (elts S).filter (adj g x) := by rw [hf]; simp
      rw [hf] at hn
      rw [List.mem_filter, mem_elts hS'] at my mz
      exact ⟨y, z, my.1, mz.1, by simpa using hn, my.2, mz.2⟩
  have far : ∃ j y, 2 ≤ j ∧ L[j]? = some y ∧ adj g x y = true := by
    obtain ⟨y, z, hy, hz, hyz, ay, az⟩ := two
    obtain ⟨j, hj⟩ := List.mem_iff_getElem?.1 (hmax y hy (by rw [hg.sym]; exact ay))
    obtain ⟨k, hk⟩ := List.mem_iff_getElem?.1 (hmax z hz (by rw [hg.sym]; exact az))
    have hj0 : j ≠ 0 := by
      rintro rfl
      rw [hL0] at hj
      have := Option.some.inj hj
      subst this
      rw [hg.irr] at ay; cases ay
    have hk0 : k ≠ 0 := by
      rintro rfl
      rw [hL0] at hk
      have := Option.some.inj hk
      subst this
      rw [hg.irr] at az; cases az
    have hjk : j ≠ k := by
      rintro rfl
      rw [hj] at hk
      exact hyz (Option.some.inj hk)
    by_cases h : 2 ≤ j
    · exact ⟨j, y, h, hj, ay⟩
    · exact ⟨k, z, by omega, hk, az⟩
  obtain ⟨j, y, hj2, hj, hxy⟩ := far
  have hjl := (List.getElem?_eq_some_iff.1 hj).1
  have inS : ∀ {i u : Nat}, L[i]? = some u → S.testBit u = true := fun h => hP.on _ (List.mem_of_getElem? h)
  -- x's far neighbour is the last one
  have hlast : j + 1 = L.length := by
    refine Classical.byContradiction fun hne => ?_
    have h1 : L[j + 1]? = some L[j + 1] := List.getElem?_eq_getElem (by omega)
    have h2 : L[j - 1]? = some L[j - 1] := List.getElem?_eq_getElem (by omega)
    have c1 := hP.ch j _ _ hj h1
    have c2 := hP.ch (j - 1) _ y h2 (by rw [show j - 1 + 1 = j by omega]; exact hj)
    refine no3 y x L[j - 1] L[j + 1] (inS hj) hxS (inS h2) (inS h1) ?_ ?_ ?_ (by rw [hg.sym]; exact hxy) (by rw [hg.sym]; exact c2) c1
    · intro e
      rw [← e] at h2
      have := nodup_get nn hL0 h2
      omega
    · intro e
      rw [← e] at h1
      have := nodup_get nn hL0 h1
      omega
    · intro e
      rw [e] at h2
      have := nodup_get nn h1 h2
      omega
  -- neighbours
  have nbr : ∀ i u z, L[i]? = some u → S.testBit z = true → adj g u z = true → ∃ k, L[k]? = some z ∧ (k = i + 1 ∨ i = k + 1 ∨ (i = 0 ∧ k = j) ∨ (i = j ∧ k = 0)) := by
    intro i u z hi hz huz
    have hil := (List.getElem?_eq_some_iff.1 hi).1
    by_cases hi0 : i = 0
    · subst hi0
      rw [hL0] at hi
      have := Option.some.inj hi
      subst this
      have h1 : L[1]? = some L[1] := List.getElem?_eq_getElem (by omega)
      by_cases e1 : z = L[1]
      · exact ⟨1, by rw [e1]; exact h1, .inl rfl⟩
      · by_cases e2 : z = y
        · exact ⟨j, by rw [e2]; exact hj, .inr (.inr (.inl ⟨rfl, rfl⟩))⟩
        · exfalso
          refine no3 x z L[1] y hxS hz (inS h1) (inS hj) e1 e2 ?_ huz (hP.ch 0 x _ hL0 h1) hxy
          intro e
          rw [e] at h1
          have := nodup_get nn h1 hj
          omega
    · have h2 : L[i - 1]? = some L[i - 1] := List.getElem?_eq_getElem (by omega)
      have c2 := hP.ch (i - 1) _ u h2 (by rw [show i - 1 + 1 = i by omega]; exact hi)
      rw [hg.sym] at c2
      by_cases e1 : z = L[i - 1]
      · exact ⟨i - 1, by rw [e1]; exact h2, .inr (.inl (by omega))⟩
      · by_cases hij : i = j
        · subst hij
          rw [hj] at hi
          have := Option.some.inj hi
          subst this
          by_cases e2 : z = x
          · exact ⟨0, by rw [e2]; exact hL0, .inr (.inr (.inr ⟨rfl, rfl⟩))⟩
          · exfalso
            refine no3 y z L[i - 1] x (inS hj) hz (inS h2) hxS e1 e2 ?_ huz c2 (by rw [hg.sym]; exact hxy)
            intro e
            rw [e] at h2
            have := nodup_get nn h2 hL0
            omega
        · have h3 : L[i + 1]? = some L[i + 1] := List.getElem?_eq_getElem (by omega)
          have c3 := hP.ch i u _ hi h3
          by_cases e2 : z = L[i + 1]
          · exact ⟨i + 1, by rw [e2]; exact h3, .inl rfl⟩
          · exfalso
            refine no3 u z L[i - 1] L[i + 1] (inS hi) hz (inS h2) (inS h3) e1 e2 ?_ huz c2 c3
            intro e
            rw [e] at h2
            have := nodup_get nn h2 h3
            omega
  refine ⟨L, nn, fun i => ⟨hP.on i, fun hi => ?_⟩, ?_⟩
  · have hr := hb.conn hS' x i hxS hi
    induction hr with
    | base => exact List.mem_of_getElem? hL0
    | @step a b hr hab hbS ih =>
      obtain ⟨k, hk⟩ := List.mem_iff_getElem?.1 (ih (hr.mem hxS))
      obtain ⟨k', hk', _⟩ := nbr k a b hk hi hab
      exact List.mem_of_getElem? hk'
  · intro p q r s hs h1 h2
    obtain ⟨i1, i2, i3, i4, q1, q2, q3, w1, w2, w3, w4⟩ := four_at hs
    have hl4 := (List.getElem?_eq_some_iff.1 w4).1
    obtain ⟨k, hk, hc⟩ := nbr i1 p r w1 (inS w3) h1
    have : k = i3 := nodup_get nn hk w3
    omega

theorem cactus_out {g : List Nat} (hg : GrN g) (h : ∀ b ∈ blocksP g, fatQ g b = false) : OutS g (allN g) := by
  have hpow := hg.pow
  have small : ∀ S, S < 1024 → pop S ≤ 3 → OutS g S := by
    intro S hS hp
    refine ⟨elts S, elts_nodup S, fun i => mem_elts hS, fun p q r s hs _ _ => ?_⟩
    have := hs.length_le
    rw [elts_len] at this
    simp at this
    omega
  refine by_blocks hg (OutS g) (fun b hb => ?_) (fun S T hST => ?_) (small 0 (by omega) (by decide)) (fun v hv => ?_) ?_ (pop (allN g)) (allN g) (Nat.le_refl _) (allN_lt g)
  · have hlt := blocks_lt hb
    by_cases hp : pop b ≤ 2
    · exact small b (by omega) (by omega)
    · rcases block_two hg hb with ⟨v, hv, _, e⟩ | ⟨_, hbi, _, _⟩
      · have hlen := hg.len
        rw [e, pop_two v (by omega)] at hp
        omega
      · have := h b hb
        unfold fatQ at this
        simp only [Bool.and_eq_false_iff, decide_eq_false_iff_not] at this
        exact cycle_out hg hlt (by omega) hbi (by
          rcases this with h1 | h1
          · omega
          · exact Classical.byContradiction h1)
  · rintro ⟨l, hn, hm, ho⟩
    refine ⟨l.filter fun i => S.testBit i, hn.filter _, fun i => ?_, ho.sub List.filter_sublist⟩
    rw [List.mem_filter, hm]
    exact ⟨fun h => h.2, fun hi => ⟨hST i hi, hi⟩⟩
  · have hlen := hg.len
    have : 2 ^ v < 2 ^ g.length := Nat.pow_lt_pow_right (by omega) hv
    refine small _ (by omega) ?_
    rw [pop_two v (by omega)]; omega
  · rintro S A B hAB ⟨w, hw⟩ hne ⟨la, na, ma, oa⟩ ⟨lb, nb', mb, ob⟩
    by_cases hwA : A.testBit w = true ∧ B.testBit w = true
    · obtain ⟨a1, a2, ea⟩ := List.append_of_mem ((ma w).2 hwA.1)
      obtain ⟨b1, b2, eb⟩ := List.append_of_mem ((mb w).2 hwA.2)
      subst ea; subst eb
      have oa' := NX.rot hg.symA a1 (w :: a2) oa
      have ob' := NX.rot hg.symA b1 (w :: b2) ob
      have na' : (w :: (a2 ++ a1)).Nodup := (List.perm_append_comm (l₁ := a1) (l₂ := w :: a2)).nodup_iff.1 na
      have nb'' : (w :: (b2 ++ b1)).Nodup := (List.perm_append_comm (l₁ := b1) (l₂ := w :: b2)).nodup_iff.1 nb'
      have ma' : ∀ i, i ∈ w :: (a2 ++ a1) ↔ A.testBit i = true := fun i => by rw [← ma]; exact (List.perm_append_comm (l₁ := w :: a2) (l₂ := a1)).mem_iff
      have mb' : ∀ i, i ∈ w :: (b2 ++ b1) ↔ B.testBit i = true := fun i => by rw [← mb]; exact (List.perm_append_comm (l₁ := w :: b2) (l₂ := b1)).mem_iff
      rw [List.cons_append] at oa' ob'
      generalize a2 ++ a1 = α at *
      generalize b2 ++ b1 = β at *
      rw [List.nodup_cons] at na' nb''
      have inA : ∀ x ∈ α, A.testBit x = true ∧ B.testBit x = false := by
        intro x hx
        have h1 := (ma' x).1 (List.mem_cons_of_mem _ hx)
        refine ⟨h1, ?_⟩
        rw [Bool.eq_false_iff]
        intro h2
        exact na'.1 (hw x h1 h2 ▸ hx)
      have inB : ∀ x ∈ β, B.testBit x = true ∧ A.testBit x = false := by
        intro x hx
        have h1 := (mb' x).1 (List.mem_cons_of_mem _ hx)
        refine ⟨h1, ?_⟩
        rw [Bool.eq_false_iff]
        intro h2
        exact nb''.1 (hw x h2 h1 ▸ hx)
      refine ⟨w :: (β ++ α), ?_, fun i => ?_, NX.glue hg.symA nb''.1 oa' ob' fun x hx y hy => ?_⟩
      · rw [List.nodup_cons, List.mem_append, List.nodup_append]
        refine ⟨fun h => h.elim nb''.1 na'.1, nb''.2, na'.2, fun x hx y hy e => ?_⟩
        subst e
        have := (inA x hy).2
        rw [(inB x hx).1] at this; cases this
      · rw [List.mem_cons, List.mem_append, hAB, ← ma', ← mb', List.mem_cons, List.mem_cons]
        constructor
        · rintro (h | h | h)
          · exact .inl (.inl h)
          · exact .inr (.inr h)
          · exact .inl (.inr h)
        · rintro ((h | h) | (h | h))
          · exact .inl h
          · exact .inr (.inr h)
          · exact .inl h
          · exact .inr (.inl h)
      · rw [hg.sym]
        exact hne y x (inA y hy).1 (inA y hy).2 (inB x hx).1 (inB x hx).2
    · have dis : ∀ i, A.testBit i = true → B.testBit i = false := by
        intro i hi
        rw [Bool.eq_false_iff]
        intro hB
        have := hw i hi hB
        subst this
        exact hwA ⟨hi, hB⟩
      refine ⟨lb ++ la, ?_, fun i => ?_, NX.glue0 oa ob fun x hx y hy => ?_⟩
      · rw [List.nodup_append]
        refine ⟨nb', na, fun x hx y hy e => ?_⟩
        subst e
        have := dis x ((ma x).1 hy)
        rw [(mb x).1 hx] at this; cases this
      · rw [List.mem_append, ma, mb, hAB, or_comm]
      · rw [hg.sym]
        have hyA := (ma y).1 hy
        have hxB := (mb x).1 hx
        refine hne y x hyA (dis y hyA) hxB ?_
        rw [Bool.eq_false_iff]
        intro h
        have := dis x h
        rw [hxB] at this; cases this

/-! ### Nodes with at most two neighbours -/
theorem chord_min {a : Ad} {l : List Nat} (h : ∃ i k x y, i + 2 ≤ k ∧ l[i]? = some x ∧ l[k]? = some y ∧ a x y = true) :
    ∃ i k x y, i + 2 ≤ k ∧ l[i]? = some x ∧ l[k]? = some y ∧ a x y = true ∧ ∀ i' k' x' y', i' + 2 ≤ k' → l[i']? = some x' → l[k']? = some y' → a x' y' = true → k - i ≤ k' - i' := by
  have key : ∀ (d : Nat), (∃ i k x y, i + 2 ≤ k ∧ k - i ≤ d ∧ l[i]? = some x ∧ l[k]? = some y ∧ a x y = true) → ∃ i k x y, i + 2 ≤ k ∧ l[i]? = some x ∧ l[k]? = some y ∧ a x y = true ∧ ∀ i' k' x' y', i' + 2 ≤ k' → l[i']? = some x' → l[k']? = some y' → a x' y' = true → k - i ≤ k' - i' := by
    intro d
    induction d with
    | zero => rintro ⟨i, k, x, y, h1, h2, _⟩; omega
    | succ d ih =>
      rintro ⟨i, k, x, y, h1, h2, h3, h4, h5⟩
      by_cases hs : ∃ i k x y, i + 2 ≤ k ∧ k - i ≤ d ∧ l[i]? = some x ∧ l[k]? = some y ∧ a x y = true
      · exact ih hs
      · refine ⟨i, k, x, y, h1, h3, h4, h5, fun i' k' x' y' q1 q2 q3 q4 => ?_⟩
        refine Classical.byContradiction fun hc => hs ⟨i', k', x', y', q1, by omega, q2, q3, q4⟩
  obtain ⟨i, k, x, y, h1, h2, h3, h4⟩ := h
  exact key (k - i) ⟨i, k, x, y, h1, Nat.le_refl _, h2, h3, h4⟩

theorem count_two {l : List Nat} (hn : l.Nodup) {p : Nat → Bool} {x y : Nat} (h : ∀ z ∈ l, p z = true → z = x ∨ z = y) : l.countP p ≤ 2 := by
  rw [List.countP_eq_length_filter]
  refine len_sub (m := [x, y]) (hn.filter _) fun z hz => ?_
  have := List.mem_filter.1 hz
  rcases h z this.1 this.2 with rfl | rfl <;> simp

/-- In an outer order there is a node with at most two neighbours. -/
theorem NX.small {a : Ad} (ha : Sym a) {l : List Nat} (hn : l.Nodup) (h : NX a l) (h0 : l ≠ []) : ∃ v ∈ l, l.countP (a v) ≤ 2 := by
  by_cases hc : ∃ i k x y, i + 2 ≤ k ∧ l[i]? = some x ∧ l[k]? = some y ∧ a x y = true
  · obtain ⟨i, k, x, y, h1, h2, h3, h4, hmin⟩ := chord_min hc
    have hkl := (List.getElem?_eq_some_iff.1 h3).1
    have hv : l[i + 1]? = some l[i + 1] := List.getElem?_eq_getElem (by omega)
    have hu : l[i + 2]? = some l[i + 2] := List.getElem?_eq_getElem (by omega)
    refine ⟨l[i + 1], List.mem_of_getElem? hv, count_two hn (x := x) (y := l[i + 2]) fun z hz hvz => ?_⟩
    obtain ⟨j, hj⟩ := List.mem_iff_getElem?.1 hz
    have hji : j ≠ i + 1 := by
      rintro rfl
      rw [hv] at hj
      have := Option.some.inj hj
      rw [← this, ha.irr] at hvz; cases hvz
    rcases Nat.lt_trichotomy j i with hlt | rfl | hgt
    · exfalso
      refine h z x l[i + 1] y (at_four hlt (Nat.lt_succ_self i) (by omega) hj h2 hv h3) (by rw [ha.sym]; exact hvz) h4
    · rw [h2] at hj; exact .inl (Option.some.inj hj).symm
    · by_cases hjk : k < j
      · exfalso
        exact h x l[i + 1] y z (at_four (Nat.lt_succ_self i) (by omega) hjk h2 hv h3 hj) h4 hvz
      · by_cases hj2 : j = i + 2
        · subst hj2
          rw [hu] at hj; exact .inr (Option.some.inj hj).symm
        · have := hmin (i + 1) j _ z (by omega) hv hj hvz
          omega
  · obtain ⟨x, l', rfl⟩ : ∃ x l', l = x :: l' := by
      cases l with
      | nil => exact absurd rfl h0
      | cons x l' => exact ⟨x, l', rfl⟩
    refine ⟨x, List.mem_cons_self, count_two hn (x := (x :: l').getD 1 0) (y := (x :: l').getD 1 0) fun z hz hxz => ?_⟩
    obtain ⟨j, hj⟩ := List.mem_iff_getElem?.1 hz
    by_cases h0' : j = 0
    · subst h0'
      simp at hj
      subst hj
      rw [ha.irr] at hxz; cases hxz
    · by_cases h1 : j = 1
      · subst h1
        left
        rw [List.getD_eq_getElem?_getD, hj]; rfl
      · exact absurd ⟨0, j, x, z, by omega, rfl, hj, hxz⟩ hc

/-- A node with at most two neighbours is taken away. -/
theorem NX.elim {a : Ad} (ha : Sym a) {l1 l2 : List Nat} {v : Nat} (hn : (l1 ++ v :: l2).Nodup) (h : NX a (l1 ++ v :: l2)) (hd : (l1 ++ v :: l2).countP (a v) ≤ 2) : NX (elim a v) (l1 ++ l2) := by
  intro p q r s hs h1 h2
  have hsl : (l1 ++ l2).Sublist (l1 ++ v :: l2) := List.Sublist.append_left (List.sublist_cons_self v l2) l1
  have hn4 : [p, q, r, s].Nodup := hn.sublist (hs.trans hsl)
  simp only [List.nodup_cons, List.mem_cons, List.not_mem_nil, or_false, not_or, List.nodup_nil, not_false_eq_true, and_true] at hn4
  obtain ⟨⟨npq, npr, nps⟩, ⟨nqr, nqs⟩, nrs⟩ := hn4
  unfold Go.AM.elim at h1 h2
  simp only [Bool.or_eq_true, Bool.and_eq_true, decide_eq_true_eq] at h1 h2
  have ins : ∀ m : List Nat, ∀ u t : List Nat, u ++ t = [p, q, r, s] → u.Sublist l1 → t.Sublist l2 → m.Sublist (u ++ v :: t) → m.Sublist (l1 ++ v :: l2) :=
    fun m u t _ hu ht hm => hm.trans (hu.append (ht.cons_cons v))
  obtain ⟨u, t, e, hu, ht⟩ := List.sublist_append_iff.1 hs
  have s4 : ∀ {p q r s : Nat}, [p, q, r, s].Sublist (u ++ v :: t) → a p r = true → a q s = true → False := fun {p q r s} hm => h p q r s (ins _ u t e.symm hu ht hm)
  rcases h1 with h1 | ⟨_, vp, vr⟩
  · rcases h2 with h2 | ⟨_, vq, vs⟩
    · exact h p q r s (hs.trans hsl) h1 h2
    · have qv : a q v = true := by rw [ha.sym]; exact vq
      match u, t, e with
      | [], _, rfl => exact s4 (p := v) (q := p) (r := q) (s := r) (by simp) vq h1
      | [_], [_, _, _], rfl => exact s4 (p := p) (q := v) (r := r) (s := s) (by simp) h1 vs
      | [_, _], [_, _], rfl => exact s4 (p := p) (q := v) (r := r) (s := s) (by simp) h1 vs
      | [_, _, _], [_], rfl => exact s4 (p := p) (q := q) (r := r) (s := v) (by simp) h1 qv
      | [_, _, _, _], [], rfl => exact s4 (p := p) (q := q) (r := r) (s := v) (by simp) h1 qv
      | _ :: _ :: _ :: _ :: _ :: _, _, e => simp at e
  · have rv : a r v = true := by rw [ha.sym]; exact vr
    have pv : a p v = true := by rw [ha.sym]; exact vp
    rcases h2 with h2 | ⟨_, vq, vs⟩
    · match u, t, e with
      | [], _, rfl => exact s4 (p := v) (q := q) (r := r) (s := s) (by simp) vr h2
      | [_], [_, _, _], rfl => exact s4 (p := v) (q := q) (r := r) (s := s) (by simp) vr h2
      | [_, _], [_, _], rfl => exact s4 (p := p) (q := q) (r := v) (s := s) (by simp) pv h2
      | [_, _, _], [_], rfl => exact s4 (p := p) (q := q) (r := v) (s := s) (by simp) pv h2
      | [_, _, _, _], [], rfl => exact s4 (p := q) (q := r) (r := s) (s := v) (by simp) h2 rv
      | _ :: _ :: _ :: _ :: _ :: _, _, e => simp at e
    · rw [List.countP_eq_length_filter] at hd
      have := len_sub (l := [p, q, r, s]) (m := (l1 ++ v :: l2).filter (a v)) (by simp; exact ⟨⟨npq, npr, nps⟩, ⟨nqr, nqs⟩, nrs⟩) fun x hx => by
        rw [List.mem_filter]
        refine ⟨(hs.trans hsl).subset hx, ?_⟩
        simp only [List.mem_cons, List.not_mem_nil, or_false] at hx
        rcases hx with rfl | rfl | rfl | rfl
        · exact vp
        · exact vq
        · exact vr
        · exact vs
      simp only [List.length_cons, List.length_nil] at this
      omega

theorem NX.ow {n : Nat} : ∀ {a : Ad} {l : List Nat}, l.length = n → Sym a → l.Nodup → NX a l → ∃ m : List Nat, m.Perm l ∧ OW a m 2 := by
  induction n with
  | zero =>
    intro a l hl _ _ _
    exact ⟨[], by rw [List.eq_nil_of_length_eq_zero hl], trivial⟩
  | succ n ih =>
    intro a l hl ha hn h
    obtain ⟨v, hv, hd⟩ := h.small ha hn (by rintro rfl; simp at hl)
    obtain ⟨l1, l2, rfl⟩ := List.append_of_mem hv
    have hsl : (l1 ++ l2).Sublist (l1 ++ v :: l2) := List.Sublist.append_left (List.sublist_cons_self v l2) l1
    obtain ⟨m, pm, om⟩ := ih (l := l1 ++ l2) (by simp at hl ⊢; omega) (ha.elim v) (hn.sublist hsl) (NX.elim ha hn h hd)
    refine ⟨v :: m, (List.Perm.cons v pm).trans List.perm_middle.symm, ?_, om⟩
    rw [pm.countP_eq]
    exact Nat.le_trans hsl.countP_le hd

/-- Where there is an outer order the width is at most 2. -/
theorem out_width {g : List Nat} (hg : GrN g) (h : OutS g (allN g)) : wN g (allN g) ≤ 2 := by
  rw [wN_all hg]
  obtain ⟨l, hn, hm, ho⟩ := h
  obtain ⟨m, pm, om⟩ := ho.ow rfl hg.symA hn
  exact ⟨m, pm.nodup_iff.2 hn, fun i => by rw [pm.mem_iff]; exact hm i, om⟩

end Go.AM

end

section

/- Outer orders, as the program finds them. -/
namespace Go.AM
open Go.Proofs
variable {k : Nat} {R : Type}
attribute [local simp] nx_eq nx_new nx_set blk_new blk_set asI_int asK_int asB_bool asP_ptr al_eq bx_eq len_slice onE_exit onE_ret onR_ret Value.cells d3 d22 d23 cell_new cell_set rd_new rd_set off eq lt le ifB gv out
/-- A graph of at most eight nodes. -/
def valid8 (l : List Int) : Bool := validG l && decide (l.length ≤ 8)

theorem valid8_iff {l : List Int} (h : 1 ≤ l.length ∧ l.length ≤ 8) : valid8 l = true ↔ ∀ i x, l[i]? = some x → rowOk l i x = true := by
  unfold valid8
  rw [decide_eq_true h.2, Bool.and_true]
  exact validG_iff ⟨h.1, by omega⟩

set_option maxHeartbeats 1000000 in
/-- The document's test. -/
theorem s35_8 {v : Value} {l : List Int} {h : H} (hs : SlR h 3 1 v (cellsI l)) : rn 35 #[v, iv 8] h = some (.bool (valid8 l), h) := by
  have hlen := hs.lt62
  rw [List.length_map] at hlen
  have hn : ∀ {T : Type} (K : Int → Option T), len v K = K (l.length : Int) := fun K => by rw [hs.len]; simp
  by_cases hl : 1 ≤ l.length ∧ l.length ≤ 8
  · have hni : ∀ i : Nat, nn (i : Int) = fun (z : Option (Ex × List Value × H)) => z := fun i => by funext z; exact nn_ge (by omega) z
    have hb : ∀ a b : Int, AM.and .i64 (shr .i64 a b) 1 = bitI a b := fun _ _ => rfl
    have hle2 : ¬ (8 : Int) < (l.length : Int) := by omega
    have inner := fun (i : Nat) (x : Int) (_ : l[i]? = some x) => lp_all (F := f35_l2 rn 200010 v [.bool false, iv i] x l.length) (k := 200010) (l := l) (h := h) (fun j => [.bool false, iv j])
      (fun j y => decide (bitI x j = bitI y i)) (fun j => [.bool false, iv j]) 2 [.bool false, iv l.length] (ws := [.bool false, iv 0]) rfl (by omega)
      (by simp [f35_l2])
      (by
        intro j y hy
        have hj := (List.getElem?_eq_some_iff.1 hy).1
        have hadd : add .i64 (j : Int) 1 = (j : Int) + 1 := add64 (by omega) (by omega)
        have e1 := fun (K : Value → Option (Ex × List Value × H)) => getL hs hy K
        by_cases hq : bitI x j = bitI y i
        · simp [f35_l2, hj, hni, e1, hb, hq, hadd]
        · simp [f35_l2, hj, hni, e1, hb, hq])
    have hlp := lp_all (F := f35_l1 rn 200010 v 8 l.length) (k := 200010) (l := l) (h := h) (fun i => [.bool false, iv i])
      (fun i x => rowOk l i x) (fun i => [.bool false, iv i]) 0 [.bool false, iv l.length] (ws := [.bool false, iv 0]) rfl (by omega)
      (by simp [f35_l1])
      (by
        intro i x hx
        have hi := (List.getElem?_eq_some_iff.1 hx).1
        have hadd : add .i64 (i : Int) 1 = (i : Int) + 1 := add64 (by omega) (by omega)
        have e1 := fun (K : Value → Option (Ex × List Value × H)) => getL hs hx K
        have hall : rowOk l i x = (!decide (x < 0) && !decide (AM.shl .i64 1 (l.length : Int) ≤ x) && !decide (bitI x i = 1) && (List.range l.length).all fun j => decide (bitI x j = bitI (l.getD j 0) i)) := rfl
        by_cases h1 : x < 0
        · have : rowOk l i x = false := by rw [hall, decide_eq_true h1]; rfl
          simp [f35_l1, hi, e1, hn, hle2, h1, this]
        · by_cases h2 : AM.shl .i64 1 (l.length : Int) ≤ x
          · have : rowOk l i x = false := by rw [hall, decide_eq_true h2]; simp
            simp [f35_l1, hi, e1, hn, hle2, h1, hni, h2, this]
          · by_cases h3 : bitI x i = 1
            · have : rowOk l i x = false := by rw [hall, decide_eq_true h3]; simp
              simp [f35_l1, hi, e1, hn, hle2, h1, hni, h2, hb, h3, this]
            · rcases inner i x hx with ⟨j, y, hy, q2, _, q1⟩ | ⟨q2, q1⟩
              · have : rowOk l i x = false := by
                  have : ((List.range l.length).all fun j => decide (bitI x j = bitI (l.getD j 0) i)) = false := by
                    rw [List.all_eq_false]
                    refine ⟨j, List.mem_range.2 (List.getElem?_eq_some_iff.1 hy).1, ?_⟩
                    rw [show l.getD j 0 = y by simp [List.getD, hy], q2]; simp
                  rw [hall, this]; simp
                have hlq := fun (K : Ex → List Value → H → Option (Ex × List Value × H)) => lp_eq (K := K) q1
                simp [f35_l1, hi, e1, hn, hle2, h1, hni, h2, hb, h3, this, hlq]
              · have : rowOk l i x = true := by
                  have : ((List.range l.length).all fun j => decide (bitI x j = bitI (l.getD j 0) i)) = true := by
                    rw [List.all_eq_true]
                    intro j hj
                    have hj := List.mem_range.1 hj
                    have := q2 j _ (List.getElem?_eq_getElem hj)
                    simpa [List.getD, List.getElem?_eq_getElem hj] using this
                  rw [hall, this, decide_eq_false h1, decide_eq_false h2, decide_eq_false h3]; rfl
                have hlq := fun (K : Ex → List Value → H → Option (Ex × List Value × H)) => lp_eq (K := K) q1
                simp [f35_l1, hi, e1, hn, hle2, h1, hni, h2, hb, h3, this, hlq, hadd])
    rcases hlp with ⟨j, y, hy, q2, _, q1⟩ | ⟨q2, q1⟩
    · have hv : valid8 l = false := by
        rw [Bool.eq_false_iff]
        intro hc
        have := (valid8_iff hl).1 hc j y hy
        rw [this] at q2
        cases q2
      rw [hv]
      exact p35 (k := 200010) (by simp [f35, hn, lp_eq q1]) rfl (.refl _)
    · have hv : valid8 l = true := (valid8_iff hl).2 q2
      rw [hv]
      exact p35 (k := 200010) (by simp [f35, hn, lp_eq q1, show (1 : Int) ≤ (l.length : Int) by omega, show (l.length : Int) ≤ 8 by omega]) rfl (.refl _)
  · have hv : valid8 l = false := by
      unfold valid8 validG
      rw [Bool.eq_false_iff]
      intro hc
      simp only [Bool.and_eq_true, decide_eq_true_iff] at hc
      exact hl ⟨hc.1.1.1, hc.2⟩
    rw [hv]
    cases l with
    | nil =>
      have q1 : lpGo (f35_l1 rn 1 v 8 0) 1 [.bool false, iv 0] h = some (.exit 0, [.bool false, iv 0], h) := lpGo_exit (by simp [f35_l1])
      exact p35 (k := 1) (by simp [f35, hn, lp_eq q1]) rfl (.refl _)
    | cons x l =>
      have hle2 : (8 : Int) < ((x :: l).length : Int) := by simp at hl ⊢; omega
      have hpos : 0 < (x :: l).length := by simp
      have e1 := fun (K : Value → Option (Ex × List Value × H)) => getL hs (i := 0) (x := x) rfl K
      generalize x :: l = l' at *
      have e1' : ∀ (K : Value → Option (Ex × List Value × H)), (six v 0 1 fun b o => (h.cell b o).bind K) = K (iv x) := e1
      have q1 : lpGo (f35_l1 rn 1 v 8 l'.length) 1 [.bool false, iv 0] h = some (.ret, [.bool false, iv 0], h) := lpGo_ret (by simp [f35_l1, hpos, e1', hn, hle2])
      exact p35 (k := 1) (by simp [f35, hn, lp_eq q1]) rfl (.refl _)

theorem s14 {v : Value} {l : List Int} {h : H} (hs : SlR h 3 1 v (cellsI l)) : rn 14 #[v] h = some (.bool (valid8 l), h) := by
  refine p14 (k := 0) ?_ rfl (.refl _)
  unfold f14
  rw [calls_eq (xs := [v, iv 8]) (s35_8 hs), asB_bool]

theorem s46 {v : Value} {l : List Int} {h : H} (hs : SlR h 3 1 v (cellsI l)) : rn 46 #[v, iv 8] h = some (if valid8 l = true then .tuple #[v, .bool true] else .tuple #[.slice none 0 0, .bool false], h) := by
  have hn : ∀ {T : Type} (K : Int → Option T), len v K = K (l.length : Int) := fun K => by rw [hs.len]; simp
  by_cases hl : 1 ≤ l.length ∧ l.length ≤ 8
  · have hni : ∀ i : Nat, nn (i : Int) = fun (z : Option (Ex × List Value × H)) => z := fun i => by funext z; exact nn_ge (by omega) z
    have hb : ∀ a b : Int, AM.and .i64 (shr .i64 a b) 1 = bitI a b := fun _ _ => rfl
    have inner := fun (i : Nat) (x : Int) (_ : l[i]? = some x) => lp_all (F := f46_l2 rn 200010 v l.length [.slice none 0 0, .bool false, iv i] x) (k := 200010) (l := l) (h := h) (fun j => [.slice none 0 0, .bool false, iv j])
      (fun j y => decide (bitI x j = bitI y i)) (fun j => [.slice none 0 0, .bool false, iv j]) 2 [.slice none 0 0, .bool false, iv l.length] (ws := [.slice none 0 0, .bool false, iv 0]) rfl (by omega)
      (by simp [f46_l2])
      (by
        intro j y hy
        have hj := (List.getElem?_eq_some_iff.1 hy).1
        have hadd : add .i64 (j : Int) 1 = (j : Int) + 1 := add64 (by omega) (by omega)
        have e1 := fun (K : Value → Option (Ex × List Value × H)) => getL hs hy K
        by_cases hq : bitI x j = bitI y i
        · simp [f46_l2, hj, hni, e1, hb, hq, hadd]
        · simp [f46_l2, hj, hni, e1, hb, hq])
    have hlp := lp_all (F := f46_l1 rn 200010 v l.length l.length) (k := 200010) (l := l) (h := h) (fun i => [.slice none 0 0, .bool false, iv i])
      (fun i x => rowOk l i x) (fun i => [.slice none 0 0, .bool false, iv i]) 0 [.slice none 0 0, .bool false, iv l.length] (ws := [.slice none 0 0, .bool false, iv 0]) rfl (by omega)
      (by simp [f46_l1])
      (by
        intro i x hx
        have hi := (List.getElem?_eq_some_iff.1 hx).1
        have hadd : add .i64 (i : Int) 1 = (i : Int) + 1 := add64 (by omega) (by omega)
        have e1 := fun (K : Value → Option (Ex × List Value × H)) => getL hs hx K
        have hall : rowOk l i x = (!decide (x < 0) && !decide (AM.shl .i64 1 (l.length : Int) ≤ x) && !decide (bitI x i = 1) && (List.range l.length).all fun j => decide (bitI x j = bitI (l.getD j 0) i)) := rfl
        by_cases h1 : x < 0
        · have : rowOk l i x = false := by rw [hall, decide_eq_true h1]; rfl
          simp [f46_l1, hi, e1, h1, this]
        · by_cases h2 : AM.shl .i64 1 (l.length : Int) ≤ x
          · have : rowOk l i x = false := by rw [hall, decide_eq_true h2]; simp
            simp [f46_l1, hi, e1, h1, hni, h2, this]
          · by_cases h3 : bitI x i = 1
            · have : rowOk l i x = false := by rw [hall, decide_eq_true h3]; simp
              simp [f46_l1, hi, e1, h1, hni, h2, hb, h3, this]
            · rcases inner i x hx with ⟨j, y, hy, q2, _, q1⟩ | ⟨q2, q1⟩
              · have : rowOk l i x = false := by
                  have : ((List.range l.length).all fun j => decide (bitI x j = bitI (l.getD j 0) i)) = false := by
                    rw [List.all_eq_false]
                    refine ⟨j, List.mem_range.2 (List.getElem?_eq_some_iff.1 hy).1, ?_⟩
                    rw [show l.getD j 0 = y by simp [List.getD, hy], q2]; simp
                  rw [hall, this]; simp
                have hlq := fun (K : Ex → List Value → H → Option (Ex × List Value × H)) => lp_eq (K := K) q1
                simp [f46_l1, hi, e1, h1, hni, h2, hb, h3, this, hlq]
              · have : rowOk l i x = true := by
                  have : ((List.range l.length).all fun j => decide (bitI x j = bitI (l.getD j 0) i)) = true := by
                    rw [List.all_eq_true]
                    intro j hj
                    have hj := List.mem_range.1 hj
                    have := q2 j _ (List.getElem?_eq_getElem hj)
                    simpa [List.getD, List.getElem?_eq_getElem hj] using this
                  rw [hall, this, decide_eq_false h1, decide_eq_false h2, decide_eq_false h3]; rfl
                have hlq := fun (K : Ex → List Value → H → Option (Ex × List Value × H)) => lp_eq (K := K) q1
                simp [f46_l1, hi, e1, h1, hni, h2, hb, h3, this, hlq, hadd])
    have hle1 : ¬ (l.length : Int) < 1 := by omega
    have hle2 : ¬ (8 : Int) < (l.length : Int) := by omega
    rcases hlp with ⟨j, y, hy, q2, _, q1⟩ | ⟨q2, q1⟩
    · have hv : valid8 l = false := by
        rw [Bool.eq_false_iff]
        intro hc
        have := (valid8_iff hl).1 hc j y hy
        rw [this] at q2
        cases q2
      rw [hv]
      exact y46 (k := 200010) (by simp [f46, hn, hle1, hle2, lp_eq q1])
    · have hv : valid8 l = true := (valid8_iff hl).2 q2
      rw [hv, if_pos rfl]
      exact y46 (k := 200010) (by simp [f46, hn, hle1, hle2, lp_eq q1])
  · have hv : valid8 l = false := by
      unfold valid8 validG
      rw [Bool.eq_false_iff]
      intro hc
      simp only [Bool.and_eq_true, decide_eq_true_iff] at hc
      exact hl ⟨hc.1.1.1, hc.2⟩
    rw [hv]
    refine y46 (k := 0) ?_
    simp [f46, hn]
    omega

theorem s49 {S : Nat} (hS : S < 1024) (h : H) : ∃ v' h', rn 49 #[iv S] h = some (v', h') ∧ Exw h h' ∧ SlR h' 3 1 v' (cellsN (elts S)) ∧ ∀ q, AM.blkOf v' = some q → h.nx ≤ q := by
  obtain ⟨e, ws', h', hl, rfl, xg, v, w, hap, rfl⟩ := lpGo_inv (F := f49_l1 rn 2000)
    (fun d ws g => Ext h g ∧ ∃ (v : Value) (x : Nat) (L : List Nat), ws = [v, iv x] ∧ d = x ∧ x < 1024 ∧ L ++ elts x = elts S ∧ AqR h.nx g 3 1 v (cellsN L))
    (fun e ws g => e = .exit 0 ∧ Ext h g ∧ ∃ v w, AqR h.nx g 3 1 v (cellsN (elts S)) ∧ ws = [v, w])
    (by
      rintro d ws g ⟨xg, v, x, L, rfl, rfl, hx, hL, hap⟩
      by_cases hx0 : d = 0
      · subst hx0
        rw [elts_zero, List.append_nil] at hL
        subst hL
        exact ⟨.exit 0, [v, iv 0], _, by simp [f49_l1], .inr ⟨by simp, rfl, xg, v, iv 0, hap, rfl⟩⟩
      · have h0 : 0 < d := Nat.pos_of_ne_zero hx0
        obtain ⟨h1, h2⟩ := elts_next h0 hx
        have c89 := fun (K : Value → H → Option (Ex × List Value × H)) => calls_eq (K := K) (xs := [.int .u64 d]) (s79 h0 hx g)
        have hsub : sub .i64 (d : Int) 1 = ((d - 1 : Nat) : Int) := by rw [sub64 (by omega) (by omega)]; omega
        have hand : AM.and .i64 (d : Int) ((d - 1 : Nat) : Int) = ((d &&& (d - 1) : Nat) : Int) := and_nat (by omega) (by omega)
        have hLl : L.length ≤ 10 := by
          have h3 := congrArg List.length hL
          rw [List.length_append, elts_len S] at h3
          have := pop_le_n (Nat.le_refl 10) hS
          omega
        obtain ⟨v', g2, e2, a2, n2, k2, b2, hb2, hb2'⟩ := hap.push app22 app22 (bls22 (low d : Int)) rfl rfl (by simp; omega) xg.nx
        have ee : ∀ (K : Value → H → Option (Ex × List Value × H)), (bls Tryd.prog g 22 1 [(0, iv (low d : Nat))] fun y h2 => app Tryd.prog h2 22 22 v y K) = K v' g2 := fun K => e2 K
        refine ⟨.normal, [v', iv (d &&& (d - 1) : Nat)], g2, ?_, .inl ⟨rfl, d &&& (d - 1), h2, ⟨by have := xg.nx; omega, fun b hb => ?_⟩, v', d &&& (d - 1), L ++ [low d], rfl, rfl, by omega, ?_, ?_⟩⟩
        · unfold f49_l1
          rw [show AM.gv [v, iv d] 1 = iv d from rfl, show AM.gv [v, iv d] 0 = v from rfl, asI_int, show AM.eq (d : Int) 0 = false by simp; omega, show (!false) = true from rfl, ifB_true, asI_int, wr64u hx, c89, asI_int, ee, asI_int, asI_int, hsub, hand]
          rfl
        · rw [k2 b (by have := xg.nx; omega) (fun e => by have := (hap.blkOf e).1; omega)]
          exact xg.blk b hb
        · rw [← hL, h1]; simp
        · have : cellsN (L ++ [low d]) = cellsN L ++ [[iv (low d : Int)]] := by simp
          rw [this]; exact a2)
    S 2000 (by omega) ⟨.refl _, .slice none 0 0, S, [], rfl, rfl, hS, rfl, .nil⟩
  obtain ⟨h2, e2, m2, w2⟩ := x49 (k := 2000) (n0 := S) (h := h) (h1 := h') (v := v) (by
    unfold f49
    exact (lp_eq hl).trans rfl) (by obtain ⟨x, y, z, hz⟩ := hap.isSl; rw [hz]; rfl)
  exact ⟨v, h2, e2, w2 xg, hap.slR.ext m2.ext, fun q hq => (hap.blkOf hq).1⟩

theorem s57 {tv : Value} {g : List Nat} {h : H} (hg : GrB g) (hs : SlR h 3 1 tv (cellsN g)) : rn 57 #[tv] h = some (iv (allN g : Nat), h) := by
  have hlen := hg.len
  refine p57 (k := 0) (h1 := h) ?_ rfl (.refl _)
  unfold f57
  rw [hs.len, List.length_map, nn_ge (by omega), shl_all hlen]
  rfl

end Go.AM

end

section

/- The search for an outer order. -/
namespace Go.AM
open Go.Proofs
variable {k : Nat} {R : Type}
attribute [local simp] nx_eq nx_new nx_set blk_new blk_set asI_int asK_int asB_bool asP_ptr al_eq bx_eq len_slice onE_exit onE_ret onR_ret Value.cells d3 d22 d23 cell_new cell_set rd_new rd_set off eq lt le ifB gv out
/-- Does an edge to a node behind a row cross an edge within it? -/
def hitB (g L : List Nat) (j : Nat) : Bool := (List.range j).any fun i => (List.range (L.length - (j + 1))).any fun k => adj g (L.getD i 0) (L.getD (j + 1 + k) 0)

def crossB (g L : List Nat) (w : Nat) : Bool := (List.range L.length).any fun j => adj g (L.getD j 0) w && hitB g L j

theorem getD_of {L : List Nat} {j x : Nat} (h : L[j]? = some x) : L.getD j 0 = x := by rw [List.getD_eq_getElem?_getD, h]; rfl

theorem get_of {L : List Nat} {j : Nat} (h : j < L.length) : L[j]? = some (L.getD j 0) := by rw [List.getD_eq_getElem?_getD, List.getElem?_eq_getElem h]; rfl

theorem cross_iff {g L : List Nat} {w : Nat} : crossB g L w = true ↔ ∃ i j k, i < j ∧ j < k ∧ k < L.length ∧ adj g (L.getD i 0) (L.getD k 0) = true ∧ adj g (L.getD j 0) w = true := by
  unfold crossB hitB
  simp only [List.any_eq_true, List.mem_range, Bool.and_eq_true]
  constructor
  · rintro ⟨j, hj, h1, i, hi, k, hk, h2⟩
    exact ⟨i, j, j + 1 + k, hi, by omega, by omega, h2, h1⟩
  · rintro ⟨i, j, k, h1, h2, h3, h4, h5⟩
    exact ⟨j, by omega, h5, i, h1, k - (j + 1), by omega, by rw [show j + 1 + (k - (j + 1)) = k by omega]; exact h4⟩

theorem nx_snoc {g L : List Nat} {w : Nat} : NX (adj g) (L ++ [w]) ↔ NX (adj g) L ∧ crossB g L w = false := by
  constructor
  · intro h
    refine ⟨h.sub (List.sublist_append_left _ _), ?_⟩
    rw [Bool.eq_false_iff]
    intro hc
    obtain ⟨i, j, k, h1, h2, h3, h4, h5⟩ := cross_iff.1 hc
    have at_ : ∀ {i : Nat}, i < L.length → (L ++ [w])[i]? = some (L.getD i 0) := fun hi => by rw [List.getElem?_append_left hi]; exact get_of hi
    exact h _ _ _ _ (at_four h1 h2 h3 (at_ (by omega)) (at_ (by omega)) (at_ h3) (by simp)) h4 h5
  · rintro ⟨h, hc⟩ p q r s hs e1 e2
    obtain ⟨i, j, k, m, h1, h2, h3, w1, w2, w3, w4⟩ := four_at hs
    have hm := (List.getElem?_eq_some_iff.1 w4).1
    rw [List.length_append, List.length_singleton] at hm
    have lo_ : ∀ {i x : Nat}, i < L.length → (L ++ [w])[i]? = some x → L[i]? = some x := fun hi hx => by rwa [List.getElem?_append_left hi] at hx
    by_cases hml : m < L.length
    · exact h p q r s (at_four h1 h2 h3 (lo_ (by omega) w1) (lo_ (by omega) w2) (lo_ (by omega) w3) (lo_ hml w4)) e1 e2
    · have hmL : m = L.length := by omega
      subst hmL
      have : s = w := by simpa using w4.symm
      subst this
      rw [Bool.eq_false_iff] at hc
      refine hc (cross_iff.2 ⟨i, j, k, h1, h2, h3, ?_, ?_⟩)
      · rw [getD_of (lo_ (by omega) w1), getD_of (lo_ h3 w3)]; exact e1
      · rw [getD_of (lo_ (by omega) w2)]; exact e2

theorem s92 {tv lv : Value} {g L : List Nat} {w : Nat} {h : H} (hg : GrB g) (hs : SlR h 3 1 tv (cellsN g)) (hL : SlR h 3 1 lv (cellsN (L ++ [w]))) (hlt : ∀ x ∈ L ++ [w], x < g.length) (hl : L.length ≤ 20) :
    rn 92 #[tv, lv] h = some (.bool (crossB g L w), h) := by
  have hlen := hg.len
  have hpow := hg.pow
  have hn : ∀ {T : Type} (K : Int → Option T), len lv K = K ((L.length : Int) + 1) := fun K => by rw [hL.len]; simp
  have hsub : sub .i64 ((L.length : Int) + 1) 1 = (L.length : Int) := by rw [sub64 (by omega) (by omega)]; omega
  obtain ⟨v2, s2, e2⟩ := hL.take (i := (L.length : Int)) under22 sz3 (by omega) (by simp; omega)
  rw [Int.toNat_natCast, ← List.map_take, List.take_left' rfl] at s2
  have hn2 : ∀ {T : Type} (K : Int → Option T), len v2 K = K (L.length : Int) := fun K => by rw [s2.len]; simp
  have atL : ∀ {i x : Nat}, L[i]? = some x → ∀ (K : Value → Option (Ex × List Value × H)), (six lv (i : Int) 1 fun b o => (h.cell b o).bind K) = K (iv x) := fun {i x} hx K => by
    have := (List.getElem?_eq_some_iff.1 hx).1
    exact hL.c0 (by omega) (x := [iv x]) (by rw [Int.toNat_natCast, List.getElem?_map, List.getElem?_append_left this, hx]; rfl) rfl K
  have atW : ∀ (K : Value → Option (Ex × List Value × H)), (six lv (L.length : Int) 1 fun b o => (h.cell b o).bind K) = K (iv w) := fun K =>
    hL.c0 (by omega) (x := [iv w]) (by rw [Int.toNat_natCast]; simp) rfl K
  have at2 : ∀ {i x : Nat}, L[i]? = some x → ∀ (K : Value → Option (Ex × List Value × H)), (six v2 (i : Int) 1 fun b o => (h.cell b o).bind K) = K (iv x) := fun {i x} hx K => s2.c0 (by omega) (x := [iv x]) (by simp [hx]) rfl K
  have ltL : ∀ {i x : Nat}, L[i]? = some x → x < g.length := fun hx => hlt _ (List.mem_append.2 (.inl (List.mem_of_getElem? hx)))
  have hwl : w < g.length := hlt _ (List.mem_append.2 (.inr List.mem_cons_self))
  have hb : ∀ x y : Nat, y < g.length → AM.and .i64 (shr .i64 ((nb g x : Nat) : Int) (y : Int)) 1 = if adj g x y then 1 else 0 := fun x y hy => by
    have := hg.nb_lt x
    exact bit_nat (by omega) (by omega)
  have atg : ∀ {x : Nat}, x < g.length → ∀ (K : Value → Option (Ex × List Value × H)), (six tv (x : Int) 1 fun b o => (h.cell b o).bind K) = K (iv (nb g x : Nat)) := fun hx K => getN hs hx K
  -- the third loop
  have l3 : ∀ (j i : Nat) (x : Nat), L[i]? = some x → j < L.length → ∃ u, lpGo (f92_l3 rn 2000 tv lv ((L.length : Int) + 1) [.bool false, iv i]) 2000 [.bool false, iv ((j + 1 : Nat) : Int)] h =
      some (if ((List.range (L.length - (j + 1))).any fun k => adj g x (L.getD (j + 1 + k) 0)) = true then (.ret, [.bool true, u], h) else (.exit 4, [.bool false, u], h)) := by
    intro j i x hx hj
    have := lp_all (F := f92_l3 rn 2000 tv lv ((L.length : Int) + 1) [.bool false, iv i]) (k := 2000) (l := List.range (L.length - (j + 1))) (h := h) (fun k => [.bool false, iv ((j + 1 + k : Nat) : Int)])
      (fun _ k => !adj g x (L.getD (j + 1 + k) 0)) (fun k => [.bool true, iv ((j + 1 + k : Nat) : Int)]) 4 [.bool false, iv L.length] (ws := [.bool false, iv ((j + 1 : Nat) : Int)]) rfl (by simp; omega)
      (by
        rw [List.length_range, show j + 1 + (L.length - (j + 1)) = L.length by omega]
        unfold f92_l3
        rw [show gv [Value.bool false, iv (L.length : Int)] 1 = iv L.length from rfl, asI_int, hsub, lt_f (by omega), ifB_false]
        rfl)
      (by
        intro k y hk
        have hkl := (List.getElem?_eq_some_iff.1 hk).1
        rw [List.length_range] at hkl
        have hky : y = k := by rw [List.getElem?_range hkl] at hk; exact (Option.some.inj hk).symm
        subst hky
        have hadd : add .i64 ((j + 1 + y : Nat) : Int) 1 = ((j + 1 + (y + 1) : Nat) : Int) := by rw [add64 (by omega) (by omega)]; omega
        have hz := get_of (L := L) (j := j + 1 + y) (by omega)
        unfold f92_l3
        simp only [d3]
        rw [show gv [Value.bool false, iv ((j + 1 + y : Nat) : Int)] 1 = iv ((j + 1 + y : Nat) : Int) from rfl, asI_int, hsub, lt_t (by omega), ifB_true, show gv [Value.bool false, iv (i : Int)] 1 = iv i from rfl, asK_int, atL hx, asI_int, atg (ltL hx), asI_int, asK_int, atL hz, asI_int, nn_ge (by omega), hb _ _ (ltL hz)]
        by_cases hq : adj g x (L.getD (j + 1 + y) 0) = true
        · rw [if_pos hq, hq, show AM.eq 1 1 = true from rfl, ifB_true]; rfl
        · rw [if_neg hq, show AM.eq 0 1 = false from rfl, ifB_false, asI_int, hadd, show adj g x (L.getD (j + 1 + y) 0) = false by simpa using hq]; rfl)
    rcases this with ⟨k, y, hy, q2, _, q1⟩ | ⟨q2, q1⟩
    · have hkl := (List.getElem?_eq_some_iff.1 hy).1
      rw [List.length_range] at hkl
      have hky : y = k := by rw [List.getElem?_range hkl] at hy; exact (Option.some.inj hy).symm
      subst hky
      refine ⟨iv ((j + 1 + y : Nat) : Int), q1.trans ?_⟩
      rw [if_pos]
      rw [List.any_eq_true]
      exact ⟨y, List.mem_range.2 hkl, by simpa using q2⟩
    · refine ⟨iv (L.length : Int), q1.trans ?_⟩
      rw [if_neg]
      rw [List.any_eq_true]
      rintro ⟨y, hy, hq⟩
      have := q2 y y (by rw [List.getElem?_range (List.mem_range.1 hy)])
      rw [hq] at this; cases this
  -- the second loop
  have l2 : ∀ (j : Nat) (z : Value), j < L.length → ∃ u, lpGo (f92_l2 rn 2000 tv lv ((L.length : Int) + 1) [z, iv j]) 2000 [.bool false, iv 0] h =
      some (if hitB g L j = true then (.ret, [.bool true, u], h) else (.exit 2, [.bool false, u], h)) := by
    intro j z hj
    have := lp_all (F := f92_l2 rn 2000 tv lv ((L.length : Int) + 1) [z, iv j]) (k := 2000) (l := List.range j) (h := h) (fun i => [.bool false, iv i])
      (fun _ i => !((List.range (L.length - (j + 1))).any fun k => adj g (L.getD i 0) (L.getD (j + 1 + k) 0))) (fun i => [.bool true, iv i]) 2 [.bool false, iv j] (ws := [.bool false, iv 0]) rfl (by simp; omega)
      (by
        rw [List.length_range]
        unfold f92_l2
        rw [show gv [Value.bool false, iv (j : Int)] 1 = iv j from rfl, show gv [z, iv (j : Int)] 1 = iv j from rfl, asI_int, asI_int, lt_f (by omega), ifB_false]
        rfl)
      (by
        intro i y hi
        have hil := (List.getElem?_eq_some_iff.1 hi).1
        rw [List.length_range] at hil
        have hiy : y = i := by rw [List.getElem?_range hil] at hi; exact (Option.some.inj hi).symm
        subst hiy
        have hadd : add .i64 (y : Int) 1 = ((y + 1 : Nat) : Int) := by rw [add64 (by omega) (by omega)]; omega
        have hadd2 : add .i64 (j : Int) 1 = ((j + 1 : Nat) : Int) := by rw [add64 (by omega) (by omega)]; omega
        obtain ⟨u, hu⟩ := l3 j y (L.getD y 0) (get_of (by omega)) hj
        unfold f92_l2
        rw [show gv [Value.bool false, iv (y : Int)] 1 = iv y from rfl, show gv [z, iv (j : Int)] 1 = iv j from rfl, asI_int, asI_int, lt_t (by omega), ifB_true, asI_int, hadd2, show gv [Value.bool false, iv (y : Int)] 0 = .bool false from rfl]
        by_cases hq : ((List.range (L.length - (j + 1))).any fun k => adj g (L.getD y 0) (L.getD (j + 1 + k) 0)) = true
        · rw [if_pos hq] at hu
          rw [lp_eq hu, onE_ret, onR_ret, hq]; rfl
        · rw [if_neg hq] at hu
          rw [lp_eq hu, onE_exit, if_pos rfl, asI_int, hadd]
          simp only [Bool.not_eq_true] at hq
          rw [hq]; rfl)
    rcases this with ⟨k, y, hy, q2, _, q1⟩ | ⟨q2, q1⟩
    · have hkl := (List.getElem?_eq_some_iff.1 hy).1
      rw [List.length_range] at hkl
      have hky : y = k := by rw [List.getElem?_range hkl] at hy; exact (Option.some.inj hy).symm
      subst hky
      refine ⟨iv (y : Int), q1.trans ?_⟩
      rw [if_pos]
      unfold hitB
      rw [List.any_eq_true]
      exact ⟨y, List.mem_range.2 hkl, by simpa using q2⟩
    · refine ⟨iv (j : Int), q1.trans ?_⟩
      rw [if_neg]
      unfold hitB
      rw [List.any_eq_true]
      rintro ⟨y, hy, hq⟩
      have := q2 y y (by rw [List.getElem?_range (List.mem_range.1 hy)])
      rw [hq] at this; cases this
  have l1 := lp_all (F := f92_l1 rn 2000 tv lv ((L.length : Int) + 1) v2 L.length) (k := 2000) (l := L) (h := h) (fun j => [.bool false, iv j])
      (fun j y => !(adj g y w && hitB g L j)) (fun j => [.bool true, iv j]) 0 [.bool false, iv L.length] (ws := [.bool false, iv 0]) rfl (by omega)
      (by
        unfold f92_l1
        rw [show gv [Value.bool false, iv (L.length : Int)] 1 = iv L.length from rfl, asI_int, lt_f (by omega), ifB_false]
        rfl)
      (by
        intro j y hj
        have hjl := (List.getElem?_eq_some_iff.1 hj).1
        have hadd : add .i64 (j : Int) 1 = ((j + 1 : Nat) : Int) := by rw [add64 (by omega) (by omega)]; omega
        obtain ⟨u, hu⟩ := l2 j (.bool false) hjl
        unfold f92_l1
        simp only [d3]
        rw [show gv [Value.bool false, iv (j : Int)] 1 = iv j from rfl, asI_int, lt_t (by omega), ifB_true, asK_int, at2 hj, asI_int, atg (ltL hj), asI_int, hsub, atW, asI_int, nn_ge (by omega), hb _ _ hwl]
        by_cases hq : adj g y w = true
        · rw [if_pos hq, show AM.eq 1 0 = false from rfl, ifB_false, show gv [Value.bool false, iv (j : Int)] 0 = .bool false from rfl, hq, Bool.true_and]
          by_cases hh : hitB g L j = true
          · rw [if_pos hh] at hu
            rw [lp_eq hu, onE_ret, onR_ret, hh]; rfl
          · rw [if_neg hh] at hu
            rw [lp_eq hu, onE_exit, if_pos rfl, asI_int, hadd, show hitB g L j = false by simpa using hh]; rfl
        · rw [if_neg hq, show AM.eq 0 0 = true from rfl, ifB_true, asI_int, hadd, show adj g y w = false by simpa using hq]; rfl)
  refine p92 (k := 2000) (h1 := h) ?_ rfl (.refl _)
  unfold f92
  rw [hn, hsub, e2, hn2]
  rcases l1 with ⟨j, y, hy, q2, _, q1⟩ | ⟨q2, q1⟩
  · have : crossB g L w = true := by
      unfold crossB
      rw [List.any_eq_true]
      refine ⟨j, List.mem_range.2 (List.getElem?_eq_some_iff.1 hy).1, ?_⟩
      rw [getD_of hy]
      simpa using q2
    rw [lp_eq q1, onE_ret, onR_ret, this]; rfl
  · have : crossB g L w = false := by
      rw [Bool.eq_false_iff]
      unfold crossB
      rw [ne_eq, List.any_eq_true]
      rintro ⟨j, hj, hq⟩
      have := q2 j _ (get_of (List.mem_range.1 hj))
      rw [hq] at this; cases this
    rw [lp_eq q1, onE_exit, if_pos rfl, this]

/-! ### The search -/
/-- What the search holds. -/
structure OS (lo : Nat) (tv : Value) (g : List Nat) (lb tb gb : Nat) (l : List Nat) (lv : Value) (h : H) : Prop where
  lo_ : lo ≤ h.nx
  ts : SlR h 3 1 tv (cellsN g)
  tlo : ∀ b, blkOf tv = some b → b < lo
  hlb : lo ≤ lb ∧ lb < h.nx ∧ h.blk lb = some (.row [lv] 22 true)
  htb : lo ≤ tb ∧ tb < h.nx ∧ h.blk tb = some (.row [tv] 84 true)
  hgb : lo ≤ gb ∧ gb < h.nx ∧ h.blk gb = some (.row [.func (.func 91) #[] #[pt lb 0, pt tb 0, pt gb 0]] 82 true)
  lq : WqR lo h 3 1 lv (cellsN l)

section
variable {lo : Nat} {tv lv : Value} {g : List Nat} {lb tb gb : Nat} {l : List Nat} {h : H}
theorem OS.wne (s : OS lo tv g lb tb gb l lv h) {b : Nat} (hb : blkOf lv = some b) : lo ≤ b ∧ b < h.nx ∧ b ≠ lb ∧ b ≠ tb ∧ b ≠ gb := by
  obtain ⟨h1, h2, c, h3⟩ := s.lq.blkOf hb
  refine ⟨h1, h2, ?_, ?_, ?_⟩
  · rintro rfl; have := s.hlb.2.2; rw [h3] at this; simp at this
  · rintro rfl; have := s.htb.2.2; rw [h3] at this; simp at this
  · rintro rfl; have := s.hgb.2.2; rw [h3] at this; simp at this

theorem OS.ne (s : OS lo tv g lb tb gb l lv h) : lb ≠ tb ∧ lb ≠ gb := by
  constructor
  · rintro rfl; have := s.htb.2.2; rw [s.hlb.2.2] at this; simp at this
  · rintro rfl; have := s.hgb.2.2; rw [s.hlb.2.2] at this; simp at this

theorem OS.turn (s : OS lo tv g lb tb gb l lv h) {h' : H} {l' : List Nat} {lv' : Value} (hn : h.nx ≤ h'.nx) (hf : ∀ b, b < h.nx → b ≠ lb → blkOf lv ≠ some b → h'.blk b = h.blk b)
    (hl : h'.blk lb = some (.row [lv'] 22 true)) (ha : WqR lo h' 3 1 lv' (cellsN l')) : OS lo tv g lb tb gb l' lv' h' := by
  have := s.lo_
  refine ⟨Nat.le_trans s.lo_ hn, s.ts.keepB hn fun b e => ?_, s.tlo, ⟨s.hlb.1, Nat.lt_of_lt_of_le s.hlb.2.1 hn, hl⟩, ⟨s.htb.1, Nat.lt_of_lt_of_le s.htb.2.1 hn, ?_⟩, ⟨s.hgb.1, Nat.lt_of_lt_of_le s.hgb.2.1 hn, ?_⟩, ha⟩
  · have hb := s.tlo b e
    exact hf b (by omega) (by have := s.hlb.1; omega) (fun e => by have := (s.wne e).1; omega)
  · exact (hf tb s.htb.2.1 (Ne.symm s.ne.1) (fun e => (s.wne e).2.2.2.1 rfl)).trans s.htb.2.2
  · exact (hf gb s.hgb.2.1 (Ne.symm s.ne.2) (fun e => (s.wne e).2.2.2.2 rfl)).trans s.hgb.2.2

theorem OS.ext (s : OS lo tv g lb tb gb l lv h) {h' : H} (x : Ext h h') : OS lo tv g lb tb gb l lv h' :=
  s.turn x.nx (fun b hb _ _ => x.blk b hb) ((x.blk _ s.hlb.2.1).trans s.hlb.2.2) (s.lq.keep x.nx fun b hb => x.blk b (s.lq.blkOf hb).2.1)

/-- Nothing old is turned but the cell of the slice, and its row. -/
structure FO (lb : Nat) (h : H) (lv : Value) (h' : H) (lv' : Value) : Prop where
  nx : h.nx ≤ h'.nx
  fr : ∀ b, b < h.nx → b ≠ lb → blkOf lv ≠ some b → h'.blk b = h.blk b
  wb : ∀ b, blkOf lv' = some b → h.nx ≤ b ∨ blkOf lv = some b

theorem FO.refl (lb : Nat) (h : H) (lv : Value) : FO lb h lv h lv := ⟨Nat.le_refl _, fun _ _ _ _ => rfl, fun _ h => .inr h⟩

theorem FO.ofExt {lb : Nat} {h h' : H} (lv : Value) (x : Ext h h') : FO lb h lv h' lv := ⟨x.nx, fun b hb _ _ => x.blk b hb, fun _ h => .inr h⟩

theorem FO.trans {lb : Nat} {h h' h2 : H} {lv lv' lv2 : Value} (a : FO lb h lv h' lv') (b : FO lb h' lv' h2 lv2) : FO lb h lv h2 lv2 := by
  have n1 := a.nx
  refine ⟨Nat.le_trans a.nx b.nx, fun i hi h1 h3 => ?_, fun i hi => ?_⟩
  · rw [b.fr i (by omega) h1 (fun e => ?_), a.fr i hi h1 h3]
    rcases a.wb i e with h | h
    · omega
    · exact h3 h
  · rcases b.wb i hi with h | h
    · exact .inl (by omega)
    · exact a.wb i h

/-- One node more. -/
theorem OS.push (s : OS lo tv g lb tb gb l lv h) (x : Nat) (hl : l.length ≤ 20) : ∃ v7 h4 h5, (∀ {R : Type} (K : Value → H → Option R), (bls Tryd.prog h 22 1 [(0, iv x)] fun y h2 => app Tryd.prog h2 22 22 lv y K) = K v7 h4) ∧
    wrc 1 h4 lb 0 v7 = some h5 ∧ OS lo tv g lb tb gb (l ++ [x]) v7 h5 ∧ FO lb h lv h5 v7 := by
  obtain ⟨v7, h4, e4, a4, n4, k4, b4, hb4, hb4'⟩ := s.lq.push app22 app22 (bls22 (x : Int)) rfl rfl (by simp; omega) s.lo_
  have hlb4 : h4.blk lb = some (.row [lv] 22 true) := (k4 lb s.hlb.2.1 (fun e => (s.wne e).2.2.1 rfl)).trans s.hlb.2.2
  have hw : wrc 1 h4 lb 0 v7 = some (h4.set lb (.row [v7] 22 true)) := by rw [wrc_one hlb4 a4.cells.1 a4.cells.2 (by simp)]; rfl
  have ha : WqR lo (h4.set lb (.row [v7] 22 true)) 3 1 v7 (cellsN (l ++ [x])) := by
    have := a4.keep (h' := h4.set lb (.row [v7] 22 true)) (Nat.le_refl _) fun b hb => blk_set_ne _ _ _ (fun e => by
      subst e
      obtain ⟨_, _, c', h5⟩ := a4.blkOf hb
      rw [hlb4] at h5
      simp at h5)
    simpa using this
  have hf : ∀ b, b < h.nx → b ≠ lb → blkOf lv ≠ some b → (h4.set lb (.row [v7] 22 true)).blk b = h.blk b := fun b h1 h2 h3 => by rw [blk_set_ne _ _ _ h2]; exact k4 b h1 h3
  refine ⟨v7, h4, _, e4, hw, s.turn n4 hf (blk_set_self _ _ _) ha, n4, hf, fun b hb => ?_⟩
  rw [hb4] at hb
  cases hb
  exact hb4'

/-- And without it again. -/
theorem OS.pop {x : Nat} (s : OS lo tv g lb tb gb (l ++ [x]) lv h) (hl : l.length ≤ 20) : ∃ v' h', (∀ {R : Type} (K : Value → Option R), (len lv fun n => sli Tryd.prog h 22 lv none (some (.int .i64 (sub .i64 n 1))) none K) = K v') ∧
    wrc 1 h lb 0 v' = some h' ∧ OS lo tv g lb tb gb l v' h' ∧ FO lb h lv h' v' := by
  have hway : WqR lo h 3 1 lv (cellsN l ++ [[iv (x : Int)]]) := by simpa using s.lq
  obtain ⟨v', e', a', b'⟩ := hway.pop under22 sz3
  refine ⟨v', h.set lb (.row [v'] 22 true), fun K => ?_, by rw [wrc_one s.hlb.2.2 a'.cells.1 a'.cells.2 (by simp)]; rfl, ?_, Nat.le_refl _, fun b _ hb _ => blk_set_ne _ _ _ hb, fun b hb => .inr (b' ▸ hb)⟩
  · rw [hway.slR.len]
    have : sub .i64 (((cellsN l ++ [[iv (x : Int)]]).length : Nat) : Int) 1 = ((cellsN l).length : Int) := by
      simp only [List.length_append, List.length_map, List.length_cons, List.length_nil]
      rw [sub64 (by omega) (by omega)]; omega
    rw [this]
    exact e' K
  · exact s.turn (Nat.le_refl _) (fun b h1 h2 _ => blk_set_ne _ _ _ h2) (blk_set_self _ _ _) (a'.keep (Nat.le_refl _) fun b hb => blk_set_ne _ _ _ (fun e => by
      subst e
      obtain ⟨_, _, c', h5⟩ := a'.blkOf hb
      rw [s.hlb.2.2] at h5
      simp at h5))

/-- A call's heap, cut back. -/
theorem OS.trunc {h1 : H} {l' : List Nat} {lv' v : Value} (s : OS lo tv g lb tb gb l lv h) (s1 : OS lo tv g lb tb gb l' lv' h1) (f : FO lb h lv h1 lv') :
    OS lo tv g lb tb gb l' lv' (AM.trunc Tryd.prog h h1 v) ∧ FO lb h lv (AM.trunc Tryd.prog h h1 v) lv' := by
  obtain ⟨q1, q2, q3⟩ := trunc_blk (P := Tryd.prog) (v := v) f.nx
  refine ⟨?_, q1, fun b hb h1 h2 => (q3 b hb).trans (f.fr b hb h1 h2), f.wb⟩
  unfold AM.trunc
  by_cases hu : ∀ b, b < h.nx → h1.blk b = h.blk b
  · rw [if_pos hu]
    split
    · -- nothing old was turned: the slice is the same one
      have e : lv' = lv := by
        have h1 := s1.hlb.2.2
        rw [hu lb s.hlb.2.1, s.hlb.2.2] at h1
        simpa using h1.symm
      subst e
      refine ⟨s.lo_, s.ts, s.tlo, s.hlb, s.htb, s.hgb, ?_⟩
      have a := s1.lq
      generalize cellsN l' = c' at a
      cases a with
      | nil => exact .nil
      | @at_ b c m l0 junk hlo hb hr hx hm hj hc =>
        have hbn : b < h.nx := (s.lq.blkOf (b := b) rfl).2.1
        exact .at_ hlo hbn ((hu b hbn).symm.trans hr) hx hm hj hc
    · exact s1.ext ⟨Nat.le_refl _, fun _ _ => rfl⟩
  · rw [if_neg hu]; exact s1

end
/-- The rest of an order. -/
def Fits (g l : List Nat) (left : Nat) (m : List Nat) : Prop := m.Nodup ∧ (∀ i, i ∈ m ↔ left.testBit i = true) ∧ NX (adj g) (l ++ m)

theorem s91 {lo : Nat} {tv : Value} {g : List Nat} {lb tb gb : Nat} (hg : GrB g) : ∀ (n left : Nat) (l : List Nat) (lv : Value) (h : H), pop left ≤ n → left < 2 ^ g.length → l.length + n ≤ 20 → (∀ x ∈ l, x < g.length) → NX (adj g) l → OS lo tv g lb tb gb l lv h →
    ∃ h' r lv', rn 91 #[iv left, pt lb 0, pt tb 0, pt gb 0] h = some (.bool r, h') ∧ FO lb h lv h' lv' ∧
      ((r = true ∧ ∃ m, Fits g l left m ∧ OS lo tv g lb tb gb (l ++ m) lv' h') ∨ (r = false ∧ (∀ m, ¬ Fits g l left m) ∧ OS lo tv g lb tb gb l lv' h')) := by
  have hlen := hg.len
  have hpow := hg.pow
  intro n
  have zero : ∀ (l : List Nat) (lv : Value) (h : H), NX (adj g) l → OS lo tv g lb tb gb l lv h → ∃ h' r lv', rn 91 #[iv (0 : Nat), pt lb 0, pt tb 0, pt gb 0] h = some (.bool r, h') ∧ FO lb h lv h' lv' ∧
      ((r = true ∧ ∃ m, Fits g l 0 m ∧ OS lo tv g lb tb gb (l ++ m) lv' h') ∨ (r = false ∧ (∀ m, ¬ Fits g l 0 m) ∧ OS lo tv g lb tb gb l lv' h')) := fun l lv h hnx s =>
    ⟨h, true, lv, y91 (k := 0) (by unfold f91; rfl), .refl _ _ _, .inl ⟨rfl, [], ⟨.nil, by simp, by simpa using hnx⟩, by simpa using s⟩⟩
  induction n with
  | zero =>
    intro left l lv h hp hleft hl hlx hnx s
    have h0 : left = 0 := pop_zero' (by omega) (by omega)
    subst h0
    exact zero l lv h hnx s
  | succ n ih =>
    intro left l lv h hp hleft hl hlx hnx s
    by_cases h0 : left = 0
    · subst h0
      exact zero l lv h hnx s
    · have hleft' : left < 1024 := by omega
      obtain ⟨nv, h1, e49, x1, hn1, hnq⟩ := s49 hleft' h
      have hnl : ∀ {T : Type} (K : Int → Option T), len nv K = K ((elts left).length : Int) := fun K => by rw [hn1.len]; simp
      have hpl : (elts left).length ≤ 10 := by rw [elts_len]; exact pop_le_n (Nat.le_refl 10) hleft'
      have s1 := s.ext x1.toExt
      have hbel : ∀ {v : Value} {L : List (List Value)} {b : Nat}, SlR h1 3 1 v L → blkOf v = some b → b < h1.nx := fun a hb => by
        cases a with
        | nil => cases hb
        | at_ hb' => cases hb; exact hb'
      have hnb : ∀ b, blkOf nv = some b → h.nx ≤ b ∧ b < h1.nx := fun b hb => ⟨hnq b hb, hbel hn1 hb⟩
      have nvk : ∀ {g1 : H} {lv1 : Value}, FO lb h1 lv g1 lv1 → SlR g1 3 1 nv (cellsN (elts left)) := fun f => hn1.keepB f.nx fun b hb => by
        obtain ⟨q1, q2⟩ := hnb b hb
        have := s.hlb.2.1
        exact f.fr b q2 (by omega) (fun e => by have := (s.wne e).2.1; omega)
      -- the search over the nodes
      obtain ⟨e, ws', h', hl', lv', hf', hq⟩ := lp_range (F := f91_l1 rn 2000 left (pt lb 0) (pt tb 0) (pt gb 0) nv (elts left).length) (k := 2000) (n := (elts left).length)
        (fun i ws g' => ws = [.bool false, iv i] ∧ (∃ lv', FO lb h1 lv g' lv' ∧ OS lo tv g lb tb gb l lv' g') ∧ ∀ j x, j < i → (elts left)[j]? = some x → ∀ m, ¬ Fits g l left (x :: m))
        (fun e ws g' => ∃ lv', FO lb h1 lv g' lv' ∧
          ((e = .ret ∧ ∃ w, ws = [.bool true, w] ∧ ∃ m, Fits g l left m ∧ OS lo tv g lb tb gb (l ++ m) lv' g') ∨ (e = .exit 0 ∧ (∀ m, ¬ Fits g l left m) ∧ OS lo tv g lb tb gb l lv' g')))
        (by
          rintro i ws g1 hi ⟨rfl, ⟨lv1, fo1, o1⟩, hno⟩
          have hx := List.getElem?_eq_getElem hi
          generalize (elts left)[i] = x at hx
          have hxl := (mem_elts hleft').1 (List.mem_of_getElem? hx)
          have hxg : x < g.length := bit_lt hleft hxl
          have hadd : add .i64 (i : Int) 1 = ((i + 1 : Nat) : Int) := by rw [add64 (by omega) (by omega)]; omega
          have hng := nvk fo1
          have e1 : ∀ (K : Value → Option (Ex × List Value × H)), (six nv (i : Int) 1 fun b o => (g1.cell b o).bind K) = K (iv x) := fun K => hng.c0 (by omega) (x := [iv x]) (by simp [hx]) rfl K
          obtain ⟨v7, h4, h5, e4, w5, o5, fo5⟩ := o1.push x (by omega)
          have hlx' : ∀ y ∈ l ++ [x], y < g.length := fun y hy => by
            rcases List.mem_append.1 hy with hy | hy
            · exact hlx y hy
            · rw [List.mem_singleton.1 hy]; exact hxg
          have c92 := s92 (L := l) (w := x) hg o5.ts o5.lq.slR hlx' (by omega)
          have c1 : g1.cell lb 0 = some lv1 := by rw [cell_of o1.hlb.2.2]; rfl
          have c5 : h5.cell lb 0 = some v7 := by rw [cell_of o5.hlb.2.2]; rfl
          have t5 : h5.cell tb 0 = some tv := by rw [cell_of o5.htb.2.2]; rfl
          have g5 : h5.cell gb 0 = some (.func (.func 91) #[] #[pt lb 0, pt tb 0, pt gb 0]) := by rw [cell_of o5.hgb.2.2]; rfl
          have hand : AM.andNot .i64 (left : Int) (AM.shl .i64 1 (x : Int)) = ((without left (2 ^ x) : Nat) : Int) := by
            have : 2 ^ x < 2 ^ 10 := Nat.pow_lt_pow_right (by omega) (by omega)
            rw [shl1_nat (by omega), andNot_nat (by omega) (by omega)]
          -- back
          have back : ∀ (lv9 : Value) (h9 : H), OS lo tv g lb tb gb (l ++ [x]) lv9 h9 → FO lb h1 lv h9 lv9 → (∀ m, ¬ Fits g l left (x :: m)) →
              ∃ v10 h10, h9.cell lb 0 = some lv9 ∧ (∀ {R : Type} (K : Value → Option R), (len lv9 fun n => sli Tryd.prog h9 22 lv9 none (some (.int .i64 (sub .i64 n 1))) none K) = K v10) ∧ wrc 1 h9 lb 0 v10 = some h10 ∧
                (∃ lv', FO lb h1 lv h10 lv' ∧ OS lo tv g lb tb gb l lv' h10) ∧ ∀ j y, j < i + 1 → (elts left)[j]? = some y → ∀ m, ¬ Fits g l left (y :: m) := by
            intro lv9 h9 o9 fo9 hx9
            obtain ⟨v10, h10, e10, w10, o10, fo10⟩ := o9.pop (by omega)
            refine ⟨v10, h10, by rw [cell_of o9.hlb.2.2]; rfl, e10, w10, ⟨v10, fo9.trans fo10, o10⟩, fun j y hj hy => ?_⟩
            by_cases hji : j < i
            · exact hno j y hji hy
            · have : j = i := by omega
              subst this
              rw [hx] at hy
              cases hy
              exact hx9
          by_cases hc : crossB g l x = true
          · obtain ⟨v10, h10, q1, q2, q3, q4, q5⟩ := back v7 h5 o5 (fo1.trans fo5) (fun m hm => by
              have := (nx_snoc (w := x)).1 (hm.2.2.sub (m := l ++ [x]) (by
                rw [show l ++ x :: m = (l ++ [x]) ++ m by simp]; exact List.sublist_append_left _ _))
              rw [hc] at this
              cases this.2)
            refine ⟨.normal, [.bool false, iv ((i + 1 : Nat) : Int)], h10, ?_, .inl ⟨rfl, rfl, q4, q5⟩⟩
            unfold f91_l1
            simp only [d3, d22, d84, d82, w22, asP_ptr]
            rw [show gv [Value.bool false, iv (i : Int)] 1 = iv i from rfl, show gv [Value.bool false, iv (i : Int)] 0 = .bool false from rfl, asI_int, lt_t (by omega), ifB_true, asK_int, e1, asI_int, c1, Option.bind_some, e4, w5, Option.bind_some, t5, Option.bind_some, c5, Option.bind_some, calls_eq (xs := [tv, v7]) c92, asB_bool, hc, show (!true) = false from rfl, ifB_false]
            simp only [c5, Option.bind_some]
            rw [q2, q3, Option.bind_some, asI_int, hadd]
            rfl
          · have hc' : crossB g l x = false := by simpa using hc
            have hnx5 := (nx_snoc (g := g) (L := l) (w := x)).2 ⟨hnx, hc'⟩
            have hsub := without_ltv hleft' hxl
            have hplt : pop (without left (2 ^ x)) < pop left := pop_lt hleft' (fun j hj => (bit_del.1 hj).1) hxl (by
              rw [Bool.eq_false_iff]; intro h; exact (bit_del.1 h).2 rfl)
            have fit : ∀ m, Fits g (l ++ [x]) (without left (2 ^ x)) m ↔ Fits g l left (x :: m) := by
              intro m
              unfold Fits
              rw [List.nodup_cons, show (l ++ [x]) ++ m = l ++ x :: m by simp]
              constructor
              · rintro ⟨a1, a2, a3⟩
                refine ⟨⟨fun h => (bit_del.1 ((a2 x).1 h)).2 rfl, a1⟩, fun i => ?_, a3⟩
                rw [List.mem_cons, a2, bit_del]
                constructor
                · rintro (rfl | h)
                  · exact hxl
                  · exact h.1
                · intro h
                  by_cases e : i = x
                  · exact .inl e
                  · exact .inr ⟨h, e⟩
              · rintro ⟨⟨a0, a1⟩, a2, a3⟩
                refine ⟨a1, fun i => ?_, a3⟩
                rw [bit_del, ← a2, List.mem_cons]
                constructor
                · intro h; exact ⟨.inr h, fun e => a0 (e ▸ h)⟩
                · rintro ⟨h, e⟩; exact h.resolve_left e
            obtain ⟨h7, r, lv7, e7, fo7, q⟩ := ih (without left (2 ^ x)) (l ++ [x]) v7 h5 (by omega) (by omega) (by simp; omega) hlx' hnx5 o5
            have fo17 := (fo1.trans fo5).trans fo7
            have e7' := fun (K : Value → H → Option (Ex × List Value × H)) => calls_eq (K := K) (xs := [iv (without left (2 ^ x) : Nat), pt lb 0, pt tb 0, pt gb 0]) e7
            rcases q with ⟨rfl, m, hm, o7⟩ | ⟨rfl, hm, o7⟩
            · refine ⟨.ret, [.bool true, iv i], h7, ?_, .inr ⟨by simp, lv7, fo17, .inl ⟨rfl, _, rfl, x :: m, (fit m).1 hm, by simpa using o7⟩⟩⟩
              unfold f91_l1
              simp only [d3, d22, d84, d82, w22, asP_ptr]
              rw [show gv [Value.bool false, iv (i : Int)] 1 = iv i from rfl, show gv [Value.bool false, iv (i : Int)] 0 = .bool false from rfl, asI_int, lt_t (by omega), ifB_true, asK_int, e1, asI_int, c1, Option.bind_some, e4, w5, Option.bind_some, t5, Option.bind_some, c5, Option.bind_some, calls_eq (xs := [tv, v7]) c92, asB_bool, hc', show (!false) = true from rfl, ifB_true, g5, Option.bind_some, nn_ge (by omega), callsV_eq, hand]
              exact (e7' _).trans rfl
            · obtain ⟨v10, h10, q1, q2, q3, q4, q5⟩ := back lv7 h7 o7 fo17 (fun m hm' => hm m ((fit m).2 hm'))
              refine ⟨.normal, [.bool false, iv ((i + 1 : Nat) : Int)], h10, ?_, .inl ⟨rfl, rfl, q4, q5⟩⟩
              unfold f91_l1
              simp only [d3, d22, d84, d82, w22, asP_ptr]
              rw [show gv [Value.bool false, iv (i : Int)] 1 = iv i from rfl, show gv [Value.bool false, iv (i : Int)] 0 = .bool false from rfl, asI_int, lt_t (by omega), ifB_true, asK_int, e1, asI_int, c1, Option.bind_some, e4, w5, Option.bind_some, t5, Option.bind_some, c5, Option.bind_some, calls_eq (xs := [tv, v7]) c92, asB_bool, hc', show (!false) = true from rfl, ifB_true, g5, Option.bind_some, nn_ge (by omega), callsV_eq, hand]
              refine (e7' _).trans ?_
              rw [asB_bool, ifB_false]
              simp only [q1, Option.bind_some]
              rw [q2, q3, Option.bind_some, asI_int, hadd]
              rfl)
        (by
          rintro ws g1 ⟨rfl, ⟨lv1, fo1, o1⟩, hno⟩
          refine ⟨.exit 0, [.bool false, iv (elts left).length], g1, ?_, by simp, lv1, fo1, .inr ⟨rfl, fun m hm => ?_, o1⟩⟩
          · unfold f91_l1
            rw [show gv [Value.bool false, iv ((elts left).length : Int)] 1 = iv (elts left).length from rfl, asI_int, lt_f (by omega), ifB_false]
            rfl
          · cases m with
            | nil =>
              have := (hm.2.1 (low left)).2 (low_bit (Nat.pos_of_ne_zero h0) hleft')
              simp at this
            | cons x m =>
              obtain ⟨j, hj⟩ := List.mem_iff_getElem?.1 ((mem_elts hleft').2 ((hm.2.1 x).1 List.mem_cons_self))
              exact hno j x (List.getElem?_eq_some_iff.1 hj).1 hj m hm)
        (ws := [.bool false, iv 0]) (h := h1) (by omega) ⟨rfl, ⟨lv, .refl _ _ _, s1⟩, fun j x hj => by omega⟩
      have hz : AM.eq (left : Int) 0 = false := by simp; omega
      have fo := (FO.ofExt (lb := lb) lv x1.toExt).trans hf'
      rcases hq with ⟨rfl, w, rfl, m, hm, o⟩ | ⟨rfl, hm, o⟩
      · obtain ⟨t1, t2⟩ := s.trunc (v := .bool true) o fo
        refine ⟨_, true, lv', t91 (k := 2000) (h1 := h') ?_, t2, .inl ⟨rfl, m, hm, t1⟩⟩
        unfold f91
        rw [hz, ifB_false, calls_eq (xs := [iv left]) e49, hnl, lp_eq hl', onE_ret, onR_ret]
        rfl
      · obtain ⟨t1, t2⟩ := s.trunc (v := .bool false) o fo
        refine ⟨_, false, lv', t91 (k := 2000) (h1 := h') ?_, t2, .inr ⟨rfl, hm, t1⟩⟩
        unfold f91
        rw [hz, ifB_false, calls_eq (xs := [iv left]) e49, hnl, lp_eq hl', onE_exit, if_pos rfl]

end Go.AM

end

section

/- Outer, and law 5: where every edge is in at most one cycle there is an outer order, and the width is at most 2. -/
namespace Go.AM
open Go.Proofs
variable {k : Nat} {R : Type}
theorem s56 {tv : Value} {g : List Nat} {S : Nat} {h : H} (hg : GrB g) (hs : SlR h 3 1 tv (cellsN g)) (hS : S < 2 ^ g.length) :
    ∃ v' h', rn 56 #[tv, iv S] h = some (v', h') ∧ Exw h h' ∧ ((∃ m, Fits g [] S m ∧ SlR h' 3 1 v' (cellsN m) ∧ (m ≠ [] → ∃ b o n c, v' = .slice (some ⟨b, o, none⟩) n c)) ∨ (v' = .slice none 0 0 ∧ ∀ m, ¬ Fits g [] S m)) := by
  have hlen := hg.len
  have hpow := hg.pow
  obtain ⟨ta, tn, tc, rfl⟩ := hs.isSl
  let h1 := h.new (.row [.slice ta tn tc] 84 true)
  let h2 := h1.new (.row [.slice none 0 0] 22 true)
  let h3 := h2.fresh 82 [.nilFunc] [.func (.func 91) #[] #[pt h1.nx 0, pt h.nx 0, pt h2.nx 0]]
  have x3 : Ext h h3 := ((Ext.new h _).trans (Ext.new h1 _)).fresh 82 _ _
  have b0 : h3.blk h.nx = some (.row [.slice ta tn tc] 84 true) := by
    rw [show h3.blk h.nx = h2.blk h.nx from ((Ext.refl h2).fresh 82 _ _).blk _ (show h.nx < h2.nx from (by show h.nx < h.nx + 1 + 1; omega))]
    show (h1.new _).blk h.nx = _
    rw [blk_new, if_neg (show ¬ h.nx = h1.nx from (by show ¬ h.nx = h.nx + 1; omega))]
    exact blk_new_self _ _
  have b1 : h3.blk h1.nx = some (.row [.slice none 0 0] 22 true) := by
    rw [show h3.blk h1.nx = h2.blk h1.nx from ((Ext.refl h2).fresh 82 _ _).blk _ (show h1.nx < h2.nx from (by show h.nx + 1 < h.nx + 1 + 1; omega))]
    exact blk_new_self _ _
  have b2 : h3.blk h2.nx = some (.row [.func (.func 91) #[] #[pt h1.nx 0, pt h.nx 0, pt h2.nx 0]] 82 true) := blk_fresh h2 82 _ _
  have e1 : h1.nx = h.nx + 1 := rfl
  have e2 : h2.nx = h.nx + 2 := rfl
  have e3 : h3.nx = h.nx + 3 := rfl
  have os : OS h.nx (.slice ta tn tc) g h1.nx h.nx h2.nx [] (.slice none 0 0) h3 := by
    refine ⟨x3.nx, hs.ext x3, fun b hb => ?_, ⟨by omega, by omega, b1⟩, ⟨by omega, by omega, b0⟩, ⟨by omega, by omega, b2⟩, .nil⟩
    cases ta with
    | none => cases hb
    | some a =>
      obtain ⟨b', o, r⟩ := a
      cases r with
      | none => cases hb; exact hs.below _ _ _ _ rfl
      | some _ => exact absurd hs (by intro hs; generalize cellsN g = L at hs; cases hs)
  have hpl := pop_le_n hlen hS
  obtain ⟨h5, r, lv', e91, fo, q⟩ := s91 hg (pop S) S [] (.slice none 0 0) h3 (Nat.le_refl _) hS (by simp; omega) (by simp) (fun p q r s hs => by simpa using hs.length_le) os
  have x5 : Ext h h5 := ⟨Nat.le_trans x3.nx fo.nx, fun b hb => by
    rw [fo.fr b (by omega) (by omega) (by intro h; cases h)]
    exact x3.blk b hb⟩
  have c91 := fun (K : Value → H → Option (Value × H)) => calls_eq (K := K) (xs := [iv S, pt h1.nx 0, pt h.nx 0, pt h2.nx 0]) e91
  have start : f56 rn 2000 (.slice ta tn tc) S h = asB (.bool r) fun q0 => ifB (not q0) (some ((.slice none 0 0), h5)) (ld Tryd.prog h5 22 h1.nx 0 fun v3 => some (v3, h5)) := by
    unfold f56
    rw [bx_eq]
    show (al h1 22 [(.slice none 0 0)] fun h2 => al h2 82 [.nilFunc] fun h3 => st Tryd.prog h3 82 (AM.nx h2) 0 (.func (.func 91) #[] #[(pt (AM.nx h1) 0), (pt (AM.nx h) 0), (pt (AM.nx h2) 0)]) fun h4 => _) = _
    rw [al_eq]
    show (al h2 82 [.nilFunc] fun h3 => st Tryd.prog h3 82 (AM.nx h2) 0 (.func (.func 91) #[] #[(pt h1.nx 0), (pt h.nx 0), (pt h2.nx 0)]) fun h4 => _) = _
    rw [al_st1 sz82 rfl rfl]
    show (ld Tryd.prog h3 82 h2.nx 0 fun v1 => _) = _
    rw [d82, cell_of b2, List.getElem?_cons_zero, Option.bind_some, callsV_eq]
    exact c91 _
  rcases q with ⟨rfl, m, hm, o⟩ | ⟨rfl, hm, o⟩
  · have hcl : h5.cell h1.nx 0 = some lv' := by rw [cell_of o.hlb.2.2]; rfl
    have hsl := o.lq.slR
    rw [List.nil_append] at hsl
    obtain ⟨h6, e6, m6, w6⟩ := x56 (k := 2000) (v0 := .slice ta tn tc) (n0 := S) (h := h) (h1 := h5) (v := lv') (by
      rw [start, asB_bool, show (!true) = false from rfl, ifB_false, d22, hcl]; rfl) (by obtain ⟨x, y, z, hz⟩ := hsl.isSl; rw [hz]; rfl)
    refine ⟨lv', h6, e6, w6 x5, .inl ⟨m, hm, hsl.ext m6.ext, fun hne => ?_⟩⟩
    generalize hL : cellsN m = L at hsl
    cases hsl with
    | nil => cases m with
      | nil => exact absurd rfl hne
      | cons a t => cases hL
    | at_ hb hr hk hc hl hx => exact ⟨_, _, _, _, rfl⟩
  · obtain ⟨h6, e6, m6, w6⟩ := x56 (k := 2000) (v0 := .slice ta tn tc) (n0 := S) (h := h) (h1 := h5) (v := .slice none 0 0) (by
      rw [start, asB_bool, show (!false) = true from rfl, ifB_true]) rfl
    exact ⟨_, h6, e6, w6 x5, .inr ⟨rfl, hm⟩⟩

/-- Outer. -/
theorem s22 {v : Value} {g : List Nat} {h : H} (hg : GrN g) (h8 : g.length ≤ 8) (hs : SlR h 3 1 v (cellsN g)) :
    ∃ v' e h', rn 22 #[v] h = some (.tuple #[v', iv e], h') ∧ Exw h h' ∧ ((e = 0 ∧ ∃ m, Fits g [] (allN g) m ∧ SlR h' 3 1 v' (cellsN m)) ∨ (e = 4 ∧ v' = .slice none 0 0 ∧ ∀ m, ¬ Fits g [] (allN g) m)) := by
  have hval : valid8 (g.map Int.ofNat) = true := by unfold valid8; rw [valid_of hg]; simp [h8]
  have e46 := s46 (v := v) (l := g.map Int.ofNat) (h := h) (by rw [cellsN_eq]; exact hs)
  rw [if_pos hval] at e46
  obtain ⟨v5, h5, e5, x5, q⟩ := s56 hg.toGrB hs (allN_lt g)
  have start : f22 rn 0 v h = eqv Tryd.prog 22 v5 (.slice none 0 0) fun q1 => ifB q1 (some ((.tuple #[(.slice none 0 0), (.int .i64 4)]), h5)) (some ((.tuple #[v5, (.int .i64 0)]), h5)) := by
    unfold f22
    rw [calls_eq (xs := [v, iv 8]) e46, ext20, ext21, asB_bool, show (!true) = false from rfl, ifB_false, calls_eq (xs := [v]) (s57 hg.toGrB hs), asI_int, calls_eq (xs := [v, iv (allN g : Nat)]) e5]
  rcases q with ⟨m, hm, hsl, hne⟩ | ⟨rfl, hm⟩
  · have hm0 : m ≠ [] := by
      rintro rfl
      have := (hm.2.1 0).2 (by rw [allN_bit, decide_eq_true_iff]; exact hg.pos)
      simp at this
    obtain ⟨b, o, n, c, rfl⟩ := hne hm0
    obtain ⟨h6, e6, m6, w6⟩ := x22 (k := 0) (v0 := v) (h := h) (h1 := h5) (v := .tuple #[.slice (some ⟨b, o, none⟩) n c, iv 0]) (by
      rw [start]
      unfold eqv
      rw [some22]
      rfl) rfl
    exact ⟨_, 0, h6, e6, w6 x5.toExt, .inl ⟨rfl, m, hm, hsl.ext m6.ext⟩⟩
  · obtain ⟨h6, e6, m6, w6⟩ := x22 (k := 0) (v0 := v) (h := h) (h1 := h5) (v := .tuple #[.slice none 0 0, iv 4]) (by
      rw [start]
      unfold eqv
      rw [nil22]
      rfl) rfl
    exact ⟨_, 4, h6, e6, w6 x5.toExt, .inr ⟨rfl, rfl, hm⟩⟩

/-- The law. -/
theorem s5 (s15 : ∀ h, rn 15 #[] h = some (.bool true, h)) {h : H} {v : Value} {l : List Int} (hs : SlR h 3 1 v (cellsI l)) : ∃ h', rn 5 #[v] h = some (.bool true, h') := by
  have c15 := fun (g : H) (K : Value → H → Option (Value × H)) => calls_eq (K := K) (xs := []) (s15 g)
  have c14 := fun (K : Value → H → Option (Value × H)) => calls_eq (K := K) (xs := [v]) (s14 hs)
  by_cases hval : valid8 l = true
  · have hv := hval
    unfold valid8 at hv
    rw [Bool.and_eq_true, decide_eq_true_iff] at hv
    obtain ⟨g, rfl, hg⟩ := valid_nat hv.1
    have h8 : g.length ≤ 8 := by simpa using hv.2
    rw [cellsN_eq] at hs
    obtain ⟨v3, h3, e3, x3, hs3⟩ := s11g hg.toGrB hs
    have e4 := s21 hg hv.1 hs3
    obtain ⟨v7, h5, e7, x5, hs7⟩ := s11g hg.toGrB (hs.ext x3.toExt)
    obtain ⟨v9, er, h6, e8, x6, q⟩ := s22 hg h8 hs7
    obtain ⟨v11, h7, e11, x7, hs11⟩ := s11g hg.toGrB (hs.ext ((x3.tr x5).tr x6).toExt)
    have e12 := s12 hg.toGrB hv.1 (by omega) hs11
    have start : f5 rn 0 v h = ifB (eq er 0) (ifB (not (cactusP g)) (some (.bool true, h7)) (ifB (eq er 0) (ifB (le ((wN g (allN g) : Nat) : Int) 2) (some (.bool true, h7)) (some (.bool false, h7))) (some (.bool false, h7)))) (ifB (eq er 4) (ifB (not (cactusP g)) (some (.bool true, h7)) (ifB (eq er 0) (ifB (le ((wN g (allN g) : Nat) : Int) 2) (some (.bool true, h7)) (some (.bool false, h7))) (some (.bool false, h7)))) (some (.bool false, h7))) := by
      unfold f5
      rw [c14, hval, asB_bool, show (!true) = false from rfl, ifB_false, calls_eq (xs := [v]) e3, calls_eq (xs := [v3]) e4, ext20, asB_bool, ext21, asI_int, calls_eq (xs := [v]) e7, calls_eq (xs := [v7]) e8, ext20, ext21, asI_int, calls_eq (xs := [v]) e11, calls_eq (xs := [v11]) e12, ext20, asI_int, ext21, asI_int]
      simp only [show AM.eq 0 0 = true from rfl, ifB_true, c15, asB_bool]
    have hcac : cactusP g = true → ∃ m, Fits g [] (allN g) m := by
      intro hc
      unfold cactusP at hc
      rw [Bool.not_eq_true', List.any_eq_false] at hc
      exact cactus_out hg fun b hb => by simpa using hc b hb
    refine ⟨_, t5 (k := 0) (v0 := v) (h1 := h7) (v := .bool true) ?_⟩
    rw [start]
    by_cases hc : cactusP g = true
    · obtain ⟨m, hm⟩ := hcac hc
      have hw := out_width hg ⟨m, hm⟩
      rcases q with ⟨rfl, _⟩ | ⟨rfl, _, hno⟩
      · rw [hc, show AM.eq (0 : Int) 0 = true from rfl, show (!true) = false from rfl, ifB_true, ifB_false, ifB_true, show AM.le ((wN g (allN g) : Nat) : Int) 2 = true from decide_eq_true (by omega), ifB_true]
      · exact absurd hm (hno m)
    · have hc' : cactusP g = false := by simpa using hc
      rcases q with ⟨rfl, _⟩ | ⟨rfl, _, _⟩
      · rw [hc', show AM.eq (0 : Int) 0 = true from rfl, show (!false) = true from rfl, ifB_true, ifB_true]
      · rw [hc', show AM.eq (4 : Int) 0 = false from rfl, show AM.eq (4 : Int) 4 = true from rfl, show (!false) = true from rfl, ifB_false, ifB_true, ifB_true]
  · refine ⟨_, t5 (k := 0) (v0 := v) (h1 := h) (v := .bool true) ?_⟩
    unfold f5
    rw [c14, asB_bool, show valid8 l = false by simpa using hval, show (!false) = true from rfl, ifB_true, c15, asB_bool]

end Go.AM

end

section

/- The examples at the end: by the kernel's own run. -/
namespace Go.AM
open Go.Proofs
noncomputable def loneOk (f : FuncId) : Bool := match call Tryd.prog E0 60 f #[] ⟨fun _ => none, 0, 0⟩ with
  | some (.bool b, _) => b
  | _ => false

theorem lone_run {f : FuncId} (hf : E0.iso f = true) (ht : loneOk f = true) (h : H) : rn f #[] h = some (.bool true, h) := by
  unfold loneOk at ht
  split at ht
  · rename_i b h' hc
    subst ht
    exact run_iso (n := 59) (by rw [hf]; rfl) (iso_any (by rw [hf]; rfl) hc)
  · cases ht

theorem finds_run : loneOk 15 = true := by decide +kernel

theorem s15 (h : H) : rn 15 #[] h = some (.bool true, h) := lone_run rfl finds_run h

end Go.AM

end

section

/- Slices of numbers that a statement is handed, in the abstract heap. -/
namespace Go.AM
open Go.Proofs Go.ChangeShapes
variable {HH : Type} {enc : TypeId × Value → HH} {w : World} {base : Nat} {held : Bool}
theorem flat3 (n : Nat) (cs : List Value) (x : DataW HH × List MemPlace) (h : DataW.trod enc Tryd.prog w base (fun _ => true) held n 3 cs = some x) : ∃ z : Int, cs = [iv z] := by
  obtain ⟨z, h1, _⟩ := DataW.trod_int (show Tryd.prog.underlying 3 = some (.int .i64) from by kernel_rfl) h
  exact ⟨z, h1⟩

theorem cellsOf3 : Tryd.prog.cellsOf 3 = 1 := by kernel_rfl

theorem bytes3 : Tryd.prog.bytesOf 3 = 8 := by kernel_rfl

theorem ints_of : ∀ (l : List (List Value)), (∀ x ∈ l, ∃ z : Int, x = [iv z]) → ∃ l' : List Int, l = l'.map fun z => [iv z] := by
  intro l
  induction l with
  | nil => intro _; exact ⟨[], rfl⟩
  | cons x l ih =>
    intro h
    obtain ⟨c, hc⟩ := h x (by simp)
    obtain ⟨l', hl⟩ := ih (fun y hy => h y (List.mem_cons_of_mem _ hy))
    exact ⟨c :: l', by rw [hc, hl]; rfl⟩

set_option maxRecDepth 100000 in
/-- A graph that came in. -/
theorem open_graph {rr : Reach} {b0 : Nat} {v : Value} {d : DataW HH} {ps : List MemPlace} (hv : Value.okWide Tryd.prog w rr b0 23 v) (hwt : ∀ x ∈ d.weights Tryd.prog 23, x ≤ reachBytes)
    (hd : DataW.Trod enc Tryd.prog w base (fun _ => true) held 23 v d ps) {ι : Nat → Emb} {h : H} (r : Rel Tryd.prog E0 ι h w) (hro : ∀ b k, h.blk b = some k → k.own = false) :
    ∃ (v0 : Value) (ι' : Nat → Emb) (h' : H) (l : List Int), Rel Tryd.prog E0 ι' h' w ∧ (∀ b k, h'.blk b = some k → k.own = false) ∧ Ext h h' ∧ (∀ b, b < h.nx → ι' b = ι b) ∧
      VR ι' h'.nx v0 v ∧ SlR h' 3 1 v0 (l.map fun z => [iv z]) := by
  have hu : Tryd.prog.underlying 23 = some (.slice 3) := by kernel_rfl
  simp only [Value.okWide, hu] at hv
  have hy : ∃ a len cap, v = .slice a len cap := by
    simp only [Cell.okWide, hu] at hv
    cases v <;> simp_all [Cell.ok]
  obtain ⟨a, len, cap, rfl⟩ := hy
  obtain ⟨ι', h', v0, l, g1, g2, g3, g4, g5, g6, g7⟩ := open_flat r hro hu sz3 cellsOf3 (by decide) (Q := fun x => ∃ z : Int, x = [iv z]) flat3 (by
    rintro cs ⟨c, rfl⟩
    exact ⟨rfl, fun v hv => by simp at hv; subst hv; exact ⟨_, _, rfl⟩⟩) (by rw [bytes3]; exact Nat.succ_pos _) hwt (okWide_has hu hv) hd
  obtain ⟨l', rfl⟩ := ints_of l g7
  exact ⟨v0, ι', h', l', g1, g2, g3, g4, g5, g6⟩

/-! ### Streets and numbers that came in -/
/-! ### The table -/
open Go.Proofs.YtphchobmencipaaDoor
theorem glTab : Tryd.prog.globalNamed "math/bits.deBruijn64tab" = some 1 := by kernel_rfl

theorem tyTab : (Tryd.prog.globals[1]?).map (·.type) = some 160 := by kernel_rfl

theorem under160 : Tryd.prog.underlying 160 = some (.array 64 5) := by kernel_rfl

theorem under5 : Tryd.prog.underlying 5 = some (.int .u8) := by kernel_rfl

theorem cellsOf5 : Tryd.prog.cellsOf 5 = 1 := by kernel_rfl

/-- What the rows say of the package-level variables. -/
def laidT : List (String × DataW Unit) := [("math/bits.deBruijn32tab", Rows.laid_math_bits_deBruijn32tab), ("math/bits.deBruijn64tab", Rows.laid_math_bits_deBruijn64tab)]

theorem laid64_eq : (Rows.laid_math_bits_deBruijn64tab : DataW Unit) = .agg (tab64.map fun n => .lit (.int .u8 n)) := by kernel_rfl

theorem tab_len : tab64.length = 64 := by decide

set_option maxRecDepth 100000 in
/-- What the condition gives: each cell of the table. -/
theorem of_laid {W : World} (h : laidMetH Tryd.prog laidT W) (i : Nat) (z : Int) (hz : tab64[i]? = some z) : W.cell? ⟨1, i, none⟩ = some (.int .u8 z) := by
  rw [MakeChecks.laidMetH_plain _ _ _ (by kernel_rfl)] at h
  obtain ⟨ps, ⟨g0, t0, cs0, f0, p0, q0, hg0, ht0, hv0, hd0, ⟨g1, t1, cs1, f1, p1, q1, hg1, ht1, hv1, hd1, _, _⟩, _⟩, _, _⟩ := h
  obtain rfl := Option.some.inj (glTab.symm.trans hg1)
  obtain rfl := Option.some.inj (tyTab.symm.trans ht1)
  obtain ⟨xs, m1, rfl, hx1, hlen, hn3, hel⟩ := DataW.trod_array under160 hd1
  have hi : i < 64 := by rw [← tab_len]; exact (List.getElem?_eq_some_iff.1 hz).1
  have h0 := hel i hi
  rw [cellsOf5, Nat.mul_one] at h0
  have hxi : xs[i]? = some xs[i] := List.getElem?_eq_getElem (by omega)
  rw [hxi] at h0
  obtain ⟨k, e1, e2, _⟩ := DataW.trod_int under5 h0
  have hx2 : DataW.agg (tab64.map fun n => DataW.lit (.int .u8 n)) = DataW.agg (xs.map (·.1)) := by
    rw [← laid64_eq]
    exact congrArg Prod.fst hx1
  have hx3 : (tab64.map fun n => (DataW.lit (.int .u8 n) : DataW Unit)) = xs.map (·.1) := by
    exact DataW.agg.inj hx2
  have hx4 := congrArg (·[i]?) hx3
  simp only [List.getElem?_map, hz, hxi, Option.map_some, Option.some.injEq] at hx4
  rw [e2] at hx4
  have hk : z = k := by
    have h5 : (DataW.lit (Lit.int .u8 z) : DataW Unit) = DataW.lit (Lit.int .u8 k) := hx4
    exact (Lit.int.inj (DataW.lit.inj h5)).2
  subst hk
  rw [World.var?_cell hg1 hv1 i]
  have hcl : cs1.toList[i]? = some (.int .u8 z) := by
    have := congrArg (·[0]?) e1
    simpa [List.getElem?_take, List.getElem?_drop] using this
  simpa using hcl

/-- The beginning: the table alone. -/
def hTab : H := ⟨fun b => if b = 1 then some (.row (tab64.map fun n => .int .u8 n) 5 false) else none, 2, 0⟩

def ιTab : Nat → Emb := fun g => ⟨g, 0, 64, 1⟩

set_option maxRecDepth 100000 in
theorem rel_tab {W : World} (h : laidMetH Tryd.prog laidT W) : Rel Tryd.prog E0 ιTab hTab W := by
  have hc := of_laid h
  have h0 := hc 0 0 (by decide)
  have hsz : 1 < W.heap.size := by
    unfold World.cell? at h0
    split at h0
    · rename_i hb
      rcases Nat.lt_or_ge 1 W.heap.size with h1 | h1
      · exact h1
      · rw [Array.getElem?_eq_none h1] at hb; cases hb
    · cases h0
  have hrow : ∀ n, BlkR Tryd.prog ιTab n W 1 (.row (tab64.map fun n => .int .u8 n) 5 false) := by
    intro n
    refine ⟨hsz, sz5, fun i v hv => ?_⟩
    rw [List.getElem?_map] at hv
    obtain ⟨z, hz, rfl⟩ := Option.map_eq_some_iff.1 hv
    refine ⟨.int .u8 z, ?_, .int .u8 z⟩
    have := hc i z hz
    simpa [ιTab] using this
  refine ⟨fun b k hb => ?_, fun b k hb => ?_, fun b b' k k' hb _ _ ho => ?_, Nat.le_refl _, fun g _ => ⟨rfl, rfl⟩, fun g hg => ?_, fun g k hg hk => ?_⟩
  · simp only [hTab] at hb ⊢
    split at hb
    · omega
    · cases hb
  · simp only [hTab] at hb
    split at hb
    · rename_i h1
      subst h1
      cases hb
      exact hrow _
    · cases hb
  · simp only [hTab] at hb
    split at hb
    · cases hb; cases ho
    · cases hb
  · simp only [hTab, E0]
  · simp only [E0] at hk
    split at hk
    · rename_i h1
      subst h1
      cases hk
      exact ⟨rfl, hrow _⟩
    · cases hk

theorem ro_tab : ∀ b k, hTab.blk b = some k → k.own = false := by
  intro b k hb
  simp only [hTab] at hb
  split at hb
  · cases hb; rfl
  · cases hb

end Go.AM

end
