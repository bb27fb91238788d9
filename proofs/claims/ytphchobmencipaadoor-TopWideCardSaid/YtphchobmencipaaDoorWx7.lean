/- Parts of the proof, put together: the abstract machine, what the functions of the program answer, and plain laws. -/
import Derived.Test.YtphchobmencipaaDoorRows
import Derived.LaidMore
import Derived.Stop.Joined
import Derived.ProofKit
import Derived.OpenShut
import Derived.Test.YtphchobmencipaaDoorWx6

section
namespace Go.AM
open Go.Proofs
variable {R : Type}
section
variable {s t n : Nat} {p : Nat → Nat → Prop}
theorem firstOf_none (h : ∀ v u, ¬ p v u) : firstOf n s p = 0 := by
  refine set_ext (n := n) (mkS_lt _ _) (Nat.two_pow_pos _) fun i hi => ?_
  rw [Nat.zero_testBit, Bool.eq_false_iff]
  exact fun hb => h _ _ (firstOf_bit.1 hb).2
theorem nxOf_none (h : ∀ v u, ¬ p v u) : nxOf n s p = List.replicate n (-1) := by
  refine List.eq_replicate_iff.2 ⟨nxOf_len, fun x hx => ?_⟩
  obtain ⟨v, _, rfl⟩ := List.mem_map.1 hx
  exact nxAt_none (.inr fun u => h v u)
theorem bfOf_none (h : ∀ v u, ¬ p v u) : bfOf n t p (iv (-1)) = List.replicate n (iv (-1)) := by
  refine List.eq_replicate_iff.2 ⟨bfOf_len, fun x hx => ?_⟩
  obtain ⟨u, _, rfl⟩ := List.mem_map.1 hx
  by_cases hu : u = t
  · rw [hu, bfAt_t]
  · exact bfAt_none hu fun v => h v u
theorem bfOf_x {x y : Value} : (bfOf n t p x).set t y = bfOf n t p y := by
  refine List.ext_getElem? fun i => ?_
  rw [List.getElem?_set]
  by_cases hi : i < n
  · rw [bfOf_get hi]
    by_cases e : t = i
    · subst e
      rw [if_pos rfl, if_pos (by rw [bfOf_len]; exact hi), bfOf_get hi, bfAt_t]
    · rw [if_neg e, bfOf_get hi]
      unfold bfAt
      rw [if_neg (fun h => e h.symm), if_neg (fun h => e h.symm)]
  · have h1 : ∀ y : Value, (bfOf n t p y)[i]? = none := fun y => List.getElem?_eq_none (by rw [bfOf_len]; omega)
    rw [h1, h1]
    split
    · rw [if_neg (by rw [bfOf_len]; omega)]
    · rfl
end
theorem natbeq_ne {a b : Nat} (h : a ≠ b) : Nat.beq a b = false := by
  cases e : Nat.beq a b with
  | false => rfl
  | true => exact absurd (Nat.eq_of_beq_eq_true e) h
/-- The arcs that have been. -/
def pD (L : List ((Nat × Nat) × Nat)) (D : List Nat) (v u : Nat) : Prop := ∃ i, i ∈ D ∧ ((v, u), i) ∈ L
def pA (L : List ((Nat × Nat) × Nat)) (v u : Nat) : Prop := (v, u) ∈ L.map (·.1)
theorem pD_cons {L : List ((Nat × Nat) × Nat)} {D : List Nat} {v u i : Nat} (hnd : (L.map (·.2)).Nodup) (h : ((v, u), i) ∈ L) : pD L (i :: D) = orArc (pD L D) v u := by
  funext a b
  unfold pD orArc
  refine propext ⟨?_, ?_⟩
  · rintro ⟨j, hj, hm⟩
    rcases List.mem_cons.1 hj with rfl | hj
    · right
      obtain ⟨k, hk⟩ := List.mem_iff_getElem?.1 h
      obtain ⟨l, hl⟩ := List.mem_iff_getElem?.1 hm
      obtain ⟨k1, k2⟩ := List.getElem?_eq_some_iff.1 hk
      obtain ⟨l1, l2⟩ := List.getElem?_eq_some_iff.1 hl
      have := (List.getElem_inj (xs := L.map (·.2)) (i := k) (j := l) (h₀ := by simpa using k1) (h₁ := by simpa using l1) hnd).1 (by rw [List.getElem_map, List.getElem_map, k2, l2])
      subst this
      rw [k2] at l2
      cases l2
      exact ⟨rfl, rfl⟩
    · exact .inl ⟨j, hj, hm⟩
  · rintro (⟨j, hj, hm⟩ | ⟨rfl, rfl⟩)
    · exact ⟨j, List.mem_cons_of_mem _ hj, hm⟩
    · exact ⟨i, List.mem_cons_self, h⟩
theorem pD_sub {L : List ((Nat × Nat) × Nat)} {D : List Nat} {v u : Nat} (h : pD L D v u) : pA L v u := by
  obtain ⟨i, _, h⟩ := h
  exact List.mem_map.2 ⟨_, h, rfl⟩
theorem pD_all {L : List ((Nat × Nat) × Nat)} {D : List Nat} (h : ∀ x ∈ L, x.2 ∈ D) : pD L D = pA L := by
  funext v u
  refine propext ⟨pD_sub, fun hm => ?_⟩
  obtain ⟨x, hx, e⟩ := List.mem_map.1 hm
  obtain ⟨⟨a, b⟩, i⟩ := x
  cases e
  exact ⟨i, h _ hx, hx⟩
theorem OneW.sub {s t : Nat} {p q : Nat → Nat → Prop} (o : OneW s t p) (h : ∀ v u, q v u → p v u) : OneW s t q := ⟨fun v u u' hv h1 h2 => o.out1 v u u' hv (h _ _ h1) (h _ _ h2), fun v v' u hu h1 h2 => o.in1 v v' u hu (h _ _ h1) (h _ _ h2)⟩
/-- The heap behind apply's loop. -/
noncomputable def apH (h : H) (s t : Nat) (tv : Value) (fb nb bb n : Nat) (p : Nat → Nat → Prop) (k wr cut : Nat) : H :=
  ⟨fun i => if i = fb then some (.row [tv, iv s, iv t, iv (firstOf n s p : Nat), .slice (some ⟨nb, 0, none⟩) n n, .slice (some ⟨bb, 0, none⟩) n n] 112 true) else
    if i = nb then some (.row ((nxOf n s p).map iv) 3 true) else if i = bb then some (.row (bfOf n t p (.chan none)) 3 true) else if i < cut then h.blk i else none, h.nx + 1 + k, wr⟩
set_option maxHeartbeats 1000000 in
theorem rg101 (hmix : Tryd.prog.follows .mixedOrders = true) {sr : RqS} (hsr : rqOf Tryd.prog 101 39 = some (sr, 171)) (hqt : sr.qt = 131) (hd : sr.d1 = 132 ∧ sr.d2 = 133 ∧ sr.d3 = 134 ∧ sr.d4 = 135) (w0 : 0 ∉ AM.writ sr.code) (w12 : 12 ∉ AM.writ sr.code) (wq : 131 ∉ AM.writ sr.bd) (ho : sr.o1.op = .move (.tmp 12)) (hT : Tryd.prog.underlying sr.T = some (.map 157 4))
    {s t fb nb bb mb n clk : Nat} {tv : Value} {h : H} {L : List ((Nat × Nat) × Nat)} (a : FlB s t tv fb nb bb 0 (List.replicate n (-1)) (List.replicate n (iv (-1))) h) (hm : h.blk mb = some (.mp (L.map arcE) clk)) (hne : mb ≠ fb ∧ mb ≠ nb ∧ mb ≠ bb) (hmb : mb < h.nx)
    (hb : ∀ x ∈ L, x.2 < clk) (hnd : (L.map (·.2)).Nodup) (hin : ∀ x ∈ L, x.1.1 < n ∧ x.1.2 < n) (o : OneW s t (pA L)) (ht : t < n) (hn : n ≤ 10) (wr cut : Nat) (hcut : 2 ≤ cut) (hcut' : cut ≤ h.nx) :
    RgOk Tryd.prog E0 171 39 [0, 12] (onePt [pt fb 0, .map (some mb)] h (apH h s t tv fb nb bb n (pA L) L.length wr cut)) sr.code := by
  obtain ⟨ok, _⟩ := rqOf_some hsr
  obtain ⟨hd1, hd2, hd3, hd4⟩ := hd
  have hrec : SoundR Tryd.prog E0 rn := run_sound hmix
  have hdraw := draw_ok hmix hrec
  intro tt h0 h' e ws' hsz hrg
  obtain ⟨hws, rfl, rfl, rfl⟩ := onePt_some hrg
  refine ⟨rfl, ?_⟩
  simp only [List.map_cons, List.map_nil, List.cons.injEq, and_true] at hws
  obtain ⟨t0, t12⟩ := hws
  intro ι w act Q rl har hQ
  have hdom : ∀ b, h0.nx ≤ b → h0.blk b = none := fun b hb => by
    cases hk : h0.blk b with
    | none => rfl
    | some k => have := rl.dom b k hk; omega
  let I : List Nat → Array Value → H → Prop := fun D t' h' => ∃ x : Int, FlB s t tv fb nb bb (firstOf n s (pD L D)) (nxOf n s (pD L D)) (bfOf n t (pD L D) (iv x)) h' ∧ h'.nx = h0.nx + 1 + D.length ∧ D.Nodup ∧ (∀ i ∈ D, i ∈ L.map (·.2)) ∧
    (∀ b, b < h0.nx → b ≠ fb → b ≠ nb → b ≠ bb → h'.blk b = h0.blk b) ∧ (∀ b k, h0.nx ≤ b → h'.blk b = some k → k.own = true) ∧ t'.size = 171 ∧ t'.getD sr.qt undef = .pointer (some ⟨h0.nx, 0, none⟩) ∧ ∀ i, i ∉ AM.writ sr.code → t'.getD i undef = tt.getD i undef
  have hop : op Tryd.prog E0 rn tt sr.o1 h0 = some (.map (some mb), h0) := by
    unfold op
    rw [ho]
    have c : (Op.move (.tmp 12)).operands.toList.all (okOperand E0) = true := by kernel_rfl
    rw [c]
    show some (tt.getD 12 undef, h0) = _
    rw [t12]
  have hes : ∀ e ∈ L.map arcE, ∃ v u i, ((v, u), i) ∈ L ∧ e = arcE ((v, u), i) := fun e he => by
    obtain ⟨⟨⟨v, u⟩, i⟩, hx, rfl⟩ := List.mem_map.1 he
    exact ⟨v, u, i, hx, rfl⟩
  have hborns : (L.map arcE).map (·.born) = L.map (·.2) := by rw [List.map_map]; rfl
  have hnone : ∀ v u, ¬ pD L [] v u := fun v u ⟨i, hi, _⟩ => by cases hi
  refine (Sd.weak (K := fun e t' h1 => e = .normal ∧ (∃ x : Int, FlB s t tv fb nb bb (firstOf n s (pA L)) (nxOf n s (pA L)) (bfOf n t (pA L) (iv x)) h1) ∧ h1.nx = h0.nx + 1 + L.length ∧ (∀ b, b < h0.nx → b ≠ fb → b ≠ nb → b ≠ bb → h1.blk b = h0.blk b) ∧ (∀ b k, h0.nx ≤ b → h1.blk b = some k → k.own = true) ∧ t'.size = 171 ∧ ∀ i, i ∉ AM.writ sr.code → t'.getD i undef = tt.getD i undef)
    (rangeq_sd (s := sr) (N := 171) (k := 0) (I := I) (es := L.map arcE) (clk := clk) (mb := mb) (h1 := h0) (kt := 157) (vt := 4) hrec hdraw ok hsz hop hT hm (fun e he => ?_) (by rw [hborns]; exact hnd) ?_ ?_ ?_ ?_) ?_) ι w act Q rl har hQ
  · obtain ⟨v, u, i, hx, rfl⟩ := hes e he
    exact hb _ hx
  · rintro D t' h' ⟨x, a1, n1, d1, d2, f1, f2, q1, q2, q3⟩
    exact ⟨(f1 mb hmb hne.1 hne.2.1 hne.2.2).trans hm, q1, q2⟩
  · refine ⟨-1, ?_, rfl, List.nodup_nil, (fun i hi => by cases hi), fun b _ _ _ _ => rfl, fun b k hb hk => ?_, by simp only [put_size]; exact hsz, put_at (by simp only [put_size]; rw [hsz]; exact ok.lt.2.1), fun i hi => ?_⟩
    · rw [firstOf_none hnone, nxOf_none hnone, bfOf_none hnone]
      exact a.keep (h' := h0.skip) (Nat.le_succ _) fun b _ => rfl
    · have : h0.skip.blk b = h0.blk b := rfl
      rw [this, hdom b hb] at hk
      cases hk
    · obtain ⟨h1, h2, _⟩ := ok.writ hi
      rw [put_other h2, put_other h1]
  · rintro D t' h' e ⟨x, a1, n1, d1, d2, f1, f2, q1, q2, q3⟩ he hD
    obtain ⟨v, u, i, hx, rfl⟩ := hes e he
    have hD' : i ∉ D := hD
    obtain ⟨hvn, hun⟩ := hin _ hx
    obtain ⟨h2, hrun, a2, n2, g2, g3⟩ := p101H_run a1 hn ⟨nxOf_len, bfOf_len⟩ (mkS_lt _ _) hvn hun
    rw [← ep101H rn 0] at hrun
    obtain ⟨t2, c1, c2, c3⟩ := pieceQ_some (t := entQ sr t' (arcE ((v, u), i))) hsr hrun (by rw [entQ_size]; exact q1) (fun i' j hj => by
      have e0 := (entQ_other ok (t := t') (e := arcE ((v, u), i)) w0).trans ((q3 0 w0).trans t0)
      have e135 := entQ_key ok (t := t') q1 (e := arcE ((v, u), i))
      rw [hd4] at e135
      unfold posn at hj
      by_cases h1 : 0 = i'
      · subst h1; cases hj; exact e0
      · rw [show Nat.beq 0 i' = false from natbeq_ne h1, cond_false] at hj
        unfold posn at hj
        by_cases h2 : 135 = i'
        · subst h2; cases hj; exact e135
        · rw [show Nat.beq 135 i' = false from natbeq_ne h2, cond_false] at hj
          cases hj)
    have hpc := pD_cons (D := D) hnd hx
    have o1 : OneW s t (orArc (pD L D) v u) := by rw [← hpc]; exact o.sub fun v u => pD_sub
    have hall := a1.lt
    refine ⟨t2, h2, c1, if u = t then (v : Int) else x, ?_, by rw [n2, n1]; simp only [List.length_cons]; omega, List.nodup_cons.2 ⟨hD', d1⟩, fun j hj => ?_, fun b hb b1 b2 b3 => ?_, fun b k hb hk => ?_, c2, ?_, fun j hj => ?_⟩
    · show FlB s t tv fb nb bb (firstOf n s (pD L (i :: D))) (nxOf n s (pD L (i :: D))) (bfOf n t (pD L (i :: D)) _) h2
      rw [hpc, show iv (if u = t then (v : Int) else x) = if u = t then iv (v : Nat) else iv x by split <;> rfl, bfOf_set o1]
      by_cases hvs : v = s
      · rw [if_pos hvs, if_pos hvs] at a2
        subst hvs
        rw [first_or hun, nx_same (o.sub fun v u => pD_sub)]
        exact a2
      · rw [if_neg hvs, if_neg hvs] at a2
        rw [first_same hvs, nxOf_set hvs o1]
        exact a2
    · rcases List.mem_cons.1 hj with rfl | hj
      · exact List.mem_map.2 ⟨_, hx, rfl⟩
      · exact d2 j hj
    · rw [g2 b b1 b2 b3 (by omega)]; exact f1 b hb b1 b2 b3
    · by_cases e1 : b = h'.nx
      · rw [e1, g3] at hk; cases hk; rfl
      · by_cases e2 : b = fb
        · have := a2.f; rw [e2] at hk; rw [this] at hk; cases hk; rfl
        · by_cases e3 : b = nb
          · have := a2.n; rw [e3] at hk; rw [this] at hk; cases hk; rfl
          · by_cases e4 : b = bb
            · have := a2.b; rw [e4] at hk; rw [this] at hk; cases hk; rfl
            · rw [g2 b e2 e3 e4 e1] at hk
              exact f2 b k hb hk
    · have hq : sr.qt ∉ AM.writ sr.bd := by rw [hqt]; exact wq
      rw [c3 _ hq]
      unfold entQ
      rw [put_other (by rw [hqt, hd4]; decide), put_other (by rw [hqt, hd3]; decide), put_other ok.sep.2, put_other ok.sep.1]
      exact q2
    · rw [c3 _ (ok.writ hj).2.2.2.2.2.2, entQ_other ok hj]
      exact q3 j hj
  · rintro D t' h' ⟨x, a1, n1, d1, d2, f1, f2, q1, q2, q3⟩ hall
    have hall' : ∀ y ∈ L, y.2 ∈ D := fun y hy => hall _ (List.mem_map.2 ⟨y, hy, rfl⟩)
    have hlen : D.length = L.length := by
      have h1 := nodup_leN d1 d2
      have h2 := nodup_leN hnd (m := D) fun i hi => by
        obtain ⟨y, hy, rfl⟩ := List.mem_map.1 hi
        exact hall' y hy
      rw [List.length_map] at h1 h2
      omega
    rw [pD_all hall'] at a1
    exact ⟨rfl, ⟨x, a1⟩, by rw [n1, hlen], f1, f2, by rw [endQ_size]; exact q1, fun i hi => by rw [endQ_other ok hi]; exact q3 i hi⟩
  · rintro e t' h1 ⟨rfl, ⟨x, a1⟩, n1, f1, f2, q1, q2⟩
    have hall := a.lt
    have hnef := a.ne
    have hbf : (bfOf n t (pA L) (iv x))[t]? = some (iv x) := by rw [bfOf_get ht, bfAt_t]
    refine ⟨_, ⟨n1.symm, fun b k' hk => ?_, fun b => ?_⟩, rfl, rfl, q1, q2⟩
    · simp only [apH] at hk
      split at hk
      · rename_i e1
        left
        rw [e1, a1.f, nxOf_len, bfOf_len]; exact hk
      · split at hk
        · rename_i e2
          left
          rw [e2, a1.n]; exact hk
        · split at hk
          · rename_i e3
            right
            refine ⟨_, t, .i64, x, 3, by rw [e3]; exact a1.b, hbf, ?_⟩
            rw [bfOf_x]
            cases hk; rfl
          · split at hk
            · rename_i e1 e2 e3 e4
              left
              rw [f1 b (by omega) e1 e2 e3]; exact hk
            · cases hk
    · simp only [apH]
      split
      · rename_i e1
        exact .inr (.inl ⟨_, by rw [e1]; exact a1.f, rfl⟩)
      · split
        · rename_i e2
          exact .inr (.inl ⟨_, by rw [e2]; exact a1.n, rfl⟩)
        · split
          · rename_i e3
            exact .inr (.inl ⟨_, by rw [e3]; exact a1.b, rfl⟩)
          · split
            · rename_i e1 e2 e3 e4
              left
              rw [f1 b (by omega) e1 e2 e3]
            · rename_i e4
              exact .inr (.inr (show 2 ≤ b by omega))
end Go.AM
end

section
namespace Go.AM
open Go.Proofs
variable {R : Type}
theorem len_addL : ∀ (L : List Spot) (y : Spot), (addL y L).length ≤ L.length := by
  intro L
  induction L with
  | nil => intro y; exact Nat.le_refl _
  | cons x L ih =>
    intro y
    rw [addL_cons]
    split
    · have := ih x; simp only [List.length_cons]; omega
    · have := ih x; simp only [List.length_cons]; omega
theorem len_cutL : ∀ (L : List Spot) (y : Spot), (cutL y L).length ≤ L.length := by
  intro L
  induction L with
  | nil => intro y; exact Nat.le_refl _
  | cons x L ih =>
    intro y
    rw [cutL_cons]
    split
    · have := ih x; simp only [List.length_cons]; omega
    · have := ih x; simp only [List.length_cons]; omega
theorem mp_ne {h : H} {e : TypeId} {sz : Nat} {v : Value} {l : List (List Value)} {mb : Nat} {es : List MapEntry} {c : Nat} (a : SlR h e sz v l) (hm : h.blk mb = some (.mp es c)) : blkOf v ≠ some mb := by
  intro hb
  obtain ⟨_, cs, own, h1⟩ := a.blkR hb
  rw [hm] at h1
  cases h1
section
variable {g : List Nat} {s t lo fb nb bb first : Nat} {tv : Value} {nxt : List Int} {bf : List Value} {h : H}
set_option maxHeartbeats 1000000 in
/-- Apply, up to its last loop. -/
theorem ap_walk {kv : List (Spot × Spot)} {m0 : Nat} {L0 : List Spot} (a : FlH g s t lo tv fb nb bb first nxt bf h) (w : StW g s t first nxt bf) (hg : GrN g) (hs : s < g.length) (hst : s ≠ t)
    (hm0 : h.blk m0 = some (mpOf spV (kvV kv))) (hml : m0 < h.nx) (r : SrI (adjP g) s (flS s first nxt) kv) (hp : PK s kv (t, false) L0) (hL : L0.length ≤ 40) (f' : FlW (adjP g) s t (turnL (flS s first nxt) (t, false) L0)) :
    ∃ (h41 : H) (mb clk : Nat) (L : List ((Nat × Nat) × Nat)), (∀ RG, f101H RG rn 100 (pt fb 0) (.map (some m0)) (spV (s, true)) (spV (t, false)) h = lp 100 RG [pt fb 0, .map (some mb)] h41 fun _ _ h42 => some (undef, h42)) ∧
      FlB s t tv fb nb bb 0 (List.replicate g.length (-1)) (List.replicate g.length (iv (-1))) h41 ∧ h41.blk mb = some (.mp (L.map arcE) clk) ∧ (mb ≠ fb ∧ mb ≠ nb ∧ mb ≠ bb) ∧ mb < h41.nx ∧ (∀ x ∈ L, x.2 < clk) ∧ (L.map (·.2)).Nodup ∧ (∀ x ∈ L, x.1.1 < g.length ∧ x.1.2 < g.length) ∧ pA L = turnL (flS s first nxt) (t, false) L0 ∧
      h.nx ≤ h41.nx ∧ ∀ b, b < h.nx → b ≠ fb → b ≠ nb → b ≠ bb → h41.blk b = h.blk b := by
  have hlen := hg.len
  have hf10 : first < 1024 := Nat.lt_of_lt_of_le w.fb hg.pow
  have halt := a.lt
  have hks : ∀ p ∈ kv, p.1 ≠ (s, true) := fun p hp e => (r.mem (y := p.1) (x := p.2) hp).2 (by rw [e])
  -- the two variables
  obtain ⟨h1, hh1⟩ : ∃ h1, h1 = h.new (.row (spC (s, true)) 142 true) := ⟨_, rfl⟩
  have x1 : Ext h h1 := hh1 ▸ .new _ _
  have n1 : h1.nx = h.nx + 1 := by rw [hh1]; rfl
  have b1 : h1.blk h.nx = some (.row (spC (s, true)) 142 true) := by rw [hh1]; exact blk_new_self _ _
  obtain ⟨h2, hh2⟩ : ∃ h2, h2 = h1.new (.row (spC (t, false)) 142 true) := ⟨_, rfl⟩
  have x2 : Ext h1 h2 := hh2 ▸ .new _ _
  have n2 : h2.nx = h1.nx + 1 := by rw [hh2]; rfl
  have b2 : h2.blk h1.nx = some (.row (spC (t, false)) 142 true) := by rw [hh2]; exact blk_new_self _ _
  obtain ⟨h4, hh4⟩ : ∃ h4, h4 = h2.var (.row (spC (t, false)) 142 true) := ⟨_, rfl⟩
  have x4 : Ext h2 h4 := hh4 ▸ .var _ _
  have n4 : h4.nx = h2.nx + 1 := by rw [hh4]; rfl
  have b4 : h4.blk h2.nx = some (.row (spC (t, false)) 142 true) := by rw [hh4]; exact var_at _ _
  have x04 := (x1.trans x2).trans x4
  -- the path
  obtain ⟨cv, av, yv, h18, e18, f18, c18, a18⟩ := ap_l1 (lo := h2.nx) (h0 := h) r.nd hks (by omega) (by omega) hp h4 (.slice none 0 0) (.slice none 0 0) [] [] h2.nx 100 (by omega) (by simp; omega) (by simp; omega) ((x04.blk _ hml).trans hm0) ((x4.blk _ (by omega)).trans ((x2.blk _ (by omega)).trans b1)) b4 (by omega) (by omega) .nil .nil (fun q hq => by cases hq)
  rw [List.nil_append] at c18 a18
  have n18 := f18.nx
  -- the map
  obtain ⟨h19, hh19⟩ : ∃ h19, h19 = h18.new (.mp [] 0) := ⟨_, rfl⟩
  have x8 : Ext h18 h19 := hh19 ▸ .new _ _
  have n19 : h19.nx = h18.nx + 1 := by rw [hh19]; rfl
  have b19 : h19.blk h18.nx = some (.mp [] 0) := by rw [hh19]; exact blk_new_self _ _
  have f019 : ∀ b, b < h.nx → h19.blk b = h.blk b := fun b hb => by rw [x8.blk b (by omega), f18.blk b (by omega), x04.blk b hb]
  have a19 : FlB s t tv fb nb bb first nxt bf h19 := a.toB.keep (by omega) f019
  have m19 : ArM h19 h18.nx g.length (fun _ _ => False) := ⟨⟨[], 0, b19, (fun x hx => by cases hx), List.nodup_nil, List.nodup_nil, fun v u => by simp⟩, by omega, fun v u h => h.elim⟩
  have hne : h18.nx ≠ fb ∧ h18.nx ≠ nb ∧ h18.nx ≠ bb := ⟨by omega, by omega, by omega⟩
  obtain ⟨v27, h20, e54, x20, s34⟩ := s54 hf10 h19
  have x20' := x20.toExt
  have n20 := x20'.nx
  have c76 := fun (K : Value → H → Option (Value × H)) => calls_eq (K := K) (xs := [iv (first : Nat)]) e54
  have hlen27 : ∀ {T : Type} (K : Int → Option T), len v27 K = K ((elts first).length : Nat) := fun K => by rw [s34.len]; simp
  have a20 := a19.keep n20 fun b hb => x20'.blk b hb
  have m20 := m19.exo x20'
  have b20 := (x20'.blk _ (by omega)).trans b19
  obtain ⟨h23, e23, x23, m23⟩ := ap_l2 (h18 := h18) (S := fun _ _ => False) a20 s34 (by have := elts_len first; have := pop_le_n (n := 10) (Nat.le_refl _) hf10; omega) (fun u hu => bit_lt w.fb ((mem_elts hf10).1 hu)) hs m20 hne (mp_ne s34 b20)
  have a23 := a20.exo x23 fun b e => by cases e; exact hne
  have n23 := x23.nx
  obtain ⟨h26, e26, x26, m26⟩ := ap_l3 (h18 := h18) a23 w.nxl (by omega) (fun v u hu => by
    have hvs : v ≠ s := fun e => by
      rw [e, w.nxs, Option.some.injEq] at hu
      omega
    exact (hg.toGrB.adj_lt (w.fl.sub v u (.inr ⟨hvs, hu⟩))).2) m23 hne
  have n26 := x26.nx
  have x2326 : Exo (some h18.nx) h20 h26 := x23.trans x26
  have keepS : ∀ {v : Value} {l : List (List Value)} {h' : H}, AqR h2.nx h18 157 2 v l → Exo (some h18.nx) h20 h' → SlR h' 157 2 v l := fun {v l h'} q x => by
    have hx : Ext h18 h20 := x8.trans x20'
    refine (q.slR.ext hx).keepB x.nx fun b hb => x.blk b ((q.slR.ext hx).blkR hb).1 fun e => ?_
    have := (q.blkOf hb).2.1
    cases e
    omega
  obtain ⟨L26, c26, bm26, _⟩ := m26.ex
  obtain ⟨h31, e63, x63, m31⟩ := ap_l4 (h18 := h18) (ws1 := [cv, av, yv]) (l := cutL (t, false) L0) (keepS c18 x2326) (by have := len_cutL L0 (t, false); omega) m26 (mp_ne (keepS c18 x2326) bm26)
  have n31 := x63.nx
  obtain ⟨L31, c31, bm31, _⟩ := m31.ex
  have x2031 := x2326.trans x63
  obtain ⟨h36, e87, x87, m36⟩ := ap_l5 (h18 := h18) (ws1 := [cv, av, yv]) (l := addL (t, false) L0) (keepS a18 x2031) (by have := len_addL L0 (t, false); omega) (fun v u h => hg.toGrB.adj_lt (f'.sub v u (.inr h))) m31 (mp_ne (keepS a18 x2031) bm31)
  have n36 := x87.nx
  have x2036 := x2031.trans x87
  have a36 := a20.exo x2036 fun b e => by cases e; exact hne
  obtain ⟨h37, e88, a37, n37, f88⟩ := a36.stF (R := Value × H) 0
  have e88' : ∀ (K : H → Option (Value × H)), st Tryd.prog h36 3 fb (off 0 3) (.int .i64 0) K = K h37 := e88
  obtain ⟨h41, e91, a41, n41, f91⟩ := ap_l6 a37 w.nxl w.bfl (by omega)
  obtain ⟨L, clk, q1, q2, q3, q4, q5⟩ := m36.ex
  have hS : ∀ v u, pA L v u ↔ turnL (flS s first nxt) (t, false) L0 v u := by
    intro v u
    unfold pA
    rw [← q5]
    unfold turnL
    have hF : ((False ∨ (v = s ∧ u ∈ elts first)) ∨ nxt[v]? = some (u : Int)) ↔ flS s first nxt v u := by
      rw [mem_elts hf10]
      unfold flS
      constructor
      · rintro ((h | h) | h)
        · exact h.elim
        · exact .inl h
        · refine .inr ⟨fun e => ?_, h⟩
          rw [e, w.nxs, Option.some.injEq] at h
          omega
      · rintro (h | h)
        · exact .inl (.inr h)
        · exact .inr h.2
    rw [hF]
  refine ⟨h41, h18.nx, clk, L, fun RG => ?_, a41, ?_, hne, by omega, q2, q3, fun x hx => ?_, ?_, by omega, fun b hb c1 c2 c3 => ?_⟩
  · unfold f101H
    rw [bx_eq, show (spV (s, true)).cells.toList = spC (s, true) from rfl, ← hh1, bx_eq, show (spV (t, false)).cells.toList = spC (t, false) from rfl, ← hh2, nx_eq, ldS b2, alS, ← hh4, nx_eq, lp_eq e18, onE_exit, if_pos rfl, mkm_eq, ← hh19, nilp, asP_ptr, a19.ldf, asI_int, c76, hlen27, lp_eq e23, onE_exit, if_pos rfl, nilp, asP_ptr, a23.ldn, len_slice, w.nxl]
    rw [w.nxl] at e26
    rw [lp_eq e26, onE_exit, if_pos rfl, gv30, gv31, (keepS c18 x2326).len, List.length_map, lp_eq e63, onE_exit, if_pos rfl, (keepS a18 x2031).len, List.length_map, lp_eq e87, onE_exit, if_pos rfl, nilp, asP_ptr, e88', nilp, asP_ptr, a37.ldn, len_slice, w.nxl, lp_eq e91, onE_exit, if_pos rfl, nx_eq]
  · rw [f91 _ hne.2.1 hne.2.2, f88 _ hne.1]; exact q1
  · exact m36.bd x.1.1 x.1.2 ((q5 _ _).2 (List.mem_map.2 ⟨x, hx, rfl⟩))
  · funext v u; exact propext (hS v u)
  · rw [f91 b c2 c3, f88 b c1, x2036.blk b (by omega) (fun e => by cases e; omega), x20'.blk b (by omega)]
    exact f019 b hb
end
end Go.AM
end

section
namespace Go.AM
open Go.Proofs
section
variable {g : List Nat} {s t lo fb nb bb first : Nat} {tv : Value} {nxt : List Int} {bf : List Value} {h : H}
theorem ap_sure (hmix : Tryd.prog.follows .mixedOrders = true) {kv : List (Spot × Spot)} {m0 : Nat} {L0 : List Spot} (a : FlH g s t lo tv fb nb bb first nxt bf h) (w : StW g s t first nxt bf) (hg : GrN g) (hs : s < g.length) (ht : t < g.length) (hst : s ≠ t)
    (hm0 : h.blk m0 = some (mpOf spV (kvV kv))) (hml : m0 < h.nx) (r : SrI (adjP g) s (flS s first nxt) kv) (hp : PK s kv (t, false) L0) (hL : L0.length ≤ 40) (f' : FlW (adjP g) s t (turnL (flS s first nxt) (t, false) L0)) :
    ∃ h', Sure Tryd.prog E0 101 #[pt fb 0, .map (some m0), spV (s, true), spV (t, false)] h undef h' ∧
      FlH g s t lo tv fb nb bb (firstOf g.length s (turnL (flS s first nxt) (t, false) L0)) (nxOf g.length s (turnL (flS s first nxt) (t, false) L0)) (bfOf g.length t (turnL (flS s first nxt) (t, false) L0) (.chan none)) h' ∧
      h.nx ≤ h'.nx ∧ ∀ b, b < h.nx → b ≠ fb → b ≠ nb → b ≠ bb → h'.blk b = h.blk b := by
  have hlen := hg.len
  have halt := a.lt
  have hane := a.ne
  have hlo := a.lo
  obtain ⟨h41, mb, clk, L, e, a41, q1, q2, q3, q4, q5, q6, q7, q8, q9⟩ := ap_walk a w hg hs hst hm0 hml r hp hL f'
  obtain ⟨sr, hsr, i1, i2, i3, i4, i5, i6, i7⟩ := rq101_is
  have o : OneW s t (pA L) := by rw [q7]; exact ⟨f'.out1, f'.in1⟩
  have hrg := rg101 hmix hsr i1 i2 i3 i4 i5 i6 i7 a41 q1 q2 q3 q4 q5 q6 o ht hlen (h.wr + 1) h.nx (by omega) q8
  obtain ⟨h', hh'⟩ : ∃ h', h' = apH h41 s t tv fb nb bb g.length (pA L) L.length (h.wr + 1) h.nx := ⟨_, rfl⟩
  rw [← hh'] at hrg
  have hrun : f101H (onePt [pt fb 0, .map (some mb)] h41 h') rn 100 (pt fb 0) (.map (some m0)) (spV (s, true)) (spV (t, false)) h = some (undef, h') := by
    rw [e]
    exact lp_eq (lpGo_ret (onePt_at _ _ _))
  rw [← e101H] at hrun
  have hrec : SoundR Tryd.prog E0 rn := run_sound hmix
  have b := bodyQ_calls hrec (draw_ok hmix hrec) hsr hrg hrun
  have hn' : h'.nx = h41.nx + 1 + L.length := by rw [hh']; rfl
  have fr : ∀ b, b < h.nx → b ≠ fb → b ≠ nb → b ≠ bb → h'.blk b = h.blk b := fun b hb c1 c2 c3 => by
    rw [hh', ← q9 b hb c1 c2 c3]
    simp only [apH]
    rw [if_neg c1, if_neg c2, if_neg c3, if_pos hb]
  have bfe : h'.blk fb = some (.row [tv, iv s, iv t, iv (firstOf g.length s (pA L) : Nat), .slice (some ⟨nb, 0, none⟩) g.length g.length, .slice (some ⟨bb, 0, none⟩) g.length g.length] 112 true) := by
    rw [hh']; exact if_pos rfl
  have bne : h'.blk nb = some (.row ((nxOf g.length s (pA L)).map iv) 3 true) := by
    rw [hh']; exact (if_neg (Ne.symm hane.1)).trans (if_pos rfl)
  have bbe : h'.blk bb = some (.row (bfOf g.length t (pA L) (.chan none)) 3 true) := by
    rw [hh']; exact ((if_neg (Ne.symm hane.2.1)).trans (if_neg (Ne.symm hane.2.2))).trans (if_pos rfl)
  have htvb : ∀ q, blkOf tv = some q → h'.blk q = h.blk q := fun q hq => by
    have := a.tvlo q hq
    exact fr q (a.tvs.blkR hq).1 (by omega) (by omega) (by omega)
  refine ⟨h', ⟨b.1, ⟨by omega, by rw [hh']; exact Nat.le_succ _, fun e => ?_, fun q k hk ho => ?_⟩, b.2⟩, ?_, by omega, fr⟩
  · exfalso
    rw [hh'] at e
    have : h.wr + 1 = h.wr := e
    omega
  · by_cases c1 : q = fb
    · rw [c1, bfe] at hk; cases hk; cases ho
    · by_cases c2 : q = nb
      · rw [c2, bne] at hk; cases hk; cases ho
      · by_cases c3 : q = bb
        · rw [c3, bbe] at hk; cases hk; cases ho
        · by_cases c4 : q < h.nx
          · rw [← fr q c4 c1 c2 c3]; exact hk
          · rw [hh'] at hk
            simp only [apH] at hk
            rw [if_neg c1, if_neg c2, if_neg c3, if_neg c4] at hk
            cases hk
  · rw [← q7]
    refine ⟨a.tvs.keepB (by omega) htvb, a.tvlo, ?_, bne, bbe, a.ne, a.lo, by omega, by omega, by omega⟩
    rw [nxOf_len, bfOf_len]; exact bfe
end
end Go.AM
end

section
namespace Go.AM
open Go.Proofs
theorem mapIv_inj {l l' : List Int} (h : l.map iv = l'.map iv) : l = l' := by
  refine List.map_inj_right (f := iv) ?_ |>.1 h
  intro a b e
  injection e
theorem slN_inj {h : H} {v : Value} {g g' : List Nat} (a : SlR h 3 1 v (cellsN g)) (b : SlR h 3 1 v (cellsN g')) : g = g' := by
  have h1 := (a.srcAll (by decide)).symm.trans (b.srcAll (by decide))
  simp only [Option.some.injEq] at h1
  have h2 : ∀ g : List Nat, (cellsN g).flatten = (g.map Int.ofNat).map iv := by
    intro g
    induction g with
    | nil => rfl
    | cons x g ih =>
      show iv (x : Int) :: (cellsN g).flatten = _
      rw [ih]; rfl
  rw [h2, h2] at h1
  have h3 := mapIv_inj h1
  exact (List.map_inj_right fun a b e => Int.ofNat.inj e).1 h3
/-- What apply leaves. -/
def PostA (g : List Nat) (s t lo : Nat) (tv : Value) (fb nb bb first : Nat) (h h' : H) : Prop :=
  ∃ first' nxt' bf', FlH g s t lo tv fb nb bb first' nxt' bf' h' ∧ StW g s t first' nxt' bf' ∧ pop first' = pop first + 1 ∧ h.nx ≤ h'.nx ∧ ∀ b, b < h.nx → b ≠ fb → b ≠ nb → b ≠ bb → h'.blk b = h.blk b
def GoodA (args : Array Value) (h : H) (r : Value × H) : Prop :=
  Sure Tryd.prog E0 101 args h r.1 r.2 ∧ ∀ g s t lo tv fb nb bb first nxt bf, args[0]? = some (pt fb 0) → FlH g s t lo tv fb nb bb first nxt bf h → StW g s t first nxt bf → PostA g s t lo tv fb nb bb first h r.2
open Classical in
/-- Apply, told. -/
noncomputable def g101 (args : Array Value) (h : H) : Option (Value × H) := if hx : ∃ r, GoodA args h r then some hx.choose else none
theorem g101_some {args : Array Value} {h h' : H} {v : Value} (e : g101 args h = some (v, h')) : GoodA args h (v, h') := by
  unfold g101 at e
  split at e
  · rename_i hx
    have := hx.choose_spec
    simp only [Option.some.injEq] at e
    rw [e] at this
    exact this
  · cases e
theorem g101_of {args : Array Value} {h : H} {r : Value × H} (x : GoodA args h r) : ∃ v h', g101 args h = some (v, h') ∧ GoodA args h (v, h') := by
  unfold g101
  have hx : ∃ r, GoodA args h r := ⟨r, x⟩
  rw [dif_pos hx]
  exact ⟨_, _, rfl, hx.choose_spec⟩
section
variable {g : List Nat} {s t lo fb nb bb first : Nat} {tv : Value} {nxt : List Int} {bf : List Value} {h : H}
theorem FlH.uniq {g' : List Nat} {s' t' lo' nb' bb' first' : Nat} {tv' : Value} {nxt' : List Int} {bf' : List Value} (a : FlH g s t lo tv fb nb bb first nxt bf h) (b : FlH g' s' t' lo' tv' fb nb' bb' first' nxt' bf' h) :
    g' = g ∧ s' = s ∧ t' = t ∧ tv' = tv ∧ nb' = nb ∧ bb' = bb ∧ first' = first ∧ nxt' = nxt ∧ bf' = bf := by
  have h1 := a.f.symm.trans b.f
  simp only [Option.some.injEq, Blk.row.injEq, List.cons.injEq, Value.int.injEq, Value.slice.injEq, Addr.mk.injEq, and_true, true_and] at h1
  obtain ⟨e1, e2, e3, e4, ⟨e5, _⟩, e6, _⟩ := h1
  subst e1
  subst e5
  subst e6
  have h2 := a.n.symm.trans b.n
  have h3 := a.b.symm.trans b.b
  simp only [Option.some.injEq, Blk.row.injEq, and_true] at h2 h3
  have := mapIv_inj h2
  exact ⟨(slN_inj a.tvs b.tvs).symm, by omega, by omega, rfl, rfl, rfl, by omega, this.symm, h3.symm⟩
theorem FlH.relo {lo' first' : Nat} {nxt' : List Int} {bf' : List Value} {h' : H} (a : FlH g s t lo tv fb nb bb first' nxt' bf' h') (b : FlH g s t lo' tv fb nb bb first nxt bf h) : FlH g s t lo' tv fb nb bb first' nxt' bf' h' :=
  ⟨a.tvs, b.tvlo, a.f, a.n, a.b, a.ne, b.lo, a.lt⟩
theorem cnt_more {n : Nat} {p q : Nat → Prop} {u : Nat} (hu : u < n) (hp : ¬ p u) (hq : ∀ i, q i ↔ p i ∨ i = u) : cntN n q = cntN n p + 1 := by
  rw [cnt_split n q (fun i => i = u), cnt_one hu ((hq u).2 (.inr rfl))]
  have : cntN n (fun i => q i ∧ ¬ i = u) = cntN n p := cnt_congr fun i _ => ⟨fun h => ((hq i).1 h.1).resolve_right h.2, fun h => ⟨(hq i).2 (.inl h), fun e => hp (e ▸ h)⟩⟩
  rw [this]; omega
theorem ap_g (hmix : Tryd.prog.follows .mixedOrders = true) {kv : List (Spot × Spot)} {m0 : Nat} {x : Spot} (a : FlH g s t lo tv fb nb bb first nxt bf h) (w : StW g s t first nxt bf) (hg : GrN g) (hs : s < g.length) (ht : t < g.length) (hst : s ≠ t)
    (hm0 : h.blk m0 = some (mpOf spV (kvV kv))) (hml : m0 < h.nx) (r : SrI (adjP g) s (flS s first nxt) kv) (hkt : ∀ p ∈ kv, p.1.1 = t → p.1 = (t, false)) (hx : ((t, false), x) ∈ kv) (hk : kv.length ≤ 40) :
    ∃ v h', g101 #[pt fb 0, .map (some m0), spV (s, true), spV (t, false)] h = some (v, h') ∧ PostA g s t lo tv fb nb bb first h h' := by
  obtain ⟨L, p1, p2, p3, u0, p4, p5, p6, p7⟩ := r.turn w.fl hst hkt hx
  obtain ⟨h', q1, q2, q3, q4⟩ := ap_sure hmix a w hg hs ht hst hm0 hml r p1 (by omega) p3
  have hgood : GoodA #[pt fb 0, .map (some m0), spV (s, true), spV (t, false)] h (undef, h') := by
    refine ⟨q1, ?_⟩
    intro g1 s1 t1 lo1 tv1 fb1 nb1 bb1 first1 nxt1 bf1 hfb a1 w1
    have e : fb1 = fb := by
      simp [pt] at hfb
      omega
    subst e
    obtain ⟨rfl, rfl, rfl, rfl, rfl, rfl, rfl, rfl, rfl⟩ := a.uniq a1
    obtain ⟨w2, w3⟩ := StW.of p3 hg.toGrB hs (.chan none)
    refine ⟨_, _, _, q2.relo a1, w2, ?_, q3, q4⟩
    rw [← w2.count hg.toGrB, ← w1.count hg.toGrB]
    refine cnt_more (u := u0) (hg.toGrB.adj_lt p5).2 p4 fun i => ?_
    rw [w3]
    exact p7 i
  obtain ⟨v, h2, e, gd⟩ := g101_of hgood
  exact ⟨v, h2, e, gd.2 _ _ _ _ _ _ _ _ _ _ _ rfl a w⟩
end
end Go.AM
end

section
namespace Go.AM
open Go.Proofs
variable {R : Type}
section
variable {g : List Nat} {s t lo fb nb bb first : Nat} {tv : Value} {nxt : List Int} {bf : List Value} {h : H}
theorem gv20 (a b : Value) : AM.gv [a, b] 0 = a := rfl
theorem gv21 (a b : Value) : AM.gv [a, b] 1 = b := rfl
theorem kbldS (a : Nat) (q : Bool) (K : Value → Option R) : bld Tryd.prog 142 [(0, .int .i64 (a : Int)), (1, .bool q)] K = K (spV (a, q)) := kbld142 _ _ _
theorem st5 {u i : Nat} {n : Int} {v115 sv : Value} {g' : H} {k : Nat} (w : StW g s t first nxt bf) (hi : i < 20) (hu : u < 10) (hf : first < 1024) (a : FlH g s t lo tv fb nb bb first nxt bf g') (e1 : ∀ (K : Value → Option (Ex × List Value × H)), (six v115 (i : Int) 1 fun b o => ld Tryd.prog g' 3 b o K) = K (iv (u : Int))) (e2 : ∀ (K : Value → Option (Ex × List Value × H)), ld Tryd.prog g' 3 h.nx 0 K = K (iv (s : Int))) (hlt : AM.lt (i : Int) n = true) :
    f100_l5 rn k (pt fb 0) h v115 n [sv, iv (i : Nat)] g' = if fwdQ s first nxt s u = true then (bls Tryd.prog g' 143 1 [(0, spV (u, false))] fun v5 h5 => app Tryd.prog h5 143 143 sv v5 fun v6 h6 => some (.normal, [v6, iv ((i + 1 : Nat) : Int)], h6)) else some (.normal, [sv, iv ((i + 1 : Nat) : Int)], g') := by
  have hadd : add .i64 (i : Int) 1 = ((i + 1 : Nat) : Int) := by rw [add64 (by omega) (by omega)]; omega
  have hq : fwdQ s first nxt s u = (decide (u ≠ s) && !first.testBit u) := by
    unfold fwdQ usedW onW
    simp
  unfold f100_l5
  rw [gv20, gv21, asI_int, hlt, ifB_true, asK_int, e1, asI_int, nx_eq, e2, asI_int, nilp, asP_ptr, a.lds, asI_int, eqN', decide_eq_true rfl, ifB_true, nilp, asP_ptr, a.ldf, asI_int, nn_ge (by omega), hq]
  have hb : AM.eq (AM.and .i64 (shr .i64 (first : Int) (u : Int)) 1) 1 = first.testBit u := by
    have := bit_eq1 (a := first) (p := u) (by omega) (by omega)
    rw [Bool.eq_iff_iff, ← this]
    simp [AM.eq]
  rw [hb]
  cases hc : first.testBit u with
  | true =>
    rw [ifB_true, nilp, asP_ptr, a.lds, asI_int, asI_int, hadd]
    cases (!AM.eq (u : Int) (s : Int)) <;> simp [AM.ifB, out]
  | false =>
    rw [ifB_false, nilp, asP_ptr, a.lds, asI_int, eqN']
    by_cases hs : u = s
    · rw [decide_eq_true hs, Bool.not_true, ifB_false, asI_int, hadd]
      simp [hs, out]
    · rw [decide_eq_false hs, Bool.not_false, ifB_true, kbldS]
      simp only [asI_int, hadd, out]
      simp [hs]
theorem st4 {u i v : Nat} {n n3 : Int} {v115 sv : Value} {g' : H} {k : Nat} (hvs : v ≠ s) (h3 : n3 < 0) (ho : onW s nxt v = false) (hi : i < 20) (a : FlH g s t lo tv fb nb bb first nxt bf g') (e1 : ∀ (K : Value → Option (Ex × List Value × H)), (six v115 (i : Int) 1 fun b o => ld Tryd.prog g' 3 b o K) = K (iv (u : Int))) (e2 : ∀ (K : Value → Option (Ex × List Value × H)), ld Tryd.prog g' 3 h.nx 0 K = K (iv (v : Int))) (hlt : AM.lt (i : Int) n = true) :
    f100_l4 rn k (pt fb 0) h n3 v115 n [sv, iv (i : Nat)] g' = if fwdQ s first nxt v u = true then (bls Tryd.prog g' 143 1 [(0, spV (u, false))] fun v5 h5 => app Tryd.prog h5 143 143 sv v5 fun v6 h6 => some (.normal, [v6, iv ((i + 1 : Nat) : Int)], h6)) else some (.normal, [sv, iv ((i + 1 : Nat) : Int)], g') := by
  have hadd : add .i64 (i : Int) 1 = ((i + 1 : Nat) : Int) := by rw [add64 (by omega) (by omega)]; omega
  have hq : fwdQ s first nxt v u = decide (u ≠ s) := by
    unfold fwdQ usedW
    rw [decide_eq_false hvs, ho]
    simp
  unfold f100_l4
  rw [gv20, gv21, asI_int, hlt, ifB_true, asK_int, e1, asI_int, nx_eq, e2, asI_int, nilp, asP_ptr, a.lds, asI_int, eqN', decide_eq_false hvs, ifB_false, show AM.le 0 n3 = false by simp [AM.le]; omega, ifB_false, nilp, asP_ptr, a.lds, asI_int, eqN', hq]
  by_cases hs : u = s
  · rw [decide_eq_true hs, Bool.not_true, ifB_false, asI_int, hadd]
    simp [hs, out]
  · rw [decide_eq_false hs, Bool.not_false, ifB_true, kbldS]
    simp only [asI_int, hadd, out]
    simp [hs]
theorem st1 {u i v : Nat} {n n3 : Int} {v115 sv : Value} {g' : H} {k : Nat} (hvs : v ≠ s) (h3 : nxt[v]? = some n3) (h30 : 0 ≤ n3) (ho : onW s nxt v = true) (hi : i < 20) (a : FlH g s t lo tv fb nb bb first nxt bf g') (e1 : ∀ (K : Value → Option (Ex × List Value × H)), (six v115 (i : Int) 1 fun b o => ld Tryd.prog g' 3 b o K) = K (iv (u : Int))) (e2 : ∀ (K : Value → Option (Ex × List Value × H)), ld Tryd.prog g' 3 h.nx 0 K = K (iv (v : Int))) (hlt : AM.lt (i : Int) n = true) :
    f100_l1 rn k (pt fb 0) h n3 v115 n [sv, iv (i : Nat)] g' = if fwdQ s first nxt v u = true then (bls Tryd.prog g' 143 1 [(0, spV (u, false))] fun v5 h5 => app Tryd.prog h5 143 143 sv v5 fun v6 h6 => some (.normal, [v6, iv ((i + 1 : Nat) : Int)], h6)) else some (.normal, [sv, iv ((i + 1 : Nat) : Int)], g') := by
  have hadd : add .i64 (i : Int) 1 = ((i + 1 : Nat) : Int) := by rw [add64 (by omega) (by omega)]; omega
  have hq : fwdQ s first nxt v u = (decide (u ≠ s) && !decide (n3 = (u : Int))) := by
    unfold fwdQ usedW
    rw [decide_eq_false hvs, ho, List.getD_eq_getElem?_getD, h3]
    simp
  unfold f100_l1
  rw [gv20, gv21, asI_int, hlt, ifB_true, asK_int, e1, asI_int, nx_eq, e2, asI_int, nilp, asP_ptr, a.lds, asI_int, eqN', decide_eq_false hvs, ifB_false, show AM.le 0 n3 = true by simp [AM.le]; omega, ifB_true, nilp, asP_ptr, a.ldn, e2, asI_int, a.getn h3, asI_int, nilp, asP_ptr, a.lds, asI_int, eqN', hq, show AM.eq n3 (u : Int) = decide (n3 = (u : Int)) from rfl]
  by_cases hs : u = s
  · rw [decide_eq_true hs, Bool.not_true, ifB_false, asI_int, hadd]
    simp [hs, out]
  · rw [decide_eq_false hs, Bool.not_false, ifB_true]
    by_cases hn : n3 = (u : Int)
    · rw [decide_eq_true hn, Bool.not_true, ifB_false, asI_int, hadd]
      simp [hs, out]
    · rw [decide_eq_false hn, Bool.not_false, ifB_true, kbldS]
      simp only [asI_int, hadd, out]
      simp [hs]
theorem s100 {v : Nat} {b : Bool} (c : AhC g s t lo tv fb nb bb first nxt bf v b h) : ∃ v' h', rn 100 #[pt fb 0, spV (v, b)] h = some (v', h') ∧ Exw h h' ∧ SlR h' 142 2 v' (cellsS (aheadL g s first nxt (v, b))) ∧ ∀ q, blkOf v' = some q → h.nx < q := by
  have hlen := c.hg.len
  have hnb : AM.nb g v < 1024 := Nat.lt_of_lt_of_le (c.hg.nb_lt v) c.hg.pow
  have hf : first < 1024 := Nat.lt_of_lt_of_le c.st.fb c.hg.pow
  obtain ⟨h1, hh1⟩ : ∃ h1, h1 = h.new (.row (spC (v, b)) 142 true) := ⟨_, rfl⟩
  have x0 : Ext h h1 := hh1 ▸ .new _ _
  have n1 : h1.nx = h.nx + 1 := by rw [hh1]; rfl
  have b1 : h1.blk h.nx = some (.row (spC (v, b)) 142 true) := by rw [hh1]; exact blk_new_self _ _
  have a1 := c.a.ext x0
  have l1 : ∀ {T : Type} {g' : H}, Ext h1 g' → ∀ (K : Value → Option T), ld Tryd.prog g' 3 h.nx 0 K = K (iv (v : Int)) := fun x K => by rw [d3, cell_of ((x.blk _ (by omega)).trans b1)]; rfl
  have lq : ∀ {T : Type} (K : Value → Option T), ld Tryd.prog h1 4 h.nx (off 0 1) K = K (.bool b) := fun K => by rw [d4, cell_of b1]; rfl
  have gT : ∀ {T : Type} {g' : H} (_ : FlH g s t lo tv fb nb bb first nxt bf g') (K : Value → Option T), (six tv (v : Int) 1 fun b o => ld Tryd.prog g' 3 b o K) = K (iv (AM.nb g v : Nat)) := fun a K => by
    simp only [d3]; exact getN a.tvs c.hv K
  have fin5 : ∀ (v115 : Value) (n : Nat) (sv : Value) (g' : H), f100_l5 rn 100 (pt fb 0) h v115 n [sv, iv (n : Nat)] g' = some (.exit 0, [sv, iv (n : Nat)], g') := fun v115 n sv g' => by
    unfold f100_l5
    rw [gv21, asI_int, show AM.lt (n : Int) (n : Int) = false by simp [AM.lt]]
    rfl
  have fin4 : ∀ (n3 : Int) (v115 : Value) (n : Nat) (sv : Value) (g' : H), f100_l4 rn 100 (pt fb 0) h n3 v115 n [sv, iv (n : Nat)] g' = some (.exit 0, [sv, iv (n : Nat)], g') := fun n3 v115 n sv g' => by
    unfold f100_l4
    rw [gv21, asI_int, show AM.lt (n : Int) (n : Int) = false by simp [AM.lt]]
    rfl
  have fin1 : ∀ (n3 : Int) (v115 : Value) (n : Nat) (sv : Value) (g' : H), f100_l1 rn 100 (pt fb 0) h n3 v115 n [sv, iv (n : Nat)] g' = some (.exit 0, [sv, iv (n : Nat)], g') := fun n3 v115 n sv g' => by
    unfold f100_l1
    rw [gv21, asI_int, show AM.lt (n : Int) (n : Int) = false by simp [AM.lt]]
    rfl
  have key : (∃ v' h', f100 rn 100 (pt fb 0) (spV (v, b)) h = some (v', h') ∧ Ext h h' ∧ SlR h' 142 2 v' (cellsS (aheadL g s first nxt (v, b))) ∧ ∀ q, blkOf v' = some q → h.nx < q) → ∃ v' h', rn 100 #[pt fb 0, spV (v, b)] h = some (v', h') ∧ Exw h h' ∧ SlR h' 142 2 v' (cellsS (aheadL g s first nxt (v, b))) ∧ ∀ q, blkOf v' = some q → h.nx < q := by
    rintro ⟨v', h', e, x, sl, fq⟩
    obtain ⟨h2, e2, m2, w2⟩ := x100 e sl.notR
    exact ⟨v', h2, e2, w2 x, sl.ext m2.ext, fq⟩
  refine key ?_
  obtain ⟨vE, h2, e54, x54, s54r⟩ := s54 hnb h1
  have c76 := fun (K : Value → H → Option (Value × H)) => calls_eq (K := K) (xs := [iv (AM.nb g v : Nat)]) e54
  have hlenE : ∀ {T : Type} (K : Int → Option T), len vE K = K ((elts (AM.nb g v)).length : Nat) := fun K => by rw [s54r.len]; simp
  unfold f100
  rw [bx_eq, show (spV (v, b)).cells.toList = spC (v, b) from rfl, ← hh1]
  by_cases hvs : v = s
  · have ho : onW s nxt v = false := by unfold onW; rw [decide_eq_false (fun h => h hvs)]; rfl
    obtain ⟨sv', h', el, xl, al⟩ := ah_loop c (hh1 ▸ x54.toExt) s54r (sv := .slice none 0 0) (acc := []) .nil (fun b hb => by cases hb) (by simp) 0 (F := f100_l5 rn 100 (pt fb 0) h vE ((elts (AM.nb g v)).length : Nat))
      (fun sv g' => fin5 _ _ _ _)
      (fun i u sv g' hi hu a e1 e2 hlt => by subst hvs; exact st5 c.st hi (by omega) hf a e1 e2 hlt)
    refine ⟨sv', h', ?_, xl, ?_, fun q hq => (al.blkOf hq).1⟩
    · rw [nx_eq, l1 (.refl _), asI_int, nilp, asP_ptr, a1.lds, asI_int, eqN', decide_eq_true hvs, Bool.not_true, ifB_false, nilp, asP_ptr, a1.ldT, l1 (.refl _), asI_int, gT a1, asI_int, c76, hlenE, lp_eq el, onE_exit, if_pos rfl]
      rfl
    · unfold aheadL
      rw [ho]
      simp only [Bool.false_eq_true, if_false]
      rw [List.nil_append] at al
      exact al.slR
  · obtain ⟨n3, h3⟩ : ∃ n3, nxt[v]? = some n3 := ⟨_, List.getElem?_eq_getElem (by rw [c.st.nxl]; exact c.hv)⟩
    by_cases h30 : 0 ≤ n3
    · have ho : onW s nxt v = true := by
        unfold onW
        rw [decide_eq_true hvs, List.getD_eq_getElem?_getD, h3]
        simp [h30]
      have c120 := fun {g' : H} (a : FlH g s t lo tv fb nb bb first nxt bf g') (K : Value → H → Option (Value × H)) => calls_eq (K := K) (xs := [pt fb 0, iv v]) (s115 a c.st ho)
      have hle : AM.le 0 n3 = true := by simp [AM.le]; omega
      cases b with
      | false =>
        have hsl : SlR (h1.new (.row (spC (predW s first nxt v, true)) 142 true)) 142 2 (.slice (some ⟨h1.nx, 0, none⟩) 1 1) [spC (predW s first nxt v, true)] := (AqR.lit (lo := h1.nx) (l := [spC (predW s first nxt v, true)]) (Nat.le_refl _) rfl (by simp [spC]) (by simp)).slR
        refine ⟨.slice (some ⟨h1.nx, 0, none⟩) 1 1, h1.new (.row (spC (predW s first nxt v, true)) 142 true), ?_, x0.trans (.new _ _), ?_, fun q hq => by cases hq; omega⟩
        · rw [nx_eq, l1 (.refl _), asI_int, nilp, asP_ptr, a1.lds, asI_int, eqN', decide_eq_false hvs, Bool.not_false, ifB_true, nilp, asP_ptr, a1.ldn, l1 (.refl _), asI_int, a1.getn h3, asI_int, hle, ifB_true, lq, asB_bool, Bool.not_false, ifB_true, l1 (.refl _), asI_int, c120 a1, bls_some (bls143 _ _)]
        · unfold aheadL
          simp only [ho, if_true, Bool.false_eq_true, if_false]
          exact hsl
      | true =>
        obtain ⟨sv1, h2', e2', a2, n2, k2, b2, hb2, hb2'⟩ := (AqR.nil (lo := h.nx + 1) (h := h1) (e := 142) (s := 2)).push app143 app143 (bls143 (predW s first nxt v, true)) rfl rfl (by simp) (by omega)
        have x1 : Ext h1 h2' := ⟨n2, fun q hq => k2 q hq (by simp [blkOf])⟩
        have a2' := a1.ext x1
        obtain ⟨vE2, h3', e54', x54', s54r'⟩ := s54 hnb h2'
        have c76' := fun (K : Value → H → Option (Value × H)) => calls_eq (K := K) (xs := [iv (AM.nb g v : Nat)]) e54'
        have hlenE' : ∀ {T : Type} (K : Int → Option T), len vE2 K = K ((elts (AM.nb g v)).length : Nat) := fun K => by rw [s54r'.len]; simp
        obtain ⟨sv', h', el, xl, al⟩ := ah_loop c (hh1 ▸ (x1.trans x54'.toExt)) s54r' (sv := sv1) (a2.ext x54'.toExt) (fun b hb e => by
            obtain ⟨_, _, q1⟩ := (a2.ext x54'.toExt).blkOf hb
            obtain ⟨_, cs, own, q2⟩ := s54r'.blkR e
            rw [q1] at q2
            simp at q2) (by simp) 0 (F := f100_l1 rn 100 (pt fb 0) h n3 vE2 ((elts (AM.nb g v)).length : Nat))
          (fun sv g' => fin1 _ _ _ _ _)
          (fun i u sv g' hi hu a e1 e2 hlt => st1 hvs h3 h30 ho hi a e1 e2 hlt)
        refine ⟨sv', h', ?_, xl, ?_, fun q hq => (al.blkOf hq).1⟩
        · rw [nx_eq, l1 (.refl _), asI_int, nilp, asP_ptr, a1.lds, asI_int, eqN', decide_eq_false hvs, Bool.not_false, ifB_true, nilp, asP_ptr, a1.ldn, l1 (.refl _), asI_int, a1.getn h3, asI_int, hle, ifB_true, lq, asB_bool, Bool.not_true, ifB_false, ifB_true, l1 (.refl _), asI_int, c120 a1, e2', nilp, asP_ptr, a2'.ldT, l1 x1, asI_int, gT a2', asI_int, c76', hlenE', lp_eq el, onE_exit, if_pos rfl]
          rfl
        · unfold aheadL
          simp only [ho, if_true]
          exact al.slR
    · have ho : onW s nxt v = false := by
        unfold onW
        rw [decide_eq_true hvs, List.getD_eq_getElem?_getD, h3]
        simp [h30]
      have hle : AM.le 0 n3 = false := by simp [AM.le]; omega
      obtain ⟨sv', h', el, xl, al⟩ := ah_loop c (hh1 ▸ x54.toExt) s54r (sv := .slice none 0 0) (acc := []) .nil (fun b hb => by cases hb) (by simp) 0 (F := f100_l4 rn 100 (pt fb 0) h n3 vE ((elts (AM.nb g v)).length : Nat))
        (fun sv g' => fin4 _ _ _ _ _)
        (fun i u sv g' hi hu a e1 e2 hlt => st4 hvs (by omega) ho hi a e1 e2 hlt)
      refine ⟨sv', h', ?_, xl, ?_, fun q hq => (al.blkOf hq).1⟩
      · rw [nx_eq, l1 (.refl _), asI_int, nilp, asP_ptr, a1.lds, asI_int, eqN', decide_eq_false hvs, Bool.not_false, ifB_true, nilp, asP_ptr, a1.ldn, l1 (.refl _), asI_int, a1.getn h3, asI_int, hle, ifB_false, ifB_false, nilp, asP_ptr, a1.ldT, l1 (.refl _), asI_int, gT a1, asI_int, c76, hlenE, lp_eq el, onE_exit, if_pos rfl]
        rfl
      · unfold aheadL
        rw [ho]
        simp only [Bool.false_eq_true, if_false]
        rw [List.nil_append] at al
        exact al.slR
end
end Go.AM
end

section
namespace Go.AM
open Go.Proofs
noncomputable def f28_l1 (rec : Rec) (_k : Nat) (h7 : H) (_ws0 : List Value) (h9 : H) : Option (Ex × List Value × H) :=
 calls rec h9 70 [(pt (nx h7) 0)] fun v11 h10 =>
 asB v11 fun q3 =>
 ifB q3 (
 out .normal [] h10) (
 out (.exit 0) [] h10)
noncomputable def f28_l3 (_rec : Rec) (_k : Nat) (n1 : Int) (h7 : H) (ws3 : List Value) (h15 : H) : Option (Ex × List Value × H) :=
 asI .i64 (gv ws3 1) fun n9 =>
 ifB (not (eq n9 n1)) (
 bls Tryd.prog h15 22 1 [(0, gv ws3 1)] fun v16 h16 =>
 app Tryd.prog h16 22 22 (gv ws3 0) v16 fun v17 h17 =>
 ld Tryd.prog h17 22 (nx h7) (off 0 4) fun v18 =>
 asK (gv ws3 1) fun n10 =>
 six v18 n10 1 fun b2 b3 =>
 ld Tryd.prog h17 3 b2 b3 fun v19 =>
 asI .i64 v19 fun n11 =>
 out .normal [v17, (.int .i64 n11)] h17) (
 out (.exit 4) [gv ws3 0, gv ws3 1] h15)
noncomputable def f28_l2 (rec : Rec) (k : Nat) (n0 : Int) (n1 : Int) (h7 : H) (v13 : Value) (n5 : Int) (ws2 : List Value) (h13 : H) : Option (Ex × List Value × H) :=
 asI .i64 (gv ws2 1) fun n6 =>
 ifB (lt n6 n5) (
 asK (gv ws2 1) fun n7 =>
 six v13 n7 1 fun b0 b1 =>
 ld Tryd.prog h13 3 b0 b1 fun v14 =>
 asI .i64 v14 fun n8 =>
 bls Tryd.prog h13 22 1 [(0, (.int .i64 n0))] fun v15 h14 =>
 lp k (f28_l3 rec k n1 h7) [v15, (.int .i64 n8)] h14 fun e1 ws4 h18 =>
 onE e1 4 (
 bls Tryd.prog h18 22 1 [(0, (.int .i64 n1))] fun v20 h19 =>
 app Tryd.prog h19 22 22 (gv ws4 0) v20 fun v21 h20 =>
 bls Tryd.prog h20 56 1 [(0, v21)] fun v22 h21 =>
 app Tryd.prog h21 56 56 (gv ws2 0) v22 fun v23 h22 =>
 asI .i64 (gv ws2 1) fun n12 =>
 out .normal [v23, (.int .i64 (add .i64 n12 1))] h22) (
 none)) (
 out (.exit 2) [gv ws2 0, gv ws2 1] h13)
noncomputable def f28 (rec : Rec) (k : Nat) (v0 : Value) (n0 : Int) (n1 : Int) (h0 : H) : Option (Value × H) :=
 calls rec h0 36 [v0] fun v1 h1 =>
 ext v1 0 fun v2 =>
 ext v1 1 fun v3 =>
 asB v3 fun q0 =>
 ifB (not q0) (
 some ((.tuple #[(.slice none 0 0), (.int .i64 2)]), h1)) (
 calls rec h1 68 [v2, (.int .i64 n0)] fun v4 h2 =>
 asB v4 fun q1 =>
 ifB (not q1) (
 some ((.tuple #[(.slice none 0 0), (.int .i64 2)]), h2)) (
 calls rec h2 68 [v2, (.int .i64 n1)] fun v5 h3 =>
 asB v5 fun q2 =>
 ifB (not q2) (
 some ((.tuple #[(.slice none 0 0), (.int .i64 2)]), h3)) (
 ifB (eq n0 n1) (
 some ((.tuple #[(.slice none 0 0), (.int .i64 2)]), h3)) (
 bls Tryd.prog h3 22 1 [(0, (.int .i64 (-1)))] fun v6 h4 =>
 len v2 fun n2 =>
 calls rec h4 69 [v6, (.int .i64 n2)] fun v7 h5 =>
 bls Tryd.prog h5 22 1 [(0, (.int .i64 (-1)))] fun v8 h6 =>
 len v2 fun n3 =>
 calls rec h6 69 [v8, (.int .i64 n3)] fun v9 h7 =>
 bld Tryd.prog 112 [(0, v2), (1, (.int .i64 n0)), (2, (.int .i64 n1)), (4, v7), (5, v9)] fun v10 =>
 bx h7 112 v10 fun h8 =>
 lp k (f28_l1 rec k h7) [] h8 fun e0 _ h11 =>
 onE e0 0 (
 ld Tryd.prog h11 3 (nx h7) (off 0 3) fun v12 =>
 asI .i64 v12 fun n4 =>
 calls rec h11 54 [(.int .i64 n4)] fun v13 h12 =>
 len v13 fun n5 =>
 lp k (f28_l2 rec k n0 n1 h7 v13 n5) [(.slice none 0 0), (.int .i64 0)] h12 fun e2 ws5 h23 =>
 onE e2 2 (
 some ((.tuple #[gv ws5 0, (.int .i64 0)]), h23)) (
 none)) (
 none)))))
theorem e28 (rec : Rec) (k : Nat) (v0 : Value) (n0 : Int) (n1 : Int) (h : H) : bodyT Tryd.prog E0 SC (XC Tryd.prog rec k) 28 (Value × H) [.opq v0, .int .i64 n0, .int .i64 n1] h (fun v h => some (v, h)) = f28 rec k v0 n0 n1 h := by kernel_rfl
noncomputable def f70_l2 (rec : Rec) (_k : Nat) (v0 : Value) (h0 : H) (h1 : H) (h5 : H) (v7 : Value) (n2 : Int) (ws1 : List Value) (h9 : H) : Option (Ex × List Value × H) :=
 asI .i64 (gv ws1 2) fun n3 =>
 ifB (lt n3 n2) (
 asK (gv ws1 2) fun n4 =>
 six v7 n4 2 fun b4 b5 =>
 ld Tryd.prog h9 142 b4 b5 fun v8 =>
 al h9 142 [(.int .i64 0), (.bool false)] fun h10 =>
 st Tryd.prog h10 142 (nx h9) 0 v8 fun h11 =>
 ld Tryd.prog h11 3 (nx h9) 0 fun v9 =>
 asI .i64 v9 fun n5 =>
 nil v0 (
 asP v0 fun b6 b7 =>
 ld Tryd.prog h11 3 b6 (off b7 1) fun v10 =>
 asI .i64 v10 fun n6 =>
 ifB (eq n5 n6) (
 asI .i64 (gv ws1 2) fun n7 =>
 out .normal [gv ws1 0, gv ws1 1, (.int .i64 (add .i64 n7 1))] h11) (
 ld Tryd.prog h11 142 (nx h9) 0 fun v11 =>
 lok Tryd.prog h11 140 (.map (some (nx h0))) v11 true fun v12 =>
 ext v12 0 fun v13 =>
 ext v12 1 fun v14 =>
 asB v14 fun q0 =>
 al h11 142 [(.int .i64 0), (.bool false)] fun h12 =>
 st Tryd.prog h12 142 (nx h11) 0 v13 fun h13 =>
 ifB q0 (
 asI .i64 (gv ws1 2) fun n8 =>
 out .normal [gv ws1 0, gv ws1 1, (.int .i64 (add .i64 n8 1))] h13) (
 ld Tryd.prog h13 142 (nx h9) 0 fun v15 =>
 ld Tryd.prog h13 142 (nx h5) 0 fun v16 =>
 mup Tryd.prog h13 140 (.map (some (nx h0))) v15 v16 fun h14 =>
 ld Tryd.prog h14 3 (nx h9) 0 fun v17 =>
 asI .i64 v17 fun n9 =>
 nil v0 (
 asP v0 fun b8 b9 =>
 ld Tryd.prog h14 3 b8 (off b9 2) fun v18 =>
 asI .i64 v18 fun n10 =>
 ifB (eq n9 n10) (
 ld Tryd.prog h14 142 (nx h1) 0 fun v19 =>
 ld Tryd.prog h14 142 (nx h9) 0 fun v20 =>
 calls rec h14 101 [v0, (.map (some (nx h0))), v19, v20] fun _ h15 =>
 out .ret [(.bool true), gv ws1 1, gv ws1 2] h15) (
 ld Tryd.prog h14 142 (nx h9) 0 fun v22 =>
 bls Tryd.prog h14 143 1 [(0, v22)] fun v23 h16 =>
 app Tryd.prog h16 143 143 (gv ws1 1) v23 fun v24 h17 =>
 asI .i64 (gv ws1 2) fun n11 =>
 out .normal [gv ws1 0, v24, (.int .i64 (add .i64 n11 1))] h17)))))) (
 out (.exit 2) [gv ws1 0, gv ws1 1, gv ws1 2] h9)
noncomputable def f70_l1 (rec : Rec) (k : Nat) (v0 : Value) (h0 : H) (h1 : H) (ws0 : List Value) (h5 : H) : Option (Ex × List Value × H) :=
 len (gv ws0 1) fun n1 =>
 ifB (lt 0 n1) (
 six (gv ws0 1) 0 2 fun b2 b3 =>
 ld Tryd.prog h5 142 b2 b3 fun v5 =>
 al h5 142 [(.int .i64 0), (.bool false)] fun h6 =>
 st Tryd.prog h6 142 (nx h5) 0 v5 fun h7 =>
 ld Tryd.prog h7 142 (nx h5) 0 fun v6 =>
 calls rec h7 100 [v0, v6] fun v7 h8 =>
 len v7 fun n2 =>
 lp k (f70_l2 rec k v0 h0 h1 h5 v7 n2) [gv ws0 0, gv ws0 1, (.int .i64 0)] h8 fun e0 ws2 h18 =>
 onE e0 2 (
 sli Tryd.prog h18 143 (gv ws2 1) (some (.int .i64 1)) none none fun v25 =>
 out .normal [gv ws2 0, v25] h18) (
 onR e0 (
 out .ret [gv ws2 0, gv ws2 1] h18))) (
 out (.exit 0) [gv ws0 0, gv ws0 1] h5)
noncomputable def f70 (rec : Rec) (k : Nat) (v0 : Value) (h0 : H) : Option (Value × H) :=
 mkm h0 fun h1 =>
 nil v0 (
 asP v0 fun b0 b1 =>
 ld Tryd.prog h1 3 b0 (off b1 1) fun v1 =>
 asI .i64 v1 fun n0 =>
 bld Tryd.prog 142 [(0, (.int .i64 n0)), (1, (.bool true))] fun v2 =>
 al h1 142 [(.int .i64 0), (.bool false)] fun h2 =>
 st Tryd.prog h2 142 (nx h1) 0 v2 fun h3 =>
 ld Tryd.prog h3 142 (nx h1) 0 fun v3 =>
 bls Tryd.prog h3 143 1 [(0, v3)] fun v4 h4 =>
 lp k (f70_l1 rec k v0 h0 h1) [(.bool false), v4] h4 fun e1 ws3 h19 =>
 onE e1 0 (
 some ((.bool false), h19)) (
 onR e1 (
 some (gv ws3 0, h19))))
theorem e70 (rec : Rec) (k : Nat) (v0 : Value) (h : H) : bodyT Tryd.prog E0 SC (XC Tryd.prog rec k) 70 (Value × H) [.opq v0] h (fun v h => some (v, h)) = f70 rec k v0 h := by kernel_rfl
end Go.AM
end

section
namespace Go.AM
open Go.Proofs
variable {R : Type}
noncomputable def rcA : Rec := over rn 101 g101
theorem rcA_sound (hmix : Tryd.prog.follows .mixedOrders = true) : SoundR Tryd.prog E0 rcA := over_sound (run_sound hmix) fun _ _ _ _ e => (g101_some e).1
theorem rcA_ne {f : FuncId} (h1 : f ≠ 101) {h : H} {xs : List Value} {R : Type} {K : Value → H → Option R} : calls rcA h f xs K = calls rn h f xs K := calls_over h1
section
variable {g : List Nat} {s t lo fb nb bb first : Nat} {tv : Value} {nxt : List Int} {bf : List Value} {h : H}
theorem SrI.lt {F : Nat → Nat → Prop} {kv : List (Spot × Spot)} (r : SrI (adjP g) s F kv) (hg : GrB g) (f : FlW (adjP g) s t F) {y x : Spot} (h : (y, x) ∈ kv) : y.1 < g.length := by
  have ha := (r.mem h).1
  cases ha with
  | back _ _ hp => exact (hg.adj_lt (f.sub _ _ hp)).1
  | fwd _ ha _ _ => exact (hg.adj_lt ha).2
theorem SrI.len {F : Nat → Nat → Prop} {kv : List (Spot × Spot)} (r : SrI (adjP g) s F kv) (hg : GrB g) (f : FlW (adjP g) s t F) : kv.length ≤ 20 := by
  have h1 : (kv.map (·.1)).length ≤ ((List.range g.length).flatMap fun v => [(v, true), (v, false)]).length := by
    refine List.Nodup.length_le_of_subset r.nd fun y hy => ?_
    obtain ⟨p, hp, rfl⟩ := List.mem_map.1 hy
    have := r.lt hg f (y := p.1) (x := p.2) hp
    refine List.mem_flatMap.2 ⟨p.1.1, List.mem_range.2 this, ?_⟩
    obtain ⟨⟨a, b⟩, c⟩ := p
    cases b <;> simp
  have h2 : ((List.range g.length).flatMap fun v => [(v, true), (v, false)]).length = 2 * g.length := by
    rw [List.length_flatMap]
    have : ∀ n, ((List.range n).map fun v => [(v, true), (v, false)].length).sum = 2 * n := by
      intro n
      induction n with
      | zero => rfl
      | succ n ih => rw [List.range_succ, List.map_append, List.sum_append, ih]; simp; omega
    exact this _
  have := hg.len
  rw [List.length_map] at h1
  omega
theorem Rk.lt {F : Nat → Nat → Prop} {kv : List (Spot × Spot)} (r : SrI (adjP g) s F kv) (hg : GrB g) (f : FlW (adjP g) s t F) (hs : s < g.length) {x : Spot} (h : Rk s kv x) : x.1 < g.length := by
  rcases h with h | h
  · rw [h]; exact hs
  · obtain ⟨p, hp, rfl⟩ := List.mem_map.1 h
    exact r.lt hg f (y := p.1) (x := p.2) hp
theorem Rk.push {kv : List (Spot × Spot)} {x y z : Spot} (h : Rk s kv z) : Rk s (kv ++ [(y, x)]) z := h.imp id fun h => by rw [List.map_append]; exact List.mem_append.2 (.inl h)
theorem Rk.new (kv : List (Spot × Spot)) (x y : Spot) : Rk s (kv ++ [(y, x)]) y := .inr (by rw [List.map_append]; exact List.mem_append.2 (.inr (by simp)))
theorem Rk.of_push {kv : List (Spot × Spot)} {x y z : Spot} (h : Rk s (kv ++ [(y, x)]) z) : Rk s kv z ∨ z = y := by
  rcases h with h | h
  · exact .inl (.inl h)
  · rw [List.map_append, List.mem_append] at h
    rcases h with h | h
    · exact .inl (.inr h)
    · exact .inr (by simpa using h)
/-- The search, as_ far as_ it has come. -/
structure GrS (g : List Nat) (s t first : Nat) (nxt : List Int) (h : H) (kv : List (Spot × Spot)) (Q : List Spot) (g9 : H) : Prop where
  ext : Ext h g9
  m : g9.blk h.nx = some (mpOf spV (kvV kv))
  sb : g9.blk (h.nx + 1) = some (.row (spC (s, true)) 142 true)
  lt : h.nx + 1 < g9.nx
  r : SrI (adjP g) s (flS s first nxt) kv
  nt : ∀ p ∈ kv, p.1.1 ≠ t
  qr : ∀ z ∈ Q, Rk s kv z
  cl : ∀ z, Rk s kv z → z ∉ Q → ∀ y, Ahead (adjP g) s (flS s first nxt) z y → y.1 ≠ s → Rk s kv y
theorem GrS.keep {kv : List (Spot × Spot)} {Q : List Spot} {g9 g' : H} (a : GrS g s t first nxt h kv Q g9) (n : g9.nx ≤ g'.nx) (f : ∀ b, b < h.nx + 2 → g'.blk b = g9.blk b) : GrS g s t first nxt h kv Q g' := by
  have := a.lt
  exact ⟨⟨by have := a.ext.nx; omega, fun b hb => (f b (by omega)).trans (a.ext.blk b hb)⟩, (f _ (by omega)).trans a.m, (f _ (by omega)).trans a.sb, by omega, a.r, a.nt, a.qr, a.cl⟩
theorem lookK_kvV {kv : List (Spot × Spot)} {y : Spot} : y ∈ kv.map (·.1) ↔ (valK (kvV kv) y).isSome = true := by
  have key : ∀ (kv : List (Spot × Spot)) (i : Nat), y ∈ kv.map (·.1) ↔ ((lookK (kvV kv) y i).map (·.2)).isSome = true := by
    intro kv
    induction kv with
    | nil => intro i; simp [kvV, lookK]
    | cons p kv ih =>
      intro i
      show _ ↔ ((if y = p.1 then some (i, spV p.2) else lookK (kvV kv) y (i + 1)).map (·.2)).isSome = true
      rw [List.map_cons, List.mem_cons]
      by_cases h : y = p.1
      · rw [if_pos h]; simp [h]
      · rw [if_neg h, ← ih (i + 1)]; simp [h]
  exact key kv 0
theorem valK_sp {kv : List (Spot × Spot)} {y : Spot} {v : Value} (h : valK (kvV kv) y = some v) : ∃ z, v = spV z := by
  have key : ∀ (kv : List (Spot × Spot)) (i : Nat), (lookK (kvV kv) y i).map (·.2) = some v → ∃ z, v = spV z := by
    intro kv
    induction kv with
    | nil => intro i h; simp [kvV, lookK] at h
    | cons p kv ih =>
      intro i h
      replace h : (if y = p.1 then some (i, spV p.2) else lookK (kvV kv) y (i + 1)).map (·.2) = some v := h
      by_cases e : y = p.1
      · rw [if_pos e] at h; cases h; exact ⟨_, rfl⟩
      · rw [if_neg e] at h; exact ih (i + 1) h
  exact key kv 0 h
theorem putK_new {kv : List (Spot × Spot)} {y x : Spot} (h : y ∉ kv.map (·.1)) : putK (kvV kv) y (spV x) = kvV (kv ++ [(y, x)]) := by
  have h1 : lookK (kvV kv) y 0 = none := by
    rw [lookK_kvV] at h
    unfold valK at h
    cases hl : lookK (kvV kv) y 0 with
    | none => rfl
    | some r => rw [hl] at h; simp at h
  unfold putK
  rw [h1]
  unfold kvV
  rw [List.map_append]
  rfl
end
end Go.AM
end

section
namespace Go.AM
open Go.Proofs
variable {R : Type}
section
variable {g : List Nat} {s t lo fb nb bb first : Nat} {tv : Value} {nxt : List Int} {bf : List Value} {h : H}
/-- The state of the inner loop. -/
structure GrI (g : List Nat) (s t first : Nat) (nxt : List Int) (h : H) (x : Spot) (xb : Nat) (v7 : Value) (l : List Spot) (c : Nat) (kv : List (Spot × Spot)) (Q : List Spot) (qv : Value) (i : Nat) (g9 : H) : Prop where
  gr : GrS g s t first nxt h kv (x :: Q) g9
  xbk : g9.blk xb = some (.row (spC x) 142 true)
  xlt : h.nx + 2 ≤ xb ∧ xb < g9.nx
  v7s : SlR g9 142 2 v7 (cellsS l)
  q : QlR (h.nx + 2) g9 142 2 qv (cellsS (x :: Q))
  qn : ∀ b, blkOf qv = some b → b ≠ xb ∧ blkOf v7 ≠ some b
  done : ∀ y ∈ l.take i, y.1 = s ∨ Rk s kv y
  cnt : Q.length + c = kv.length
theorem GrI.var {x : Spot} {xb : Nat} {v7 : Value} {l : List Spot} {c i j : Nat} {kv : List (Spot × Spot)} {Q : List Spot} {qv : Value} {g9 g' : H} (a : GrI g s t first nxt h x xb v7 l c kv Q qv i g9) (e : Ext g9 g') (hd : ∀ y ∈ l.take j, y.1 = s ∨ Rk s kv y) : GrI g s t first nxt h x xb v7 l c kv Q qv j g' := by
  have := a.gr.lt
  have := e.nx
  exact ⟨a.gr.keep e.nx fun b hb => e.blk b (by omega), (e.blk _ a.xlt.2).trans a.xbk, ⟨a.xlt.1, by have := a.xlt.2; omega⟩, a.v7s.ext e, a.q.keep e.nx fun b hb => e.blk b (by
    obtain ⟨b', h1, _, h2, _⟩ := a.q.blkOf
    rw [h1] at hb; cases hb; exact h2), a.qn, hd, a.cnt⟩
set_option maxHeartbeats 1000000 in
theorem gr_l2 (hmix : Tryd.prog.follows .mixedOrders = true) (a : FlH g s t lo tv fb nb bb first nxt bf h) (w : StW g s t first nxt bf) (hg : GrN g) (hs : s < g.length) (ht : t < g.length) (hst : s ≠ t) {x : Spot} {v7 : Value} {c : Nat} {h1 h5 : H} (hn1 : h1.nx = h.nx + 1)
    {kv : List (Spot × Spot)} {Q : List Spot} {qv : Value} {h8 : H} (a0 : GrI g s t first nxt h x h5.nx v7 (aheadL g s first nxt x) c kv Q qv 0 h8) :
    ∃ e ws' g', lpGo (f70_l2 rcA 100 (pt fb 0) h h1 h5 v7 ((aheadL g s first nxt x).length : Nat)) 100 [.bool false, qv, iv 0] h8 = some (e, ws', g') ∧
      ((e = .exit 2 ∧ ∃ kv Q qv w3, ws' = [.bool false, qv, w3] ∧ GrI g s t first nxt h x h5.nx v7 (aheadL g s first nxt x) c kv Q qv (aheadL g s first nxt x).length g') ∨
       (e = .ret ∧ ∃ w2 w3 hx, ws' = [.bool true, w2, w3] ∧ Ext h hx ∧ PostA g s t lo tv fb nb bb first hx g')) := by
  have hlen := hg.len
  have hel : (aheadL g s first nxt x).length ≤ 11 := by
    have h1 : (fwdL g s first nxt x.1).length ≤ 10 := by
      unfold fwdL
      rw [List.length_map]
      refine Nat.le_trans (List.length_filter_le ..) ?_
      rw [elts_len]
      exact pop_le_n (n := 10) (Nat.le_refl _) (Nat.lt_of_lt_of_le (hg.nb_lt _) hg.pow)
    unfold aheadL
    split
    · split
      · simp only [List.length_cons]; omega
      · simp
    · omega
  have hah : ∀ y ∈ aheadL g s first nxt x, Ahead (adjP g) s (flS s first nxt) x y := fun y hy => (w.ahead hg.toGrB).1 hy
  generalize hl : aheadL g s first nxt x = l at a0 hel hah ⊢
  refine lp_range (F := f70_l2 rcA 100 (pt fb 0) h h1 h5 v7 (l.length : Nat)) (k := 100) (n := l.length)
    (fun i ws g9 => ∃ kv Q qv, ws = [.bool false, qv, iv i] ∧ GrI g s t first nxt h x h5.nx v7 l c kv Q qv i g9) _ ?_ ?_ (by omega) ⟨kv, Q, qv, rfl, a0⟩
  · rintro i ws g9 hi ⟨kv, Q, qv, rfl, b⟩
    have hy := List.getElem?_eq_getElem hi
    generalize l[i] = y at hy
    have hym := List.mem_of_getElem? hy
    have hya := hah y hym
    have hadd : add .i64 (i : Int) 1 = ((i + 1 : Nat) : Int) := add1 (by omega)
    have htake : ∀ {kv' : List (Spot × Spot)}, (∀ y ∈ l.take i, y.1 = s ∨ Rk s kv' y) → (y.1 = s ∨ Rk s kv' y) → ∀ y ∈ l.take (i + 1), y.1 = s ∨ Rk s kv' y := by
      intro kv' h1 h2 z hz
      rw [List.take_add_one, hy, List.mem_append] at hz
      rcases hz with hz | hz
      · exact h1 z hz
      · simp at hz; rw [hz]; exact h2
    have e1 : ∀ {T : Type} (K : Value → Option T), (six v7 (i : Int) 2 fun b o => ld Tryd.prog g9 142 b o K) = K (spV y) := fun K => b.v7s.ldA ag142 sz142 (by omega) (x := spC y) (by simp [hy]) K
    obtain ⟨h11, hh11⟩ : ∃ h11, h11 = g9.var (.row (spC y) 142 true) := ⟨_, rfl⟩
    have x11 : Ext g9 h11 := hh11 ▸ .var _ _
    have n11 : h11.nx = g9.nx + 1 := by rw [hh11]; rfl
    have b11 : h11.blk g9.nx = some (.row (spC y) 142 true) := by rw [hh11]; exact var_at _ _
    have gext := b.gr.ext
    have glt := b.gr.lt
    have a11 := a.ext (gext.trans x11)
    have start : ∀ {r : Option (Ex × List Value × H)}, (ifB (decide (y.1 = s)) (out .normal [.bool false, qv, (.int .i64 (add .i64 (i : Int) 1))] h11) (
        lok Tryd.prog h11 140 (.map (some h.nx)) (spV y) true fun v12 =>
        ext v12 0 fun v13 =>
        ext v12 1 fun v14 =>
        asB v14 fun q0 =>
        al h11 142 [(.int .i64 0), (.bool false)] fun h12 =>
        st Tryd.prog h12 142 (nx h11) 0 v13 fun h13 =>
        ifB q0 (
          out .normal [.bool false, qv, (.int .i64 (add .i64 (i : Int) 1))] h13) (
          ld Tryd.prog h13 142 g9.nx 0 fun v15 =>
          ld Tryd.prog h13 142 (nx h5) 0 fun v16 =>
          mup Tryd.prog h13 140 (.map (some h.nx)) v15 v16 fun h14 =>
          ld Tryd.prog h14 3 g9.nx 0 fun v17 =>
          asI .i64 v17 fun n9 =>
          AM.nil (pt fb 0) (
            asP (pt fb 0) fun b8 b9 =>
            ld Tryd.prog h14 3 b8 (off b9 2) fun v18 =>
            asI .i64 v18 fun n10 =>
            ifB (AM.eq n9 n10) (
              ld Tryd.prog h14 142 (nx h1) 0 fun v19 =>
              ld Tryd.prog h14 142 g9.nx 0 fun v20 =>
              calls rcA h14 101 [pt fb 0, (.map (some h.nx)), v19, v20] fun _ h15 =>
              out .ret [(.bool true), qv, iv (i : Nat)] h15) (
              ld Tryd.prog h14 142 g9.nx 0 fun v22 =>
              bls Tryd.prog h14 143 1 [(0, v22)] fun v23 h16 =>
              app Tryd.prog h16 143 143 qv v23 fun v24 h17 =>
              out .normal [.bool false, v24, (.int .i64 (add .i64 (i : Int) 1))] h17)))) = r) → f70_l2 rcA 100 (pt fb 0) h h1 h5 v7 (l.length : Nat) [.bool false, qv, iv i] g9 = r := by
      intro r hr
      unfold f70_l2
      rewrite [gv32, gv30, gv31, asI_int, lt_nat hi, ifB_true, asK_int, e1, alS, ← hh11, nx_eq g9, ldS0 b11, asI_int, nilp, asP_ptr, a11.lds, asI_int, eqN', ldS b11]
      simp only [asI_int, nx_eq h]
      exact hr
    by_cases hys : y.1 = s
    · exact ⟨_, _, _, start (by rw [decide_eq_true hys, ifB_true, hadd]; rfl), .inl ⟨rfl, kv, Q, qv, rfl, b.var x11 (htake b.done (.inl hys))⟩⟩
    · have m11 := (x11.blk _ (by omega)).trans b.gr.m
      have hnst : y ≠ (s, true) := fun e => hys (by rw [e])
      by_cases hk : y ∈ kv.map (·.1)
      · -- it has been reached
        obtain ⟨v, hv⟩ := Option.isSome_iff_exists.1 (lookK_kvV.1 hk)
        obtain ⟨z, rfl⟩ := valK_sp hv
        have x13 : Ext h11 (h11.var (.row (spC z) 142 true)) := .var _ _
        refine ⟨.normal, [.bool false, qv, iv ((i + 1 : Nat) : Int)], h11.var (.row (spC z) 142 true), start ?_, .inl ⟨rfl, kv, Q, qv, rfl, b.var (x11.trans x13) (htake b.done (.inr (.inr hk)))⟩⟩
        rw [decide_eq_false hys, ifB_false, lok_of key142 under140 zero142 m11, hv]
        simp only
        rw [ext20, ext21, asB_bool, alS, ifB_true, hadd]
        rfl
      · have hv : valK (kvV kv) y = none := by
          rw [lookK_kvV] at hk
          cases hv : valK (kvV kv) y with
          | none => rfl
          | some v => rw [hv] at hk; simp at hk
        obtain ⟨h13, hh13⟩ : ∃ h13, h13 = h11.var (.row (spC (0, false)) 142 true) := ⟨_, rfl⟩
        have x13 : Ext h11 h13 := hh13 ▸ .var _ _
        have n13 : h13.nx = h11.nx + 1 := by rw [hh13]; rfl
        have y13 := (x13.blk _ (by omega)).trans b11
        have xb13 := ((x11.trans x13).blk _ b.xlt.2).trans b.xbk
        have m13 := (x13.blk _ (by omega)).trans m11
        obtain ⟨h14, hh14⟩ : ∃ h14, h14 = h13.set h.nx (mpOf spV (kvV (kv ++ [(y, x)]))) := ⟨_, rfl⟩
        have n14 : h14.nx = h13.nx := by rw [hh14]; rfl
        have m14 : h14.blk h.nx = some (mpOf spV (kvV (kv ++ [(y, x)]))) := by rw [hh14]; exact blk_set_self _ _ _
        have f14 : ∀ q, q ≠ h.nx → h14.blk q = h13.blk q := fun q hq => by rw [hh14]; exact blk_set_ne _ _ _ hq
        have f914 : ∀ q, q < g9.nx → q ≠ h.nx → h14.blk q = g9.blk q := fun q hq hne => (f14 q hne).trans ((x11.trans x13).blk q hq)
        have y14 := (f14 _ (by omega)).trans y13
        have xe14 : Ext h h14 := ⟨by omega, fun q hq => by rw [f914 q (by omega) (by omega)]; exact gext.blk q hq⟩
        have a14 := a.ext xe14
        have sb14 : h14.blk h1.nx = some (.row (spC (s, true)) 142 true) := by rw [hn1, f914 _ (by omega) (by omega)]; exact b.gr.sb
        have hxR := b.gr.qr x List.mem_cons_self
        have r' := b.gr.r.push hya hys hxR hk
        have start2 : ∀ {r : Option (Ex × List Value × H)}, (ifB (decide (y.1 = t)) (
              calls rcA h14 101 [pt fb 0, (.map (some h.nx)), spV (s, true), spV y] fun _ h15 =>
              out .ret [(.bool true), qv, iv (i : Nat)] h15) (
              bls Tryd.prog h14 143 1 [(0, spV y)] fun v23 h16 =>
              app Tryd.prog h16 143 143 qv v23 fun v24 h17 =>
              out .normal [.bool false, v24, iv ((i + 1 : Nat) : Int)] h17) = r) → f70_l2 rcA 100 (pt fb 0) h h1 h5 v7 (l.length : Nat) [.bool false, qv, iv i] g9 = r := by
          intro r hr
          refine start ?_
          rw [decide_eq_false hys, ifB_false, lok_of key142 under140 zero142 m11, hv]
          simp only
          rw [ext20, ext21, asB_bool, alS, ifB_false, ← hh13, ldS y13, nx_eq h5, ldS xb13, mup_of key142 under140 m13, putK_new hk, ← hh14, ldS0 y14, asI_int, nilp, asP_ptr, a14.ldt, asI_int, eqN', nx_eq h1, ldS sb14, ldS y14, ldS y14, hadd]
          exact hr
        by_cases hyt : y.1 = t
        · have hyf : y = (t, false) := by
            obtain ⟨y1, y2⟩ := y
            simp only at hyt
            subst hyt
            cases y2 with
            | false => rfl
            | true =>
              exfalso
              cases hya with
              | back _ _ hp => exact w.fl.nt _ hp
          subst hyf
          have hkl := r'.len hg.toGrB w.fl
          obtain ⟨v, h15, e15, p15⟩ := ap_g hmix a14 w hg hs ht hst m14 (by omega) r' (fun p hp e => by
            rcases List.mem_append.1 hp with hp | hp
            · exact absurd e (b.gr.nt p hp)
            · rw [List.mem_singleton.1 hp]) (x := x) (List.mem_append.2 (.inr List.mem_cons_self)) (by omega)
          refine ⟨.ret, [.bool true, qv, iv (i : Nat)], h15, start2 ?_, .inr ⟨by simp, .inr ⟨rfl, qv, iv (i : Nat), h14, rfl, xe14, p15⟩⟩⟩
          rw [decide_eq_true rfl, ifB_true]
          exact calls_at (xs := [_, _, _, _]) e15
        · obtain ⟨qb, hqb, hqlo, hqlt, cs, hqr⟩ := b.q.blkOf
          have hql : (cellsS (x :: Q)).length + 1 < 2 ^ 30 := by
            have := b.gr.r.len hg.toGrB w.fl
            have := b.cnt
            simp only [cellsS, List.length_map, List.length_cons]; omega
          have q14 : QlR (h.nx + 2) h14 142 2 qv (cellsS (x :: Q)) := b.q.keep (by omega) fun q hq => by
            rw [hqb] at hq; cases hq
            exact f914 _ hqlt (by omega)
          obtain ⟨v24, h17, e17, q17, n17, k17, b', hb', hb''⟩ := q14.push app143 app143 (bls143 y) rfl rfl hql (by omega)
          have hk17 : ∀ q, q < g9.nx → q ≠ h.nx → q ≠ qb → h17.blk q = g9.blk q := fun q hq h1 h2 => by
            rw [k17 q (by omega) (fun e => by rw [hqb] at e; cases e; exact h2 rfl)]
            exact f914 q hq h1
          have v7b : ∀ q, blkOf v7 = some q → q < g9.nx := fun q hq => (b.v7s.blkR hq).1
          have hqn := b.qn qb hqb
          refine ⟨.normal, [.bool false, v24, iv ((i + 1 : Nat) : Int)], h17, start2 ?_, .inl ⟨rfl, kv ++ [(y, x)], Q ++ [y], v24, rfl, ⟨?_, ?_, ?_, ?_, ?_, ?_, ?_, ?_⟩⟩⟩
          · rw [decide_eq_false hyt, ifB_false, e17]
            rfl
          · refine ⟨⟨by omega, fun q hq => ?_⟩, ?_, ?_, by omega, r', fun p hp => ?_, fun z hz => ?_, fun z hz hzq z2 h1 h2 => ?_⟩
            · rw [hk17 q (by omega) (by omega) (by omega)]; exact gext.blk q hq
            · rw [k17 _ (by omega) (fun e => by rw [hqb] at e; cases e; omega)]; exact m14
            · rw [hk17 _ (by omega) (by omega) (by omega)]; exact b.gr.sb
            · rcases List.mem_append.1 hp with hp | hp
              · exact b.gr.nt p hp
              · rw [List.mem_singleton.1 hp]; exact hyt
            · rw [← List.cons_append, List.mem_append] at hz
              rcases hz with hz | hz
              · exact (b.gr.qr z hz).push
              · rw [List.mem_singleton.1 hz]; exact .new _ _ _
            · rw [← List.cons_append, List.mem_append, not_or] at hzq
              rcases hz.of_push with h3 | h3
              · exact (b.gr.cl z h3 hzq.1 z2 h1 h2).push
              · exact absurd (by rw [h3]; exact List.mem_cons_self) hzq.2
          · rw [hk17 _ b.xlt.2 (by have := b.xlt.1; omega) (fun e => hqn.1 e.symm)]; exact b.xbk
          · exact ⟨b.xlt.1, by have := b.xlt.2; omega⟩
          · refine b.v7s.keepB (by omega) fun q hq => hk17 q (v7b q hq) (fun e => ?_) (fun e => hqn.2 (by rw [← e]; exact hq))
            rw [e] at hq
            exact mp_ne b.v7s b.gr.m hq
          · have : cellsS (x :: (Q ++ [y])) = cellsS (x :: Q) ++ [spC y] := by simp [cellsS]
            rw [this]; exact q17
          · intro q hq
            rw [hb'] at hq; cases hq
            refine ⟨by have := b.xlt.2; omega, fun e => ?_⟩
            have := v7b _ e
            omega
          · exact htake (fun z hz => (b.done z hz).imp id Rk.push) (.inr (.new _ _ _))
          · have := b.cnt
            simp only [List.length_append, List.length_singleton]; omega
  · rintro ws g9 ⟨kv, Q, qv, rfl, b⟩
    refine ⟨.exit 2, [.bool false, qv, iv (l.length : Nat)], g9, ?_, by simp, .inl ⟨rfl, kv, Q, qv, _, rfl, b⟩⟩
    unfold f70_l2
    rw [gv32, asI_int, lt_self, ifB_false, gv30, gv31]
    rfl
end
end Go.AM
end

section
namespace Go.AM
open Go.Proofs
variable {R : Type}
section
variable {g : List Nat} {s t lo fb nb bb first : Nat} {tv : Value} {nxt : List Int} {bf : List Value} {h : H}
/-- What a search answers. -/
def PostG (g : List Nat) (s t lo : Nat) (tv : Value) (fb nb bb first : Nat) (nxt : List Int) (h : H) (b : Bool) (h' : H) : Prop :=
  (b = true ∧ ∃ hx, Ext h hx ∧ PostA g s t lo tv fb nb bb first hx h') ∨ (b = false ∧ Ext h h' ∧ ∃ R, EndW (adjP g) s t (flS s first nxt) R)
set_option maxHeartbeats 1000000 in
theorem gr_walk (hmix : Tryd.prog.follows .mixedOrders = true) (a : FlH g s t lo tv fb nb bb first nxt bf h) (w : StW g s t first nxt bf) (hg : GrN g) (hs : s < g.length) (ht : t < g.length) (hst : s ≠ t) :
    ∃ b h', f70 rcA 100 (pt fb 0) h = some (.bool b, h') ∧ PostG g s t lo tv fb nb bb first nxt h b h' := by
  have hlen := hg.len
  obtain ⟨h1, hh1⟩ : ∃ h1, h1 = h.new (.mp [] 0) := ⟨_, rfl⟩
  have x1 : Ext h h1 := hh1 ▸ .new _ _
  have n1 : h1.nx = h.nx + 1 := by rw [hh1]; rfl
  have b1 : h1.blk h.nx = some (mpOf spV (kvV [])) := by rw [hh1]; exact blk_new_self _ _
  have a1 := a.ext x1
  obtain ⟨h3, hh3⟩ : ∃ h3, h3 = h1.var (.row (spC (s, true)) 142 true) := ⟨_, rfl⟩
  have x3 : Ext h1 h3 := hh3 ▸ .var _ _
  have n3 : h3.nx = h1.nx + 1 := by rw [hh3]; rfl
  have b3 : h3.blk h1.nx = some (.row (spC (s, true)) 142 true) := by rw [hh3]; exact var_at _ _
  have x4 : Ext h3 (h3.new (.row (spC (s, true)) 142 true)) := .new _ _
  have q4 : QlR (h.nx + 2) (h3.new (.row (spC (s, true)) 142 true)) 142 2 (.slice (some ⟨h3.nx, 0, none⟩) 1 1) (cellsS [(s, true)]) := QlR.lit (by omega) rfl
  have n4 : (h3.new (.row (spC (s, true)) 142 true)).nx = h3.nx + 1 := rfl
  generalize hh4 : h3.new (.row (spC (s, true)) 142 true) = h4 at x4 q4 n4
  have g0 : GrS g s t first nxt h [] [(s, true)] h4 := by
    refine ⟨(x1.trans x3).trans x4, ?_, ?_, by omega, .nil, (fun p hp => by cases hp), fun z hz => .inl (List.mem_singleton.1 hz), fun z hz hq => ?_⟩
    · rw [x4.blk _ (by omega), x3.blk _ (by omega)]; exact b1
    · rw [x4.blk _ (by omega), ← n1]; exact b3
    · rcases hz with hz | hz
      · exact absurd (by rw [hz]; exact List.mem_singleton.2 rfl) hq
      · cases hz
  obtain ⟨e, ws', h', el, hQ⟩ := lpGo_inv (F := f70_l1 rcA 100 (pt fb 0) h h1)
    (fun d ws g9 => ∃ c kv Q qv, ws = [.bool false, qv] ∧ GrS g s t first nxt h kv Q g9 ∧ ((Q ≠ [] ∧ QlR (h.nx + 2) g9 142 2 qv (cellsS Q)) ∨ (Q = [] ∧ ∃ b o c', qv = .slice (some ⟨b, o, none⟩) 0 c')) ∧ Q.length + c = kv.length + 1 ∧ d = 22 - c)
    (fun e ws g9 => (e = .exit 0 ∧ ∃ kv, GrS g s t first nxt h kv [] g9) ∨ (e = .ret ∧ ∃ w2 hx, ws = [.bool true, w2] ∧ Ext h hx ∧ PostA g s t lo tv fb nb bb first hx g9))
    (by
      rintro d ws g9 ⟨c, kv, Q, qv, rfl, b, hq, hc, rfl⟩
      have hk := b.r.len hg.toGrB w.fl
      rcases hq with ⟨hne, q⟩ | ⟨rfl, b0, o, c', rfl⟩
      · obtain ⟨x, Q, rfl⟩ := List.exists_cons_of_ne_nil hne
        have gext := b.ext
        have glt := b.lt
        have e0 : ∀ {T : Type} (K : Value → Option T), (six qv 0 2 fun b o => ld Tryd.prog g9 142 b o K) = K (spV x) := fun K => q.slR.ldA ag142 sz142 (i := 0) (by omega) (x := spC x) (by simp [cellsS]) K
        obtain ⟨h7, hh7⟩ : ∃ h7, h7 = g9.var (.row (spC x) 142 true) := ⟨_, rfl⟩
        have x7 : Ext g9 h7 := hh7 ▸ .var _ _
        have n7 : h7.nx = g9.nx + 1 := by rw [hh7]; rfl
        have b7 : h7.blk g9.nx = some (.row (spC x) 142 true) := by rw [hh7]; exact var_at _ _
        have hxR := b.qr x List.mem_cons_self
        obtain ⟨v7, h8, e100, x19, s19, fr8⟩ := s100 (v := x.1) (b := x.2) (h := h7) ⟨a.ext (gext.trans x7), w, hg, hs, hxR.lt b.r hg.toGrB w.fl hs⟩
        have x19' := x19.toExt
        have n8 := x19'.nx
        obtain ⟨qb, hqb, hqlo, hqlt, _⟩ := q.blkOf
        have ai : GrI g s t first nxt h x g9.nx v7 (aheadL g s first nxt x) c kv Q qv 0 h8 := by
          refine ⟨b.keep (by omega) fun q hq => ?_, (x19'.blk _ (by omega)).trans b7, ⟨by omega, by omega⟩, s19, q.keep (by omega) fun p hp => ?_, fun p hp => ?_, (fun y hy => by cases hy), by simp only [List.length_cons] at hc; omega⟩
          · rw [x19'.blk q (by omega), x7.blk q (by omega)]
          · rw [hqb] at hp; cases hp
            rw [x19'.blk _ (by omega), x7.blk _ hqlt]
          · rw [hqb] at hp; cases hp
            exact ⟨by omega, fun e => by have := fr8 _ e; omega⟩
        obtain ⟨e2, ws2, g2, el2, hQ2⟩ := gr_l2 hmix a w hg hs ht hst (x := x) (h1 := h1) (h5 := g9) n1 ai
        have c113 := fun (K : Value → H → Option (Ex × List Value × H)) => (rcA_ne (by decide)).trans (calls_eq (K := K) (xs := [pt fb 0, spV x]) e100)
        have hl7 : ∀ {T : Type} (K : Int → Option T), len v7 K = K ((aheadL g s first nxt x).length : Nat) := fun K => by rw [s19.len]; simp
        have start : ∀ {r : Option (Ex × List Value × H)}, (onE e2 2 (sli Tryd.prog g2 143 (AM.gv ws2 1) (some (.int .i64 1)) none none fun v25 => out .normal [AM.gv ws2 0, v25] g2) (onR e2 (out .ret [AM.gv ws2 0, AM.gv ws2 1] g2)) = r) → f70_l1 rcA 100 (pt fb 0) h h1 [.bool false, qv] g9 = r := by
          intro r hr
          unfold f70_l1
          rw [gv21, q.slR.len, show AM.lt 0 ((cellsS (x :: Q)).length : Int) = true by simp [AM.lt, cellsS] <;> omega, ifB_true, e0, alS, ← hh7, nx_eq, ldS b7, c113, hl7, gv20, lp_eq el2]
          exact hr
        rcases hQ2 with ⟨rfl, kv2, Q2, qv2, w3, rfl, b2⟩ | ⟨rfl, w2, w3, hx, rfl, q1, q2⟩
        · obtain ⟨v25, e25, t1, t2, _⟩ := b2.q.tail (P := Tryd.prog) (t := 143) (by decide) (by kernel_rfl) sz142
          have hk2 := b2.gr.r.len hg.toGrB w.fl
          have hcn := b2.cnt
          refine ⟨.normal, [.bool false, v25], g2, start ?_, .inl ⟨rfl, 22 - (c + 1), by omega, c + 1, kv2, Q2, v25, rfl, ?_, ?_, by omega, rfl⟩⟩
          · rw [onE_exit, if_pos rfl, gv31, gv30, e25]
            rfl
          · have bg := b2.gr
            refine ⟨bg.ext, bg.m, bg.sb, bg.lt, bg.r, bg.nt, fun z hz => bg.qr z (List.mem_cons_of_mem _ hz), fun z hz hzq y hy hys => ?_⟩
            by_cases e : z = x
            · subst e
              have := b2.done y (by rw [List.take_length]; exact (w.ahead hg.toGrB).2 hy)
              exact this.resolve_left hys
            · exact bg.cl z hz (by rw [List.mem_cons, not_or]; exact ⟨e, hzq⟩) y hy hys
          · by_cases hQ2 : Q2 = []
            · right
              refine ⟨hQ2, t2 (by rw [hQ2]; rfl)⟩
            · left
              exact ⟨hQ2, t1 (by simpa [cellsS] using hQ2)⟩
        · refine ⟨.ret, [.bool true, w2], g2, start ?_, .inr ⟨by simp, .inr ⟨rfl, w2, hx, rfl, q1, q2⟩⟩⟩
          rw [onE_ret, onR_ret]
          rfl
      · refine ⟨.exit 0, [.bool false, .slice (some ⟨b0, o, none⟩) 0 c'], g9, ?_, .inr ⟨by simp, .inl ⟨rfl, kv, b⟩⟩⟩
        unfold f70_l1
        rw [gv21, len_slice, show AM.lt 0 ((0 : Nat) : Int) = false from rfl, ifB_false, gv20]
        rfl)
    22 100 (by omega) ⟨0, [], [(s, true)], _, rfl, g0, .inl ⟨by simp, q4⟩, rfl, rfl⟩
  have start : ∀ {r : Option (Value × H)}, (onE e 0 (some (.bool false, h')) (onR e (some (AM.gv ws' 0, h'))) = r) → f70 rcA 100 (pt fb 0) h = r := by
    intro r hr
    unfold f70
    rw [mkm_eq, ← hh1, nilp, asP_ptr, a1.lds, asI_int, kbldS, alS, ← hh3, nx_eq, ldS b3, bls_some (bls143 _ _), hh4, lp_eq el]
    exact hr
  rcases hQ with ⟨rfl, kv, b⟩ | ⟨rfl, w2, hx, rfl, q1, q2⟩
  · refine ⟨false, h', start rfl, .inr ⟨rfl, b.ext, _, b.r.endW (fun x hx y hy hys => b.cl x hx (by simp) y hy hys) hst b.nt⟩⟩
  · exact ⟨true, h', start rfl, .inl ⟨rfl, hx, q1, q2⟩⟩
/-- The search, told. -/
noncomputable def g70 (args : Array Value) (h : H) : Option (Value × H) :=
  match args.toList with
  | [v0] => f70 rcA 100 v0 h
  | _ => none
theorem g70_sure (hmix : Tryd.prog.follows .mixedOrders = true) {args : Array Value} {h h' : H} {v : Value} (e : g70 args h = some (v, h')) : Sure Tryd.prog E0 70 args h v h' := by
  unfold g70 at e
  split at e
  · rename_i v0 ha
    have ea : args = #[v0] := by
      cases args
      simp only at ha
      rw [ha]
    rw [ea]
    rw [← e70] at e
    obtain ⟨v1, h1, g1, g2⟩ := bodyT_some e
    cases g2
    exact body_sound (rcA_sound hmix) (draw_ok hmix (rcA_sound hmix)) g1
  · cases e
/-- The search and apply told. -/
noncomputable def rcG : Rec := over rcA 70 g70
theorem rcG_sound (hmix : Tryd.prog.follows .mixedOrders = true) : SoundR Tryd.prog E0 rcG := over_sound (rcA_sound hmix) fun _ _ _ _ e => g70_sure hmix e
theorem rcG_ne {f : FuncId} (h1 : f ≠ 101) (h2 : f ≠ 70) {h : H} {xs : List Value} {R : Type} {K : Value → H → Option R} : calls rcG h f xs K = calls rn h f xs K := (calls_over h2).trans (rcA_ne h1)
theorem k70 (hmix : Tryd.prog.follows .mixedOrders = true) (a : FlH g s t lo tv fb nb bb first nxt bf h) (w : StW g s t first nxt bf) (hg : GrN g) (hs : s < g.length) (ht : t < g.length) (hst : s ≠ t) :
    ∃ b h', (∀ {R : Type} (K : Value → H → Option R), calls rcG h 70 [pt fb 0] K = K (.bool b) h') ∧ PostG g s t lo tv fb nb bb first nxt h b h' := by
  obtain ⟨b, h', e, p⟩ := gr_walk hmix a w hg hs ht hst
  exact ⟨b, h', fun K => calls_at (xs := [pt fb 0]) (by unfold g70; exact e), p⟩
end
end Go.AM
end

section
namespace Go.AM
open Go.Proofs
variable {R : Type}
attribute [local simp] nx_eq nx_new nx_set blk_new blk_set asI_int asK_int asB_bool asP_ptr al_eq bx_eq len_slice onE_exit onE_ret onR_ret Value.cells d3 d22 w3 cell_new cell_set rd_new rd_set off eq lt le ifB gv out eqF1 eqF2 eqF3 eqF4 eqF5 eqF6 eqF7 eqF8 ext20 ext21
theorem u64_small {a : Int} (h1 : 0 ≤ a) (h2 : a < 18446744073709551616) : IntKind.u64.wrap a = a := by
  simp only [IntKind.wrap, IntKind.signed, IntKind.bits, Bool.false_and]
  exact Int.emod_eq_of_lt h1 h2
theorem and_u64 {a b : Nat} (ha : a < 2 ^ 64) (hb : b < 2 ^ 64) : AM.and .u64 (a : Int) (b : Int) = ((a &&& b : Nat) : Int) := by
  unfold AM.and
  show IntKind.u64.wrap ((BitVec.ofInt 64 (a : Int) &&& BitVec.ofInt 64 (b : Int)).toNat : Nat) = _
  have e : ∀ {x : Nat}, x < 2 ^ 64 → (BitVec.ofInt 64 (x : Int)).toNat = x := fun {x} hx => by
    rw [ofInt_nat, BitVec.toNat_ofNat]
    exact Nat.mod_eq_of_lt hx
  rw [BitVec.toNat_and, e ha, e hb]
  have := Nat.and_lt_two_pow a hb
  exact u64_small (by omega) (by omega)
/-- Once a small number. -/
theorem s114 {n : Nat} (hn : n < 2 ^ 31) (h : H) : rn 114 #[.int .u64 1, .int .u64 n] h = some (.tuple #[.int .u64 0, .int .u64 n], h) := by
  refine p114 (k := 0) (h1 := h) ?_ rfl (.refl _)
  have a1 : AM.and .u64 1 4294967295 = 1 := by decide
  have a2 : AM.and .u64 (n : Int) 4294967295 = n := by
    have := and_u64 (a := n) (b := 4294967295) (by omega) (by decide)
    rw [show ((4294967295 : Nat) : Int) = 4294967295 from rfl] at this
    rw [this, show (4294967295 : Nat) = 2 ^ 32 - 1 from rfl, Nat.and_two_pow_sub_one_eq_mod]
    congr 1
    exact Nat.mod_eq_of_lt (by omega)
  have a3 : shr .u64 1 32 = 0 := by decide
  have a4 : shr .u64 (n : Int) 32 = 0 := by
    unfold shr
    rw [show min (32 : Int).toNat IntKind.u64.bits = 32 from rfl, Int.fdiv_eq_ediv_of_nonneg _ (by decide)]
    exact Int.ediv_eq_zero_of_lt (by omega) (by omega)
  have m1 : mul .u64 1 (n : Int) = n := by unfold mul; rw [Int.one_mul]; exact u64_small (by omega) (by omega)
  have m2 : ∀ x : Int, mul .u64 0 x = 0 := fun x => by unfold mul; rw [Int.zero_mul]; rfl
  have m3 : mul .u64 1 0 = 0 := by decide
  have p1 : add .u64 0 0 = 0 := by decide
  have q0 : AM.and .u64 0 4294967295 = 0 := by decide
  have q1 : shr .u64 0 32 = 0 := by decide
  simp [f114, nn, a1, a2, a3, a4, m1, m2, m3, p1, q0, q1]
theorem s99 {n : Nat} (hn : n < 2 ^ 31) (h : H) : rn 99 #[.int .u64 1, .int .u64 n] h = some (.tuple #[.int .u64 0, .int .u64 n], h) := by
  refine p99 (k := 0) (h1 := h) ?_ rfl (.refl _)
  have c1 := fun (K : Value → H → Option (Value × H)) => calls_eq (K := K) (xs := [_, _]) (s114 hn h)
  simp [f99, c1]
/-- A copy from the beginning of a row to a later place in it, and to its beginning. -/
theorem cpy_row {h : H} {b n c k m : Nat} {src : Value} {l : List Int} {xs : List Int} {bs : Option Addr} {cs : Nat} (hb : h.blk b = some (.row (l.map iv) 3 true)) (hs : srcCells 1 (.slice bs (min k n) cs) h = some (xs.map iv)) (hsrc : src = .slice bs k cs) (h0 : 0 < min k n)
    (hx : xs.length = min k n) (hm : m + xs.length ≤ l.length) (K : Int → H → Option R) :
    cpy Tryd.prog h 22 (.slice (some ⟨b, m, none⟩) n c) src K = K (min k n : Nat) (h.set b (.row (setAt (l.map iv) m (xs.map iv)) 3 true)) := by
  subst hsrc
  unfold cpy copyS
  simp only [under22, sz3, Option.bind_some]
  rw [if_neg (by omega), hs, Option.bind_some, hb]
  simp only
  rw [if_pos ⟨by simpa using hm, by rw [List.all_map, List.all_eq_true]; intro x _; rfl⟩]
theorem setAt_ints (l xs : List Int) (m : Nat) (h : m + xs.length ≤ l.length) : setAt (l.map iv) m (xs.map iv) = (l.take m ++ xs ++ l.drop (m + xs.length)).map iv := by
  have e : l = l.take m ++ ((l.drop m).take xs.length ++ l.drop (m + xs.length)) := by
    rw [show l.drop (m + xs.length) = (l.drop m).drop xs.length by rw [List.drop_drop], List.take_append_drop, List.take_append_drop]
  conv => lhs; rw [e]
  rw [List.map_append, List.map_append]
  have hm : ((l.take m).map iv).length = m := by simp; omega
  have := setAt_mid (xs.map iv) ((l.take m).map iv) (((l.drop m).take xs.length).map iv) ((l.drop (m + xs.length)).map iv) (by simp; omega)
  rw [hm] at this
  rw [this]
  simp
theorem s69 {v : Value} {x : Int} {n : Nat} {h : H} (hv : SlR h 3 1 v (cellsI [x])) (h1 : 1 ≤ n) (hn : n < 2 ^ 20) : ∃ h', rn 69 #[v, iv n] h = some (.slice (some ⟨h.nx, 0, none⟩) n n, h') ∧ Exw h h' ∧ h.nx < h'.nx ∧ h'.blk h.nx = some (.row ((List.replicate n x).map iv) 3 true) := by
  obtain ⟨bs, cs, hsv, hsrc0⟩ : ∃ bs cs, v = .slice bs 1 cs ∧ srcCells 1 v h = some [iv x] := by
    have := hv.srcAll (by decide)
    generalize hL : cellsI [x] = L at hv
    cases hv with
    | nil => cases hL
    | at_ => subst hL; exact ⟨_, _, rfl, this⟩
  let h2 := h.new (.row ((List.replicate n (0 : Int)).map iv) 3 true)
  have x2 : Ext h h2 := .new _ _
  have b2 : h2.blk h.nx = some (.row ((List.replicate n (0 : Int)).map iv) 3 true) := blk_new_self _ _
  have hv2 := hv.ext x2
  have hsrc2 : srcCells 1 (.slice bs (min 1 n) cs) h2 = some ([x].map iv) := by
    rw [show min 1 n = 1 by omega, ← hsv]
    exact hv2.srcAll (by decide)
  have kmk : ∀ (K : Value → H → Option (Value × H)), mks Tryd.prog h 22 n n K = K (.slice (some ⟨h.nx, 0, none⟩) n n) h2 := fun K => mks_ints app22 zero3 (by omega) K
  have kc1 : ∀ (K : Int → H → Option (Value × H)), cpy Tryd.prog h2 22 (.slice (some ⟨h.nx, 0, none⟩) n n) v K = K 1 (h2.set h.nx (.row (setAt ((List.replicate n (0 : Int)).map iv) 0 ([x].map iv)) 3 true)) := fun K => by
    rw [cpy_row (k := 1) (xs := [x]) (l := List.replicate n 0) b2 hsrc2 hsv (by omega) (by simp; omega) (by simp; omega), show min 1 n = 1 by omega]
    rfl
  rw [setAt_ints _ _ _ (by simp; omega)] at kc1
  let row (i : Nat) : List Int := List.replicate i x ++ List.replicate (n - i) 0
  have hrow1 : (List.replicate n (0 : Int)).take 0 ++ [x] ++ (List.replicate n 0).drop (0 + [x].length) = row 1 := by simp [row]
  rw [hrow1] at kc1
  generalize hH3 : h2.set h.nx (.row ((row 1).map iv) 3 true) = h3 at kc1
  have n3 : h3.nx = h.nx + 1 := by rw [← hH3]; rfl
  have f3 : ∀ q, q < h.nx → h3.blk q = h.blk q := fun q hq => by rw [← hH3, blk_set_ne _ _ _ (by omega)]; exact x2.blk q hq
  have b3 : h3.blk h.nx = some (.row ((row 1).map iv) 3 true) := by rw [← hH3]; exact blk_set_self _ _ _
  -- the rounds
  have rounds : ∃ ws' g, lpGo (f69_l1 rn (n + 2) (.slice (some ⟨h.nx, 0, none⟩) n n)) (n + 2) [iv 1] h3 = some (.exit 0, ws', g) ∧ g.nx = h.nx + 1 ∧ (∀ q, q < h.nx → g.blk q = h.blk q) ∧ g.blk h.nx = some (.row ((row n).map iv) 3 true) := by
    obtain ⟨e, ws', g, hl, rfl, q1, q2, q3⟩ := lpGo_inv (F := f69_l1 rn (n + 2) (.slice (some ⟨h.nx, 0, none⟩) n n))
      (fun d ws g => ∃ i : Nat, ws = [iv i] ∧ 1 ≤ i ∧ i ≤ n ∧ d = n - i ∧ g.nx = h.nx + 1 ∧ (∀ q, q < h.nx → g.blk q = h.blk q) ∧ g.blk h.nx = some (.row ((row i).map iv) 3 true))
      (fun e ws g => e = .exit 0 ∧ g.nx = h.nx + 1 ∧ (∀ q, q < h.nx → g.blk q = h.blk q) ∧ g.blk h.nx = some (.row ((row n).map iv) 3 true))
      (by
        rintro d ws g ⟨i, rfl, hi1, hin, rfl, gn, gf, gb⟩
        by_cases hend : i = n
        · subst hend
          exact ⟨.exit 0, [iv i], g, by simp [f69_l1], .inr ⟨by simp, rfl, gn, gf, gb⟩⟩
        · have hcap : capK n = n := by
            have h30 : (2 : Nat) ^ 30 < U := by decide
            unfold capK; rw [if_pos (by omega)]
          have hnU : n < U := by
            have h30 : (2 : Nat) ^ 30 < U := by decide
            omega
          have s1 : ∀ (K : Value → Option (Ex × List Value × H)), sli Tryd.prog g 22 (.slice (some ⟨h.nx, 0, none⟩) n n) (some (iv i)) none none K = K (.slice (some ⟨h.nx, i, none⟩) (n - i) (n - i)) := fun K => by
            unfold sli slice
            simp only [under22, gb]
            rw [if_pos ⟨trivial, by omega, rfl⟩]
            simp only [sz3, Option.bind_some, bound, hcap]
            rw [if_pos ⟨by omega, by omega⟩]
            simp only [Option.bind_some]
            rw [if_pos (.inr hnU)]
            simp [show ¬ n = i by omega]
          have s2 : ∀ (K : Value → Option (Ex × List Value × H)), sli Tryd.prog g 22 (.slice (some ⟨h.nx, 0, none⟩) n n) none (some (iv i)) none K = K (.slice (some ⟨h.nx, 0, none⟩) i n) := fun K => by
            unfold sli slice
            simp only [under22, gb]
            rw [if_pos ⟨trivial, by omega, rfl⟩]
            simp only [sz3, Option.bind_some, bound, hcap]
            rw [if_pos ⟨by omega, by omega⟩]
            simp only [Option.bind_some]
            rw [if_pos (.inr hnU)]
            simp
          have hmin : 0 < min i (n - i) := by omega
          have hsrc : srcCells 1 (.slice (some ⟨h.nx, 0, none⟩) (min i (n - i)) n) g = some ((List.replicate (min i (n - i)) x).map iv) := by
            simp only [srcCells, Nat.mul_one]
            rw [if_neg (by omega)]
            simp only [H.rd, gb]
            rw [if_pos (by simp [row]; omega)]
            rw [List.drop_zero, ← List.map_take]
            congr 2
            simp only [row]
            rw [List.take_append_of_le_length (by simp; omega), List.take_replicate]
            congr 1
            omega
          have kc : ∀ (K : Int → H → Option (Ex × List Value × H)), cpy Tryd.prog g 22 (.slice (some ⟨h.nx, i, none⟩) (n - i) (n - i)) (.slice (some ⟨h.nx, 0, none⟩) i n) K = K (min i (n - i) : Nat) (g.set h.nx (.row ((row (i + min i (n - i))).map iv) 3 true)) := fun K => by
            rw [cpy_row (k := i) (xs := List.replicate (min i (n - i)) x) (l := row i) gb hsrc rfl hmin (by simp) (by simp [row]; omega), setAt_ints _ _ _ (by simp [row]; omega)]
            have hrow : (row i).take i ++ List.replicate (min i (n - i)) x ++ (row i).drop (i + (List.replicate (min i (n - i)) x).length) = row (i + min i (n - i)) := by
              simp only [row, List.take_append, List.drop_append, List.length_replicate, List.take_replicate, List.drop_replicate, Nat.min_self, Nat.sub_self, Nat.min_zero, Nat.zero_min, List.replicate_zero, List.append_nil]
              rw [show i - (i + min i (n - i)) = 0 by omega, List.replicate_zero, List.nil_append, List.replicate_append_replicate]
              congr 2
              omega
            rw [hrow]
          refine ⟨.normal, [iv ((i + min i (n - i) : Nat) : Int)], g.set h.nx (.row ((row (i + min i (n - i))).map iv) 3 true), ?_, .inl ⟨rfl, n - (i + min i (n - i)), by omega, i + min i (n - i), rfl, by omega, by omega, rfl, ?_, ?_, blk_set_self _ _ _⟩⟩
          · have hadd : add .i64 (i : Int) ((min i (n - i) : Nat) : Int) = ((i + min i (n - i) : Nat) : Int) := by rw [add64 (by omega) (by omega)]; omega
            simp only [f69_l1, gv, List.getD_cons_zero, AM.len, asI_int, lt_t (show (i : Int) < n by omega), ifB, if_true, s1, s2, kc, hadd, out]
          · rw [nx_set]; exact gn
          · intro q hq
            rw [blk_set_ne _ _ _ (by omega)]
            exact gf q hq)
      (n - 1) (n + 2) (by omega) ⟨1, rfl, Nat.le_refl _, h1, rfl, n3, f3, b3⟩
    exact ⟨ws', g, hl, q1, q2, q3⟩
  obtain ⟨ws', g, hl, q1, q2, q3⟩ := rounds
  have hrn : row n = List.replicate n x := by simp [row]
  rw [hrn] at q3
  have hlv : ∀ (K : Int → Option (Value × H)), len v K = K 1 := fun K => by rw [hsv]; rfl
  have w1 : wr .u64 1 = 1 := by decide
  have w2 : wr .u64 (n : Int) = n := u64_small (by omega) (by omega)
  have w3' : wr .i64 (n : Int) = n := wrap64 (by omega) (by omega)
  have c1 := fun (K : Value → H → Option (Value × H)) => calls_eq (K := K) (xs := [_, _]) (s99 (n := n) (by omega) h)
  have hfin : f69 rn (n + 2) v n h = some (.slice (some ⟨h.nx, 0, none⟩) n n, g) := by
    unfold f69
    rw [lt_f (by omega), ifB_false, hlv, w1, w2, c1, ext20, asI_int, ext21, asI_int, lt_f (by omega), ifB_false, lt_f (by omega), ifB_false, w3', kmk, kc1]
    refine (lp_eq hl).trans ?_
    rw [onE_exit, if_pos rfl]
  obtain ⟨g2, e2, m2, w2'⟩ := x69 hfin rfl
  exact ⟨g2, e2, w2' ⟨by omega, q2⟩, by rw [m2.nx]; omega, by rw [m2.blk]; exact q3⟩
end Go.AM
end

section
namespace Go.AM
open Go.Proofs
variable {R : Type}
theorem chain_last {F : Nat → Nat → Prop} {t : Nat} : ∀ (w : List Nat) (u : Nat), chainA F u w t → (u :: w).dropLast ++ [t] = u :: w := by
  intro w
  induction w with
  | nil => intro u h; cases h; rfl
  | cons x w ih =>
    intro u h
    rw [List.dropLast_cons_cons, List.cons_append, ih x h.2]
section
variable {g : List Nat} {s t lo fb nb bb first : Nat} {tv : Value} {nxt : List Int} {bf : List Value} {h : H}
theorem FlH.fr (a : FlH g s t lo tv fb nb bb first nxt bf h) {l2 : Nat} {h' : H} (x : Fr l2 h h') (h1 : fb < l2 ∧ nb < l2 ∧ bb < l2) : FlH g s t lo tv fb nb bb first nxt bf h' :=
  ⟨a.tvs.keepB x.nx fun b hb => x.blk b (by have := a.tvlo b hb; have := a.lo; omega), a.tvlo, (x.blk _ h1.1).trans a.f, (x.blk _ h1.2.1).trans a.n, (x.blk _ h1.2.2).trans a.b, a.ne, a.lo, Nat.lt_of_lt_of_le a.lt.1 x.nx, Nat.lt_of_lt_of_le a.lt.2.1 x.nx, Nat.lt_of_lt_of_le a.lt.2.2 x.nx⟩
theorem way_l3 {l2 : Nat} {h7 : H} (fl : FlW (adjP g) s t (flS s first nxt)) (h7n : h7.nx = fb) (hlt : fb < l2 ∧ nb < l2 ∧ bb < l2) : ∀ (w : List Nat) (u : Nat), chainA (flS s first nxt) u w t → u ≠ s → ∀ (h15 : H) (wv : Value) (acc : List Nat) (m : Nat), w.length < m → acc.length + w.length < 1000 → FlH g s t lo tv fb nb bb first nxt bf h15 → AqR l2 h15 3 1 wv (cellsN acc) → l2 ≤ h15.nx →
    ∃ wv' h', lpGo (f28_l3 rcG 100 (t : Nat) h7) m [wv, iv u] h15 = some (.exit 4, [wv', iv t], h') ∧ Fr l2 h15 h' ∧ AqR l2 h' 3 1 wv' (cellsN (acc ++ (u :: w).dropLast)) := by
  intro w
  induction w with
  | nil =>
    intro u hc _ h15 wv acc m hm _ a q hlo
    obtain ⟨m, rfl⟩ : ∃ k, m = k + 1 := ⟨m - 1, by omega⟩
    cases hc
    refine ⟨wv, h15, lpGo_exit ?_, .refl _ _, by simpa using q⟩
    unfold f28_l3
    rw [gv21, gv20, asI_int, eqN', decide_eq_true rfl, Bool.not_true, ifB_false]
    rfl
  | cons x w ih =>
    intro u hc hus h15 wv acc m hm hl a q hlo
    simp only [List.length_cons] at hm hl
    obtain ⟨m, rfl⟩ : ∃ k, m = k + 1 := ⟨m - 1, by omega⟩
    obtain ⟨h1, h2⟩ := hc
    have hut : u ≠ t := fun e => fl.nt x (e ▸ h1)
    have hxs : x ≠ s := fun e => fl.ns u (e ▸ h1)
    have hnx : nxt[u]? = some (x : Int) := by
      rcases h1 with h | h
      · exact absurd h.1 hus
      · exact h.2
    obtain ⟨wv1, h17, e17, q17, n17, k17, b', hb', hb''⟩ := q.push app22 app22 (bls22 (u : Int)) rfl rfl (by simp; omega) hlo
    have f17 : Fr l2 h15 h17 := ⟨n17, fun b hb => k17 b (by omega) (fun e => by have := (q.blkOf e).1; omega)⟩
    have a17 := a.fr f17 hlt
    have q17' : AqR l2 h17 3 1 wv1 (cellsN (acc ++ [u])) := by
      have : cellsN (acc ++ [u]) = cellsN acc ++ [[iv (u : Int)]] := by simp
      rw [this]; exact q17
    obtain ⟨wv', h', i1, i2, i3⟩ := ih x h2 hxs h17 wv1 (acc ++ [u]) m (by omega) (by simp; omega) a17 q17' (by have := f17.nx; omega)
    refine ⟨wv', h', ?_, f17.trans i2, ?_⟩
    · rw [lpGo_next (h' := h17) (ws' := [wv1, iv x])]
      · exact i1
      · unfold f28_l3
        rw [gv21, gv20, asI_int, eqN', decide_eq_false hut, Bool.not_false, ifB_true, e17, nx_eq, h7n, a17.ldn, asK_int, a17.getn hnx, asI_int]
        rfl
    · rw [List.dropLast_cons_cons, show acc ++ u :: (x :: w).dropLast = (acc ++ [u]) ++ (x :: w).dropLast by simp]
      exact i3
/-- One way. -/
theorem way_one {h7 : H} (fl : FlW (adjP g) s t (flS s first nxt)) (h7n : h7.nx = fb) {u : Nat} {w : List Nat} (hw : WayW (flS s first nxt) s t g.length u w) (hg : GrN g) {h13 : H} (a : FlH g s t lo tv fb nb bb first nxt bf h13) :
    ∃ v21 h20, (∀ (K : Value → H → Option (Ex × List Value × H)), (bls Tryd.prog h13 22 1 [(0, (.int .i64 (s : Nat)))] fun v15 h14 => lp 100 (f28_l3 rcG 100 (t : Nat) h7) [v15, (.int .i64 (u : Nat))] h14 fun e1 ws4 h18 => onE e1 4 (
      bls Tryd.prog h18 22 1 [(0, (.int .i64 (t : Nat)))] fun v20 h19 => app Tryd.prog h19 22 22 (AM.gv ws4 0) v20 K) none) = K v21 h20) ∧ Ext h13 h20 ∧ SlR h20 3 1 v21 (cellsN (s :: u :: w)) ∧ ∃ p q r, v21 = .slice p q r := by
  have hlen := hg.len
  have hwl := hw.len
  have halt := a.lt
  have hus : u ≠ s := fun e => fl.ns s (e ▸ hw.first)
  have x14 : Ext h13 (h13.new (.row [iv (s : Nat)] 3 true)) := .new _ _
  have q14 : AqR h13.nx (h13.new (.row [iv (s : Nat)] 3 true)) 3 1 (.slice (some ⟨h13.nx, 0, none⟩) 1 1) (cellsN [s]) := AqR.lit (l := [[iv (s : Nat)]]) (Nat.le_refl _) rfl (by simp) (by simp)
  have n14 : (h13.new (.row [iv (s : Nat)] 3 true)).nx = h13.nx + 1 := rfl
  have e14 : ∀ {T : Type} (K : Value → H → Option T), bls Tryd.prog h13 22 1 [(0, .int .i64 (s : Nat))] K = K (.slice (some ⟨h13.nx, 0, none⟩) 1 1) (h13.new (.row [iv (s : Nat)] 3 true)) := fun K => bls_some (bls22 (s : Int) h13)
  generalize h13.new (.row [iv (s : Nat)] 3 true) = h14 at x14 q14 n14 e14
  obtain ⟨wv, h18, el, f18, q18⟩ := way_l3 (l2 := h13.nx) fl h7n halt w u hw.chain hus h14 _ [s] 100 (by omega) (by simp; omega) (a.ext x14) q14 (by omega)
  obtain ⟨v21, h20, e20, q20, n20, k20, b', hb', hb''⟩ := q18.push app22 app22 (bls22 (t : Int)) rfl rfl (by simp; omega) (by have := f18.nx; omega)
  have n18 := f18.nx
  refine ⟨v21, h20, fun K => ?_, ⟨by omega, fun b hb => ?_⟩, ?_, q20.isSl⟩
  · rw [e14, lp_eq el, onE_exit, if_pos rfl, gv20, e20]
  · rw [k20 b (by omega) (fun e => by have := (q18.blkOf e).1; omega), f18.blk b hb]
    exact x14.blk b hb
  · have h1 := chain_last w u hw.chain
    have : cellsN (s :: u :: w) = cellsN ([s] ++ (u :: w).dropLast) ++ [[iv (t : Int)]] := by
      rw [← h1]; simp
    rw [this]; exact q20.slR
/-- All ways. -/
theorem way_l2 {h7 : H} (fl : FlW (adjP g) s t (flS s first nxt)) (h7n : h7.nx = fb) {w : Nat → List Nat} {L : List Nat} (hw : ∀ u ∈ L, WayW (flS s first nxt) s t g.length u (w u)) (hL : L.length ≤ 20) (hg : GrN g) {h12 : H} (a : FlH g s t lo tv fb nb bb first nxt bf h12) {v13 : Value} (hv : SlR h12 3 1 v13 (cellsN L)) :
    ∃ ov h' vs, lpGo (f28_l2 rcG 100 (s : Nat) (t : Nat) h7 v13 (L.length : Nat)) 100 [.slice none 0 0, iv 0] h12 = some (.exit 2, [ov, iv (L.length : Nat)], h') ∧ Ext h12 h' ∧ SlR h' 22 1 ov (cellsV vs) ∧ AllSl vs ∧ LSI h' vs (L.map fun u => (s :: u :: w u).map Int.ofNat) := by
  obtain ⟨e, ws', h', el, rfl, ov, rfl, x, vs, q, hvs, hl⟩ := lp_range (F := f28_l2 rcG 100 (s : Nat) (t : Nat) h7 v13 (L.length : Nat)) (k := 100) (n := L.length)
    (fun i ws h' => ∃ ov, ws = [ov, iv i] ∧ Ext h12 h' ∧ ∃ vs, AqR h12.nx h' 22 1 ov (cellsV vs) ∧ AllSl vs ∧ LSI h' vs ((L.take i).map fun u => (s :: u :: w u).map Int.ofNat))
    (fun e ws h' => e = .exit 2 ∧ ∃ ov, ws = [ov, iv (L.length : Nat)] ∧ Ext h12 h' ∧ ∃ vs, AqR h12.nx h' 22 1 ov (cellsV vs) ∧ AllSl vs ∧ LSI h' vs (L.map fun u => (s :: u :: w u).map Int.ofNat))
    (by
      rintro i ws h13 hi ⟨ov, rfl, x, vs, q, hvs, hl⟩
      have hu := List.getElem?_eq_getElem hi
      generalize L[i] = u at hu
      have huL := List.mem_of_getElem? hu
      have a13 := a.ext x
      have e1 : ∀ {T : Type} (K : Value → Option T), (six v13 (i : Int) 1 fun b o => ld Tryd.prog h13 3 b o K) = K (iv (u : Int)) := fun K => (hv.ext x).ld0 ag3 (by omega) (x := [iv (u : Int)]) (by simp [hu]) rfl K
      obtain ⟨v21, h20, e20, x20, s20, p, qq, r, rfl⟩ := way_one fl h7n (hw u huL) hg a13
      have hvl : vs.length ≤ 20 := by
        have := hl.1
        rw [List.length_map, List.length_take] at this
        omega
      obtain ⟨ov', h22, e22, q22, n22, k22, b', hb', hb''⟩ := (q.ext x20).push app56 app56 (bls56 (x := p) (y := qq) (z := r)) rfl rfl (by rw [List.length_map]; omega) (by have := x.nx; have := x20.nx; omega)
      have hob : ∀ b, blkOf ov = some b → h12.nx ≤ b ∧ ∃ cs, h20.blk b = some (.row cs 22 true) := fun b hb => by
        obtain ⟨q1, _, q3⟩ := (q.ext x20).blkOf hb
        exact ⟨q1, _, q3⟩
      refine ⟨.normal, [ov', iv ((i + 1 : Nat) : Int)], h22, ?_, .inl ⟨rfl, ov', rfl, ⟨by have := x.nx; have := x20.nx; omega, fun b hb => ?_⟩, vs ++ [.slice p qq r], ?_, fun z hz => ?_, ?_⟩⟩
      · unfold f28_l2
        rw [gv21, gv20, asI_int, lt_nat hi, ifB_true, asK_int, e1, asI_int]
        refine (e20 _).trans ?_
        rw [e22, asI_int, add1 (by omega)]
        rfl
      · rw [k22 b (by have := x.nx; have := x20.nx; omega) (fun e => by have := (hob b e).1; omega), x20.blk b (by have := x.nx; omega)]
        exact x.blk b hb
      · have : cellsV (vs ++ [.slice p qq r]) = cellsV vs ++ [[.slice p qq r]] := by simp
        rw [this]; exact q22
      · rcases List.mem_append.1 hz with hz | hz
        · exact hvs z hz
        · rw [List.mem_singleton.1 hz]; exact ⟨_, _, _, rfl⟩
      · rw [List.take_add_one, hu, List.map_append]
        have hk : ∀ b cs o, b < h20.nx → h20.blk b = some (.row cs 3 o) → h22.blk b = h20.blk b := fun b cs o hb hr => k22 b hb fun e => by
          obtain ⟨_, cs', h3⟩ := hob b e
          rw [hr] at h3
          simp at h3
        refine LSI.snoc ((hl.ext x20).keep n22 hk) ?_
        rw [cellsN_eq]
        exact s20.keepB n22 fun b hb => by
          obtain ⟨h1, cs, o, h2⟩ := s20.blkR hb
          exact hk b cs o h1 h2)
    (by
      rintro ws h13 ⟨ov, rfl, x, vs, q, hvs, hl⟩
      rw [List.take_length] at hl
      refine ⟨.exit 2, [ov, iv (L.length : Nat)], h13, ?_, by simp, rfl, ov, rfl, x, vs, q, hvs, hl⟩
      unfold f28_l2
      rw [gv21, gv20, asI_int, lt_self, ifB_false]
      rfl)
    (by omega) ⟨.slice none 0 0, rfl, .refl _, [], .nil, (fun z hz => by cases hz), ⟨rfl, fun i z m h => by simp at h⟩⟩
  exact ⟨ov, h', vs, el, x, q.slR, hvs, hl⟩
end
end Go.AM
end

section
namespace Go.AM
open Go.Proofs
variable {R : Type}
section
variable {g : List Nat} {s t : Nat} {h : H}
theorem bld115 (tv v7 v9 : Value) (a b : Int) (K : Value → Option R) {x y z p q r p' q' r'} (h1 : tv = .slice x y z) (h2 : v7 = .slice p q r) (h3 : v9 = .slice p' q' r') : bld Tryd.prog 112 [(0, tv), (1, .int .i64 a), (2, .int .i64 b), (4, v7), (5, v9)] K = K (.agg #[tv, .int .i64 a, .int .i64 b, .int .i64 0, v7, v9]) := by
  subst h1; subst h2; subst h3
  exact bld_some (by kernel_rfl)
/-- The least sets, and the ways. -/
structure WaysR (g : List Nat) (s t first : Nat) (w : Nat → List Nat) : Prop where
  fb : first < 2 ^ g.length
  ex : ∃ (F : Nat → Nat → Prop) (R : Spot → Prop), FlW (adjP g) s t F ∧ EndW (adjP g) s t F R ∧ (∀ u, F s u ↔ first.testBit u = true) ∧ ∀ u ∈ elts first, WayW F s t g.length u (w u)
set_option maxHeartbeats 1000000 in
theorem s28 (hmix : Tryd.prog.follows .mixedOrders = true) {v : Value} (hg : GrN g) (hval : validG (g.map Int.ofNat) = true) (hs0 : SlR h 3 1 v (cellsN g)) (hs : s < g.length) (ht : t < g.length) (hst : s ≠ t) :
    ∃ ov h' vs first w, f28 rcG 100 v (s : Nat) (t : Nat) h = some (.tuple #[ov, iv 0], h') ∧ Ext h h' ∧ SlR h' 22 1 ov (cellsV vs) ∧ AllSl vs ∧ LSI h' vs ((elts first).map fun u => (s :: u :: w u).map Int.ofNat) ∧ WaysR g s t first w := by
  have hlen := hg.len
  have hpos := hg.pos
  have e36 := s36 (v := v) (l := g.map Int.ofNat) (h := h) (by rw [cellsN_eq]; exact hs0)
  rw [if_pos hval] at e36
  have nd : ∀ {z : Nat}, z < g.length → nodeB g (z : Int) = true := fun {z} hz => by unfold nodeB; simp; omega
  have e68s := s68 (z := (s : Int)) hs0
  have e68t := s68 (z := (t : Int)) hs0
  rw [nd hs] at e68s
  rw [nd ht] at e68t
  have hn : ∀ {T : Type} (K : Int → Option T), len v K = K (g.length : Int) := fun K => by rw [hs0.len]; simp
  have c63 := fun (K : Value → H → Option (Value × H)) => (rcG_ne (by decide) (by decide)).trans (calls_eq (K := K) (xs := [v]) e36)
  have c79s := fun (K : Value → H → Option (Value × H)) => (rcG_ne (by decide) (by decide)).trans (calls_eq (K := K) (xs := [v, iv s]) e68s)
  have c79t := fun (K : Value → H → Option (Value × H)) => (rcG_ne (by decide) (by decide)).trans (calls_eq (K := K) (xs := [v, iv t]) e68t)
  -- the two rows
  have lit : ∀ (h : H), SlR (h.new (.row [iv (-1)] 3 true)) 3 1 (.slice (some ⟨h.nx, 0, none⟩) 1 1) (cellsI [-1]) := fun h => (AqR.lit (lo := h.nx) (l := [[iv (-1)]]) (Nat.le_refl _) rfl (by simp) (by simp)).slR
  have x4 : Ext h (h.new (.row [iv (-1)] 3 true)) := .new _ _
  have n4 : (h.new (.row [iv (-1)] 3 true)).nx = h.nx + 1 := rfl
  have e4 : ∀ (K : Value → H → Option (Value × H)), bls Tryd.prog h 22 1 [(0, .int .i64 (-1))] K = K (.slice (some ⟨h.nx, 0, none⟩) 1 1) (h.new (.row [iv (-1)] 3 true)) := fun K => bls_some (bls22 (-1) h)
  have l4 := lit h
  generalize h.new (.row [iv (-1)] 3 true) = h4 at x4 n4 e4 l4
  obtain ⟨h5, e5, x5, n5, b5⟩ := s69 (n := g.length) l4 (by omega) (by omega)
  have x6 : Ext h5 (h5.new (.row [iv (-1)] 3 true)) := .new _ _
  have n6 : (h5.new (.row [iv (-1)] 3 true)).nx = h5.nx + 1 := rfl
  have e6 : ∀ (K : Value → H → Option (Value × H)), bls Tryd.prog h5 22 1 [(0, .int .i64 (-1))] K = K (.slice (some ⟨h5.nx, 0, none⟩) 1 1) (h5.new (.row [iv (-1)] 3 true)) := fun K => bls_some (bls22 (-1) h5)
  have l6 := lit h5
  generalize h5.new (.row [iv (-1)] 3 true) = h6 at x6 n6 e6 l6
  obtain ⟨h7, e7, x7, n7, b7⟩ := s69 (n := g.length) l6 (by omega) (by omega)
  have x5n := x5.toExt.nx
  have x7n := x7.toExt.nx
  obtain ⟨tx, ty, tz, htv⟩ := hs0.isSl
  obtain ⟨h8, hh8⟩ : ∃ h8, h8 = h7.new (.row [v, iv s, iv t, iv 0, .slice (some ⟨h4.nx, 0, none⟩) g.length g.length, .slice (some ⟨h6.nx, 0, none⟩) g.length g.length] 112 true) := ⟨_, rfl⟩
  have x19 : Ext h7 h8 := hh8 ▸ .new _ _
  have n8 : h8.nx = h7.nx + 1 := by rw [hh8]; rfl
  have x08 := (((x4.trans x5.toExt).trans x6).trans x7.toExt).trans x19
  have hnb : h8.blk h4.nx = some (.row ((List.replicate g.length (-1 : Int)).map iv) 3 true) := by
    rw [x19.blk _ (by omega), x7.toExt.blk _ (by omega), x6.blk _ (by omega)]; exact b5
  have hbb : h8.blk h6.nx = some (.row ((List.replicate g.length (-1 : Int)).map iv) 3 true) := by
    rw [x19.blk _ (by omega)]; exact b7
  have a8 : FlH g s t h.nx v h7.nx h4.nx h6.nx 0 (List.replicate g.length (-1)) (List.replicate g.length (iv (-1))) h8 := by
    refine ⟨hs0.ext x08, fun b hb => (hs0.blkR hb).1, ?_, hnb, ?_, by omega, by omega, by omega⟩
    · rw [hh8, blk_new_self, List.length_replicate, List.length_replicate]; rfl
    · rw [hbb, List.map_replicate]
  -- the search, again and again
  obtain ⟨e, ws', h11, el, rfl, first, nxt, bf, x11, a11, w11, Rr, eR⟩ := lpGo_inv (F := f28_l1 rcG 100 h7)
    (fun d ws g' => ws = [] ∧ ∃ first nxt bf, Ext h g' ∧ FlH g s t h.nx v h7.nx h4.nx h6.nx first nxt bf g' ∧ StW g s t first nxt bf ∧ d = 10 - pop first)
    (fun e ws g' => e = .exit 0 ∧ ∃ first nxt bf, Ext h g' ∧ FlH g s t h.nx v h7.nx h4.nx h6.nx first nxt bf g' ∧ StW g s t first nxt bf ∧ ∃ R, EndW (adjP g) s t (flS s first nxt) R)
    (by
      rintro d ws g' ⟨rfl, first, nxt, bf, x, a, w, rfl⟩
      obtain ⟨b, g2, k, p⟩ := k70 hmix a w hg hs ht hst
      rcases p with ⟨rfl, hx, q1, first', nxt', bf', q2, q3, q4, q5, q6⟩ | ⟨rfl, q1, R, q2⟩
      · have hp := pop_le_n hlen q3.fb
        refine ⟨.normal, [], g2, ?_, .inl ⟨rfl, 10 - pop first', by omega, rfl, first', nxt', bf', ⟨by have := x.nx; have := q1.nx; omega, fun b hb => ?_⟩, q2, q3, rfl⟩⟩
        · unfold f28_l1
          rw [nx_eq, k, asB_bool, ifB_true]
          rfl
        · have := x.nx
          have := q1.nx
          rw [q6 b (by omega) (by omega) (by omega) (by omega), q1.blk b (by omega)]
          exact x.blk b hb
      · refine ⟨.exit 0, [], g2, ?_, .inr ⟨by simp, rfl, first, nxt, bf, x.trans q1, a.ext q1, w, R, q2⟩⟩
        unfold f28_l1
        rw [nx_eq, k, asB_bool, ifB_false]
        rfl)
    10 100 (by omega) ⟨rfl, 0, _, _, x08, a8, .zero g hs, by decide⟩
  have hf10 : first < 1024 := Nat.lt_of_lt_of_le w11.fb hg.pow
  obtain ⟨v13, h12, e54, x12, s13⟩ := s54 hf10 h11
  have c76 := fun (K : Value → H → Option (Value × H)) => (rcG_ne (by decide) (by decide)).trans (calls_eq (K := K) (xs := [iv (first : Nat)]) e54)
  have hl13 : ∀ {T : Type} (K : Int → Option T), len v13 K = K ((elts first).length : Nat) := fun K => by rw [s13.len]; simp
  obtain ⟨w, hw⟩ := w11.ways hg.toGrB
  obtain ⟨ov, h', vs, el2, x', q1, q2, q3⟩ := way_l2 (h7 := h7) w11.fl rfl hw (by have := elts_len first; have := pop_le_n (n := 10) (Nat.le_refl _) hf10; omega) hg (a11.ext x12.toExt) s13
  refine ⟨ov, h', vs, first, w, ?_, (x11.trans x12.toExt).trans x', q1, q2, q3, ⟨w11.fb, flS s first nxt, Rr, w11.fl, eR, fun u => ?_, hw⟩⟩
  · have c5 := fun (K : Value → H → Option (Value × H)) => (rcG_ne (by decide) (by decide)).trans (calls_eq (K := K) (xs := [_, iv (g.length : Nat)]) e5)
    have c7 := fun (K : Value → H → Option (Value × H)) => (rcG_ne (by decide) (by decide)).trans (calls_eq (K := K) (xs := [_, iv (g.length : Nat)]) e7)
    unfold f28
    rw [c63, ext20, ext21, asB_bool, Bool.not_true, ifB_false, c79s, asB_bool, Bool.not_true, ifB_false, c79t, asB_bool, Bool.not_true, ifB_false, eqN', decide_eq_false hst, ifB_false, e4, hn, c5, e6, hn, c7, bld115 _ _ _ _ _ _ htv rfl rfl, bx_eq]
    rw [show (Value.agg #[v, iv s, iv t, iv 0, .slice (some ⟨h4.nx, 0, none⟩) g.length g.length, .slice (some ⟨h6.nx, 0, none⟩) g.length g.length]).cells.toList = [v, iv s, iv t, iv 0, .slice (some ⟨h4.nx, 0, none⟩) g.length g.length, .slice (some ⟨h6.nx, 0, none⟩) g.length g.length] from rfl, ← hh8, lp_eq el, onE_exit, if_pos rfl, nx_eq, a11.ldf, asI_int, c76, hl13, lp_eq el2, onE_exit, if_pos rfl, gv20]
  · unfold flS
    exact ⟨fun h => h.elim And.right fun h => absurd rfl h.1, fun h => .inl ⟨rfl, h⟩⟩
end
end Go.AM
end

section
namespace Go.AM
open Go.Proofs
noncomputable def f29_l1 (rec : Rec) (_k : Nat) (n0 : Int) (n1 : Int) (v2 : Value) (n3 : Int) (ws0 : List Value) (h6 : H) : Option (Ex × List Value × H) :=
 asI .i64 (gv ws0 1) fun n4 =>
 ifB (lt n4 (shl .i64 1 n3)) (
 asI .i64 (gv ws0 1) fun n5 =>
 nn n0 (
 ifB (eq (and .i64 (shr .i64 n5 n0) 1) 0) (
 asI .i64 (gv ws0 1) fun n6 =>
 nn n1 (
 ifB (eq (and .i64 (shr .i64 n6 n1) 1) 0) (
 calls rec h6 55 [gv ws0 1] fun v8 h7 =>
 asI .i64 v8 fun n7 =>
 calls rec h7 55 [gv ws0 0] fun v9 h8 =>
 asI .i64 v9 fun n8 =>
 ifB (lt n7 n8) (
 calls rec h8 43 [v2] fun v10 h9 =>
 asI .i64 v10 fun n9 =>
 asI .i64 (gv ws0 1) fun n10 =>
 calls rec h9 72 [v2, (.int .i64 n0), (.int .i64 (andNot .i64 n9 n10))] fun v11 h10 =>
 asI .i64 v11 fun n11 =>
 nn n1 (
 ifB (eq (and .i64 (shr .i64 n11 n1) 1) 0) (
 asI .i64 (gv ws0 1) fun n12 =>
 out .normal [gv ws0 1, (.int .i64 (add .i64 n12 1))] h10) (
 asI .i64 (gv ws0 1) fun n13 =>
 out .normal [gv ws0 0, (.int .i64 (add .i64 n13 1))] h10))) (
 asI .i64 (gv ws0 1) fun n14 =>
 out .normal [gv ws0 0, (.int .i64 (add .i64 n14 1))] h8)) (
 asI .i64 (gv ws0 1) fun n15 =>
 out .normal [gv ws0 0, (.int .i64 (add .i64 n15 1))] h6))) (
 asI .i64 (gv ws0 1) fun n16 =>
 out .normal [gv ws0 0, (.int .i64 (add .i64 n16 1))] h6))) (
 out (.exit 0) [gv ws0 0, gv ws0 1] h6)
noncomputable def f29 (rec : Rec) (k : Nat) (v0 : Value) (n0 : Int) (n1 : Int) (h0 : H) : Option (Value × H) :=
 calls rec h0 36 [v0] fun v1 h1 =>
 ext v1 0 fun v2 =>
 ext v1 1 fun v3 =>
 asB v3 fun q0 =>
 ifB (not q0) (
 some ((.tuple #[(.int .i64 0), (.int .i64 2)]), h1)) (
 calls rec h1 68 [v2, (.int .i64 n0)] fun v4 h2 =>
 asB v4 fun q1 =>
 ifB (not q1) (
 some ((.tuple #[(.int .i64 0), (.int .i64 2)]), h2)) (
 calls rec h2 68 [v2, (.int .i64 n1)] fun v5 h3 =>
 asB v5 fun q2 =>
 ifB (not q2) (
 some ((.tuple #[(.int .i64 0), (.int .i64 2)]), h3)) (
 ifB (eq n0 n1) (
 some ((.tuple #[(.int .i64 0), (.int .i64 2)]), h3)) (
 calls rec h3 71 [v2, (.int .i64 n0), (.int .i64 n1)] fun v6 h4 =>
 asB v6 fun q3 =>
 ifB q3 (
 some ((.tuple #[(.int .i64 0), (.int .i64 2)]), h4)) (
 calls rec h4 43 [v2] fun v7 h5 =>
 asI .i64 v7 fun n2 =>
 len v2 fun n3 =>
 nn n3 (
 lp k (f29_l1 rec k n0 n1 v2 n3) [(.int .i64 n2), (.int .i64 0)] h5 fun e0 ws1 h11 =>
 onE e0 0 (
 some ((.tuple #[gv ws1 0, (.int .i64 0)]), h11)) (
 none)))))))
theorem e29 (rec : Rec) (k : Nat) (v0 : Value) (n0 : Int) (n1 : Int) (h : H) : bodyT Tryd.prog E0 SC (XC Tryd.prog rec k) 29 (Value × H) [.opq v0, .int .i64 n0, .int .i64 n1] h (fun v h => some (v, h)) = f29 rec k v0 n0 n1 h := by kernel_rfl
theorem t29 {k : Nat} {v0 : Value} {n0 : Int} {n1 : Int} {h h1 : H} {v : Value} (hh : f29 rn k v0 n0 n1 h = some (v, h1)) : rn 29 #[v0, .int .i64 n0, .int .i64 n1] h = some (v, trunc Tryd.prog h h1 v) :=
  run_of_bodyT (args := [.opq v0, .int .i64 n0, .int .i64 n1]) rfl ((e29 _ _ _ _ _ _).trans hh)
theorem p29 {k : Nat} {v0 : Value} {n0 : Int} {n1 : Int} {h h1 : H} {v : Value} (hh : f29 rn k v0 n0 n1 h = some (v, h1)) (hp : plainO v = true) (x : Ext h h1) : rn 29 #[v0, .int .i64 n0, .int .i64 n1] h = some (v, h) := by rw [t29 hh, trunc_pure hp x]
end Go.AM
end

section
namespace Go.AM
open Go.Proofs
variable {R : Type}
theorem lp_sum {σ : Type} (enc : σ → Value) (f : σ → Nat → σ) (inv : σ → Prop) {F : List Value → H → Option (Ex × List Value × H)} {k n oj : Nat} {h : H} {s0 : σ} (h0 : inv s0) (hk : n < k)
    (step : ∀ s i, i < n → inv s → inv (f s i) ∧ F [enc s, iv (i : Nat)] h = some (.normal, [enc (f s i), iv ((i + 1 : Nat) : Int)], h)) (fin : ∀ s, F [enc s, iv (n : Nat)] h = some (.exit oj, [enc s, iv (n : Nat)], h)) :
    lpGo F k [enc s0, iv 0] h = some (.exit oj, [enc ((List.range n).foldl f s0), iv (n : Nat)], h) ∧ inv ((List.range n).foldl f s0) := by
  have key : ∀ (d i m : Nat) (s : σ), i + d = n → d < m → inv s → lpGo F m [enc s, iv (i : Nat)] h = some (.exit oj, [enc ((List.range' i d).foldl f s), iv (n : Nat)], h) ∧ inv ((List.range' i d).foldl f s) := by
    intro d
    induction d with
    | zero =>
      intro i m s hi hm hI
      obtain ⟨m, rfl⟩ : ∃ k, m = k + 1 := ⟨m - 1, by omega⟩
      have : i = n := by omega
      subst this
      exact ⟨lpGo_exit (fin s), hI⟩
    | succ d ih =>
      intro i m s hi hm hI
      obtain ⟨m, rfl⟩ : ∃ k, m = k + 1 := ⟨m - 1, by omega⟩
      obtain ⟨I1, e1⟩ := step s i (by omega) hI
      rw [List.range'_succ, List.foldl_cons, lpGo_next e1]
      exact ih (i + 1) m _ (by omega) (by omega) I1
  rw [List.range_eq_range']
  exact key n 0 k s0 (by omega) hk h0
section
variable {g : List Nat} {s t : Nat} {h : H} {tv : Value}
theorem bit0 {a p : Nat} (ha : a < 2 ^ 63) (hp : p ≤ 64) : AM.eq (AM.and .i64 (shr .i64 (a : Int) (p : Int)) 1) 0 = !a.testBit p := by
  rw [bit_nat ha hp]
  cases a.testBit p <;> rfl
theorem bit1 {a p : Nat} (ha : a < 2 ^ 63) (hp : p ≤ 64) : AM.eq (AM.and .i64 (shr .i64 (a : Int) (p : Int)) 1) 1 = a.testBit p := by
  rw [bit_nat ha hp]
  cases a.testBit p <;> rfl
theorem shl_pow {n : Nat} (hn : n ≤ 10) : AM.shl .i64 1 (n : Int) = ((2 ^ n : Nat) : Int) := shl1_nat (by omega)
theorem ltNat {a b : Nat} : AM.lt (a : Int) (b : Int) = decide (a < b) := by
  simp only [AM.lt, decide_eq_decide]; omega
theorem stepC_if {S b : Nat} : stepC g s t S b = if (!S.testBit s) = true then (if (!S.testBit t) = true then (if pop S < pop b then (if (!(rch g (without (allN g) S) s).testBit t) = true then S else b) else b) else b) else b := by
  unfold stepC sepQ
  cases S.testBit s <;> cases S.testBit t <;> cases (rch g (without (allN g) S) s).testBit t <;> simp
/-- The program's least set. -/
theorem s29c (hg : GrN g) (hs0 : SlR h 3 1 tv (cellsN g)) (hs : s < g.length) (ht : t < g.length) :
    lpGo (f29_l1 rn 2000 (s : Nat) (t : Nat) tv (g.length : Nat)) 2000 [iv (allN g : Nat), iv 0] h = some (.exit 0, [iv (cutP g s t : Nat), iv (2 ^ g.length : Nat)], h) := by
  have hlen := hg.len
  have hpow := hg.pow
  have hal := allN_lt g
  refine (lp_sum (σ := Nat) (fun b => iv (b : Nat)) (fun b S => stepC g s t S b) (fun b => b < 2 ^ g.length) (s0 := allN g) hal (by omega) (fun b S hS hb => ⟨?_, ?_⟩) (fun b => ?_)).1
  · unfold stepC
    split
    · exact hS
    · exact hb
  · have hadd : add .i64 (S : Int) 1 = ((S + 1 : Nat) : Int) := add1 (by omega)
    have cS := fun (K : Value → H → Option (Ex × List Value × H)) => calls_eq (K := K) (xs := [iv S]) (s55 (S := S) (by omega) h)
    have cb := fun (K : Value → H → Option (Ex × List Value × H)) => calls_eq (K := K) (xs := [iv b]) (s55 (S := b) (by omega) h)
    have c65 := fun (K : Value → H → Option (Ex × List Value × H)) => calls_eq (K := K) (xs := [tv]) (s43 hg.toGrB hs0)
    have c78 := fun (K : Value → H → Option (Ex × List Value × H)) => calls_eq (K := K) (xs := [tv, iv s, iv (without (allN g) S : Nat)]) (s72 hg.toGrB hs0 hs (without_le _ _ hal))
    have hr := rch_lt g (without (allN g) S) s
    rw [stepC_if]
    unfold f29_l1
    rw [gv21, gv20, asI_int, shl_pow hlen, lt_nat hS, ifB_true, asI_int, nn_ge (by omega), bit0 (by omega) (by omega)]
    cases S.testBit s with
    | true => simp only [Bool.not_true, ifB_false, asI_int, hadd]; rfl
    | false =>
      rw [Bool.not_false, ifB_true, asI_int, nn_ge (by omega), bit0 (by omega) (by omega), if_pos rfl]
      cases S.testBit t with
      | true => simp only [Bool.not_true, ifB_false, asI_int, hadd]; rfl
      | false =>
        rw [Bool.not_false, ifB_true, cS, asI_int, cb, asI_int, ltNat, if_pos rfl]
        by_cases hp : pop S < pop b
        · rw [decide_eq_true hp, ifB_true, c65, asI_int, asI_int, andNot_nat (by omega) (by omega), c78, asI_int, nn_ge (by omega), bit0 (by omega) (by omega), if_pos hp]
          cases (rch g (without (allN g) S) s).testBit t with
          | true => simp only [Bool.not_true, ifB_false, asI_int, hadd]; rfl
          | false => simp only [Bool.not_false, ifB_true, asI_int, hadd]; rfl
        · rw [decide_eq_false hp, ifB_false, asI_int, hadd, if_neg hp]; rfl
  · unfold f29_l1
    rw [gv21, gv20, asI_int, shl_pow hlen, lt_self, ifB_false]
    rfl
end
end Go.AM
end

section
namespace Go.AM
open Go.Proofs
variable {R : Type}
section
variable {g : List Nat} {s t : Nat} {h : H} {tv : Value}
/-- The nodes of a way between s and t. -/
def inW (w : Nat → List Nat) (u : Nat) : List Nat := (u :: w u).dropLast
structure WaysI (g : List Nat) (s t : Nat) (L : List Nat) (w : Nat → List Nat) : Prop where
  ch : ∀ u ∈ L, chainA (adjP g) s (u :: w u) t
  len : ∀ u ∈ L, (w u).length ≤ 10
  nd : (L.flatMap (inW w)).Nodup
  inn : ∀ x ∈ L.flatMap (inW w), x < g.length ∧ x ≠ s ∧ x ≠ t
  ndL : L.Nodup
theorem WaysR.toI {first : Nat} {w : Nat → List Nat} (r : WaysR g s t first w) (hg : GrB g) (hst : s ≠ t) : WaysI g s t (elts first) w := by
  obtain ⟨F, Rr, f, e, hF, hw⟩ := r.ex
  have hlen := hg.len
  have mem_last : ∀ {u x : Nat} {l : List Nat}, chainA F u l t → x ∈ (u :: l).dropLast → x ∈ u :: l ∧ ∃ y, F x y := by
    intro u x l
    induction l generalizing u with
    | nil => intro _ h; simp at h
    | cons z l ih =>
      intro h hx
      rw [List.dropLast_cons_cons] at hx
      rcases List.mem_cons.1 hx with rfl | hx
      · exact ⟨List.mem_cons_self, z, h.1⟩
      · obtain ⟨h1, h2⟩ := ih h.2 hx
        exact ⟨List.mem_cons_of_mem _ h1, h2⟩
  have noS : ∀ {u x : Nat} {l : List Nat}, F s u → chainA F u l t → x ∈ u :: l → x ≠ s := by
    intro u x l hu h hx e
    subst e
    have key : ∀ (l : List Nat) (u : Nat), (∃ p, F p u) → chainA F u l t → x ∈ u :: l → False := by
      intro l
      induction l with
      | nil => intro u ⟨p, hp⟩ _ hx; rw [List.mem_singleton.1 hx] at f; exact f.ns p hp
      | cons z l ih =>
        intro u ⟨p, hp⟩ h hx
        rcases List.mem_cons.1 hx with rfl | hx
        · exact f.ns p hp
        · exact ih z ⟨u, h.1⟩ h.2 hx
    exact key l u ⟨_, hu⟩ h hx
  refine ⟨fun u hu => ⟨f.sub _ _ (hw u hu).first, chain_sub f _ _ _ (hw u hu).chain⟩, fun u hu => Nat.le_trans (hw u hu).len hlen, ?_, fun x hx => ?_, elts_nodup _⟩
  · rw [List.nodup_iff_pairwise_ne, List.pairwise_flatMap]
    constructor
    · intro u hu
      have := f.way_nodup (hw u hu).first (hw u hu).chain
      exact List.nodup_iff_pairwise_ne.1 (this.sublist (List.dropLast_sublist _))
    · have hnd := elts_nodup first
      rw [List.nodup_iff_pairwise_ne] at hnd
      refine hnd.imp_of_mem fun {a b} ha hb hab x hx y hy e => hab ?_
      subst e
      obtain ⟨q1, z, q2⟩ := mem_last (hw a ha).chain hx
      obtain ⟨q3, _⟩ := mem_last (hw b hb).chain hy
      obtain ⟨i, hi⟩ := List.mem_iff_getElem?.1 q1
      obtain ⟨j, hj⟩ := List.mem_iff_getElem?.1 q3
      exact f.ways_apart (hw a ha).first (hw b hb).first (hw a ha).chain (hw b hb).chain i j x hi hj fun e => f.nt z (e ▸ q2)
  · obtain ⟨u, hu, hx⟩ := List.mem_flatMap.1 hx
    obtain ⟨q1, z, q2⟩ := mem_last (hw u hu).chain hx
    exact ⟨(hg.adj_lt (f.sub _ _ q2)).1, noS (hw u hu).first (hw u hu).chain q1, fun e => f.nt z (e ▸ q2)⟩
end
end Go.AM
end

section
namespace Go.AM
open Go.Proofs
variable {R : Type}
section
variable {h : H} {v : Value} {l : List Int} {n0 n1 : Int}
/-- The program's Cut. -/
noncomputable def cutA (g : List Nat) (s t : Nat) : Int × Int := if adj g s t = true then (0, 2) else ((cutP g s t : Nat), 0)
theorem s29 {g : List Nat} {s t : Nat} (hg : GrN g) (hval : validG (g.map Int.ofNat) = true) (hs0 : SlR h 3 1 v (cellsN g)) (hs : s < g.length) (ht : t < g.length) (hst : s ≠ t) : rn 29 #[v, iv s, iv t] h = some (.tuple #[iv (cutA g s t).1, iv (cutA g s t).2], h) := by
  have hlen := hg.len
  have hpow := hg.pow
  have e36 := s36 (v := v) (l := g.map Int.ofNat) (h := h) (by rw [cellsN_eq]; exact hs0)
  rw [if_pos hval] at e36
  have nd : ∀ {z : Nat}, z < g.length → nodeB g (z : Int) = true := fun {z} hz => by unfold nodeB; simp; omega
  have e68s := s68 (z := (s : Int)) hs0
  have e68t := s68 (z := (t : Int)) hs0
  rw [nd hs] at e68s
  rw [nd ht] at e68t
  have hn : ∀ {T : Type} (K : Int → Option T), len v K = K (g.length : Int) := fun K => by rw [hs0.len]; simp
  have c63 := fun (K : Value → H → Option (Value × H)) => calls_eq (K := K) (xs := [v]) e36
  have c79s := fun (K : Value → H → Option (Value × H)) => calls_eq (K := K) (xs := [v, iv s]) e68s
  have c79t := fun (K : Value → H → Option (Value × H)) => calls_eq (K := K) (xs := [v, iv t]) e68t
  have c80 := fun (K : Value → H → Option (Value × H)) => calls_eq (K := K) (xs := [v, iv s, iv t]) (s71 hg.toGrB hs0 hs ht)
  have c65 := fun (K : Value → H → Option (Value × H)) => calls_eq (K := K) (xs := [v]) (s43 hg.toGrB hs0)
  refine p29 (k := 2000) (h1 := h) ?_ rfl (.refl _)
  unfold f29 cutA
  rw [c63, ext20, ext21, asB_bool, Bool.not_true, ifB_false, c79s, asB_bool, Bool.not_true, ifB_false, c79t, asB_bool, Bool.not_true, ifB_false, eqN', decide_eq_false hst, ifB_false, c80, asB_bool]
  cases ha : adj g s t with
  | true => rfl
  | false => rw [ifB_false, c65, asI_int, hn, nn_ge (by omega), lp_eq (s29c hg hs0 hs ht), onE_exit, if_pos rfl, gv20, if_neg (by simp)]
open Classical in
/-- Ways, told. -/
noncomputable def g28 (args : Array Value) (h : H) : Option (Value × H) :=
  match args.toList with
  | [v0, .int .i64 n0, .int .i64 n1] =>
    match f28 rcG 100 v0 n0 n1 h with
    | some (v, h1) => if Ext h h1 then some (v, ⟨h1.blk, h1.nx, h.wr⟩) else none
    | none => none
  | _ => none
theorem g28_of {v0 v : Value} {h1 : H} (e : f28 rcG 100 v0 n0 n1 h = some (v, h1)) (x : Ext h h1) : g28 #[v0, iv n0, iv n1] h = some (v, ⟨h1.blk, h1.nx, h.wr⟩) := by
  unfold g28
  simp only [e, if_pos x]
theorem g28_sure (hmix : Tryd.prog.follows .mixedOrders = true) {args : Array Value} {h h' : H} {v : Value} (e : g28 args h = some (v, h')) : Sure Tryd.prog E0 28 args h v h' := by
  unfold g28 at e
  split at e
  · rename_i v0 n0 n1 ha
    split at e
    · rename_i v1 h1 e1
      split at e
      · rename_i x
        simp only [Option.some.injEq, Prod.mk.injEq] at e
        obtain ⟨rfl, rfl⟩ := e
        have ea : args = #[v0, iv n0, iv n1] := by
          cases args
          simp only at ha
          rw [ha]
        rw [ea]
        rw [← e28] at e1
        obtain ⟨v2, h2, g1, g2⟩ := bodyT_some e1
        cases g2
        have b := body_sound (rcG_sound hmix) (draw_ok hmix (rcG_sound hmix)) g1
        refine ⟨b.1, ⟨x.nx, Nat.le_refl _, fun _ q hq => x.blk q hq, b.2.1.2.2.2⟩, fun ι w args' r ha => (b.2.2 ι w args' r ha).mono ?_⟩
        rintro e2 w' ⟨v', ι', rfl, t, r1, hv⟩
        exact ⟨v', ι', rfl, ⟨t.nx, t.ext, t.os, t.tape, t.output, t.size, t.fr, t.own⟩, ⟨r1.dom, r1.blk, r1.inj, r1.ng, r1.glob, r1.globB, r1.globO⟩, hv⟩
      · cases e
    · cases e
  · cases e
/-- All told. -/
noncomputable def rcH : Rec := over rcG 28 g28
theorem rcH_sound (hmix : Tryd.prog.follows .mixedOrders = true) : SoundR Tryd.prog E0 rcH := over_sound (rcG_sound hmix) fun _ _ _ _ e => g28_sure hmix e
theorem rcH_ne {f : FuncId} (h1 : f ≠ 101) (h2 : f ≠ 70) (h3 : f ≠ 28) {h : H} {xs : List Value} {R : Type} {K : Value → H → Option R} : calls rcH h f xs K = calls rn h f xs K := (calls_over h3).trans (rcG_ne h1 h2)
theorem k28 (hmix : Tryd.prog.follows .mixedOrders = true) {g : List Nat} {s t : Nat} (hg : GrN g) (hval : validG (g.map Int.ofNat) = true) (hs0 : SlR h 3 1 v (cellsN g)) (hs : s < g.length) (ht : t < g.length) (hst : s ≠ t) :
    ∃ ov h' vs first w, (∀ {R : Type} (K : Value → H → Option R), calls rcH h 28 [v, iv s, iv t] K = K (.tuple #[ov, iv 0]) h') ∧ Exw h h' ∧ SlR h' 22 1 ov (cellsV vs) ∧ AllSl vs ∧ LSI h' vs ((elts first).map fun u => (s :: u :: w u).map Int.ofNat) ∧ WaysR g s t first w := by
  obtain ⟨ov, h1, vs, first, w, e, x, q1, q2, q3, q4⟩ := s28 hmix hg hval hs0 hs ht hst
  have x' : Ext h1 ⟨h1.blk, h1.nx, h.wr⟩ := ⟨Nat.le_refl _, fun _ _ => rfl⟩
  exact ⟨ov, ⟨h1.blk, h1.nx, h.wr⟩, vs, first, w, fun K => calls_at (g28_of e x), ⟨x.trans x', rfl⟩, q1.ext x', q2, q3.ext x', q4⟩
end
section
variable {g : List Nat} {s t first : Nat} {w : Nat → List Nat}
end
end Go.AM
end

section
namespace Go.AM.F
open Go.Proofs
/-- Two people of one call. -/
def joinK (c : Kl) (v u : Nat) : Prop := (v = c.a.toNat ∧ u = c.b.toNat) ∨ (v = c.b.toNat ∧ u = c.a.toNat)
theorem joinK.symm {c : Kl} {v u : Nat} (h : joinK c v u) : joinK c u v := by
  rcases h with h | h
  · exact .inr ⟨h.2, h.1⟩
  · exact .inl ⟨h.2, h.1⟩
theorem nb_set (g : List Nat) (i x j : Nat) (hi : i < g.length) : nb (g.set i x) j = if j = i then x else nb g j := by
  unfold nb
  rw [List.getD_eq_getElem?_getD, List.getD_eq_getElem?_getD, List.getElem?_set]
  by_cases h : i = j
  · subst h; simp [hi]
  · simp [h, Ne.symm h]
/-- The graph with a call's edge. -/
def addA (g : List Nat) (c : Kl) : List Nat := g.set c.a.toNat (nb g c.a.toNat ||| 2 ^ c.b.toNat)
def addG (g : List Nat) (c : Kl) : List Nat := (addA g c).set c.b.toNat (nb (addA g c) c.b.toNat ||| 2 ^ c.a.toNat)
theorem addA_len (g : List Nat) (c : Kl) : (addA g c).length = g.length := by simp [addA]
theorem addG_len (g : List Nat) (c : Kl) : (addG g c).length = g.length := by simp [addG, addA]
theorem addG_adj {g : List Nat} {c : Kl} (ha : c.a.toNat < g.length) (hb : c.b.toNat < g.length) (hne : c.a.toNat ≠ c.b.toNat) (v u : Nat) : adj (addG g c) v u = true ↔ adj g v u = true ∨ joinK c v u := by
  unfold adj addG joinK
  rw [nb_set _ _ _ _ (by rw [addA_len]; exact hb)]
  unfold addA
  rw [nb_set _ _ _ _ ha, nb_set _ _ _ _ ha, if_neg (Ne.symm hne)]
  by_cases hvb : v = c.b.toNat
  · rw [if_pos hvb, Nat.testBit_or, Nat.testBit_two_pow, Bool.or_eq_true, decide_eq_true_eq, hvb]
    constructor
    · rintro (h | h)
      · exact .inl h
      · exact .inr (.inr ⟨rfl, h.symm⟩)
    · rintro (h | ⟨h, _⟩ | ⟨_, h⟩)
      · exact .inl h
      · exact absurd h.symm hne
      · exact .inr h.symm
  · rw [if_neg hvb]
    by_cases hva : v = c.a.toNat
    · rw [if_pos hva, Nat.testBit_or, Nat.testBit_two_pow, Bool.or_eq_true, decide_eq_true_eq, hva]
      constructor
      · rintro (h | h)
        · exact .inl h
        · exact .inr (.inl ⟨rfl, h.symm⟩)
      · rintro (h | ⟨_, h⟩ | ⟨h, _⟩)
        · exact .inl h
        · exact .inr h.symm
        · exact absurd h hne
    · rw [if_neg hva]
      constructor
      · exact .inl
      · rintro (h | ⟨h, _⟩ | ⟨h, _⟩)
        · exact h
        · exact absurd h hva
        · exact absurd h hvb
/-- The graph of the log. -/
def gOf (n : Nat) (l : List Kl) : List Nat := l.foldl addG (List.replicate n 0)
theorem fold_len (l : List Kl) : ∀ g : List Nat, (l.foldl addG g).length = g.length := by
  induction l with
  | nil => intro g; rfl
  | cons c l ih => intro g; rw [List.foldl_cons, ih, addG_len]
theorem gOf_len (n : Nat) (l : List Kl) : (gOf n l).length = n := by unfold gOf; rw [fold_len]; simp
theorem okC_nat {n : Int} {c : Kl} (h : okC n c = true) : c.a.toNat < n.toNat ∧ c.b.toNat < n.toNat ∧ c.a.toNat ≠ c.b.toNat := by
  obtain ⟨h1, h2, h3, _⟩ := okC_iff.1 h
  omega
theorem gOf_adj {n : Int} {l : List Kl} (hok : ∀ c ∈ l, okC n c = true) (v u : Nat) : adj (gOf n.toNat l) v u = true ↔ ∃ c ∈ l, joinK c v u := by
  have key : ∀ (l : List Kl) (g : List Nat), g.length = n.toNat → (∀ c ∈ l, okC n c = true) → (adj (l.foldl addG g) v u = true ↔ adj g v u = true ∨ ∃ c ∈ l, joinK c v u) := by
    intro l
    induction l with
    | nil => intro g _ _; simp
    | cons c l ih =>
      intro g hg hok
      obtain ⟨h1, h2, h3⟩ := okC_nat (hok c List.mem_cons_self)
      rw [List.foldl_cons, ih _ (by rw [addG_len, hg]) fun x hx => hok x (List.mem_cons_of_mem _ hx), addG_adj (by omega) (by omega) h3]
      constructor
      · rintro ((h | h) | ⟨x, hx, h⟩)
        · exact .inl h
        · exact .inr ⟨c, List.mem_cons_self, h⟩
        · exact .inr ⟨x, List.mem_cons_of_mem _ hx, h⟩
      · rintro (h | ⟨x, hx, h⟩)
        · exact .inl (.inl h)
        · rcases List.mem_cons.1 hx with rfl | hx
          · exact .inl (.inr h)
          · exact .inr ⟨x, hx, h⟩
  have h0 : adj (List.replicate n.toNat 0) v u = false := by
    unfold adj nb
    rw [List.getD_eq_getElem?_getD, List.getElem?_replicate]
    split <;> simp
  unfold gOf
  rw [key l _ (by simp) hok, h0]
  simp
theorem valid_all {n : Int} {l : List Kl} (hv : validP n l = true) : ∀ c ∈ l, okC n c = true := by
  intro c hc
  obtain ⟨i, hi⟩ := List.mem_iff_getElem?.1 hc
  exact (validP_ok hv).2.2.2 i c hi
theorem gOf_ok {n : Int} {l : List Kl} (hv : validP n l = true) : GrN (gOf n.toNat l) := by
  obtain ⟨hn1, hn7, hl24, _⟩ := validP_ok hv
  have hok := valid_all hv
  have hin : ∀ v u, adj (gOf n.toNat l) v u = true → u < n.toNat := by
    intro v u h
    obtain ⟨c, hc, hj⟩ := (gOf_adj hok v u).1 h
    obtain ⟨h1, h2, h3⟩ := okC_nat (hok c hc)
    rcases hj with ⟨_, e⟩ | ⟨_, e⟩ <;> omega
  refine { len := by rw [gOf_len]; omega, lt := fun x hx => ?_, pos := by rw [gOf_len]; omega, irr := fun a => ?_, sym := fun a b => ?_ }
  · obtain ⟨i, hi⟩ := List.mem_iff_getElem?.1 hx
    have e : nb (gOf n.toNat l) i = x := by unfold nb; rw [List.getD_eq_getElem?_getD, hi]; rfl
    refine Nat.lt_pow_two_of_testBit _ fun j hj => ?_
    rw [gOf_len] at hj
    rw [Bool.eq_false_iff]
    intro hb
    have := hin i j (by unfold adj; rw [e]; exact hb)
    omega
  · rw [Bool.eq_false_iff]
    intro h
    obtain ⟨c, hc, hj⟩ := (gOf_adj hok a a).1 h
    obtain ⟨h1, h2, h3⟩ := okC_nat (hok c hc)
    rcases hj with ⟨e1, e2⟩ | ⟨e1, e2⟩ <;> omega
  · rw [Bool.eq_iff_iff, gOf_adj hok, gOf_adj hok]
    exact ⟨fun ⟨c, hc, h⟩ => ⟨c, hc, h.symm⟩, fun ⟨c, hc, h⟩ => ⟨c, hc, h.symm⟩⟩
/-- A call of p joins p and the other. -/
theorem join_oth {n : Int} {c : Kl} {p : Int} (hc : okC n c = true) (hp : c.has p = true) : joinK c p.toNat (c.oth p).toNat := by
  obtain ⟨h1, h2, h3, _⟩ := okC_iff.1 hc
  simp only [Kl.has, Bool.or_eq_true, beq_iff_eq] at hp
  unfold joinK Kl.oth
  rcases hp with e | e
  · exact .inl (by omega)
  · exact .inr (by omega)
theorem dir_adj {n : Int} {l : List Kl} {s t : Int} (hp : pairP n l s t = true) : adj (gOf n.toNat l) s.toNat t.toNat = dirP l s t := by
  obtain ⟨hv, hs, ht, hst⟩ := pairP_parts hp
  have hok := valid_all hv
  rw [Bool.eq_iff_iff, gOf_adj hok]
  unfold dirP
  rw [List.any_eq_true]
  constructor
  · rintro ⟨c, hc, hj⟩
    obtain ⟨h1, h2, h3, _⟩ := okC_iff.1 (hok c hc)
    refine ⟨c, hc, ?_⟩
    simp only [Kl.has, Bool.and_eq_true, Bool.or_eq_true, beq_iff_eq]
    rcases hj with ⟨e1, e2⟩ | ⟨e1, e2⟩ <;> omega
  · rintro ⟨c, hc, hh⟩
    obtain ⟨h1, h2, h3, _⟩ := okC_iff.1 (hok c hc)
    simp only [Kl.has, Bool.and_eq_true, Bool.or_eq_true, beq_iff_eq] at hh
    refine ⟨c, hc, ?_⟩
    unfold joinK
    omega
/-- Who goes along calls that touch none of X goes in the graph without X. -/
theorem run_rch {n : Int} {l : List Kl} (hv : validP n l = true) {X : Nat} : ∀ (w : List Int) (st st' : Int × Int × Int), runP l w st = some st' → (∀ i ∈ w, ∀ c, l[i.toNat]? = some c → touchX X c = false) →
    Rch (gOf n.toNat l) (without (allN (gOf n.toNat l)) X) st.1.toNat st'.1.toNat := by
  have hok := valid_all hv
  intro w
  induction w with
  | nil => intro st st' h _; cases h; exact .base
  | cons i w ih =>
    intro st st' h hx
    unfold runP at h
    split at h
    · split at h
      · cases h
      · rename_i c hc
        split at h
        · rename_i hg
          have hcl := List.mem_of_getElem? hc
          simp only [goes, Bool.and_eq_true] at hg
          have hh := hg.1.2
          have hj := join_oth (hok c hcl) hh
          have htc := hx i List.mem_cons_self c hc
          have hoth := oth_ok (hok c hcl) hh
          have r1 : Rch (gOf n.toNat l) (without (allN (gOf n.toNat l)) X) st.1.toNat (c.oth st.1).toNat := by
            refine Rch.one ((gOf_adj hok _ _).2 ⟨c, hcl, hj⟩) ?_
            rw [testBit_without, allN_bit, gOf_len, decide_eq_true (by omega), Bool.true_and]
            unfold touchX at htc
            rw [Bool.or_eq_false_iff] at htc
            rcases hj with ⟨_, e⟩ | ⟨_, e⟩
            · rw [e, htc.2]; rfl
            · rw [e, htc.1]; rfl
          exact r1.trans (ih _ _ h fun j hj => hx j (List.mem_cons_of_mem _ hj))
        · cases h
    · cases h
theorem way_rch {n s t : Int} {l : List Kl} (hp : pairP n l s t = true) {X : Nat} {w : List Int} (hw : w ∈ allWays l s t) (hx : ∀ i ∈ w, ∀ c, l[i.toNat]? = some c → touchX X c = false) :
    Rch (gOf n.toNat l) (without (allN (gOf n.toNat l)) X) s.toNat t.toNat := by
  obtain ⟨hv, hs, ht, hst⟩ := pairP_parts hp
  obtain ⟨st', hr, rfl⟩ := (check_run hv hs w).1 ((mem_all hv hst w).1 hw)
  exact run_rch hv w _ _ hr hx
/-- What parts the graph is met by each way in time. -/
theorem sep_meets {n s t : Int} {l : List Kl} (hp : pairP n l s t = true) {X : Nat} (hX : X < 2 ^ (gOf n.toNat l).length) (hS : Sep (gOf n.toNat l) s.toNat t.toNat X) {w : List Int} (hw : w ∈ allWays l s t) : betM l s t w &&& X ≠ 0 := by
  obtain ⟨hv, hs, ht, hst⟩ := pairP_parts hp
  obtain ⟨hn1, hn7, _⟩ := validP_ok hv
  rw [gOf_len] at hX
  have hX7 : X < 2 ^ 7 := Nat.lt_of_lt_of_le hX (Nat.pow_le_pow_right (by decide) (by omega))
  rw [touch_or hp hX7 hS.ms hS.mt hw]
  refine Classical.byContradiction fun hn => hS.part (way_rch hp hw fun i hi c hc => ?_)
  rw [Bool.eq_false_iff]
  exact fun htt => hn ⟨i, hi, c, hc, htt⟩
/-- Sets that each meet C and have nothing in common are at most as_ many as_ C's people. -/
theorem hold_le {ks : List Nat} {C : Nat} (hC : C < 1024) (hk : ∀ x ∈ ks, x &&& C ≠ 0) : ∀ m A, hold ks m A → m ≤ pop (A &&& C) := by
  intro m
  induction m with
  | zero => intro A _; exact Nat.zero_le _
  | succ m ih =>
    rintro A ⟨x, hx, hxA, hh⟩
    have h1 := ih _ hh
    obtain ⟨j, hj⟩ : ∃ j, (x &&& C).testBit j = true := by
      refine Classical.byContradiction fun hn => hk x hx ?_
      refine Nat.eq_of_testBit_eq fun i => ?_
      rw [Nat.zero_testBit, Bool.eq_false_iff]
      exact fun h => hn ⟨i, h⟩
    rw [Nat.testBit_and, Bool.and_eq_true] at hj
    have hAj := AM.F.without_zero.1 hxA j hj.1
    have : pop (without A x &&& C) < pop (A &&& C) := by
      refine AM.pop_lt (i := j) (Nat.lt_of_le_of_lt Nat.and_le_right hC) (fun k hk => ?_) (by rw [Nat.testBit_and, hAj, hj.2]; rfl) (by rw [Nat.testBit_and, testBit_without, hj.1]; simp)
      rw [Nat.testBit_and, testBit_without] at hk
      rw [Nat.testBit_and]
      simp only [Bool.and_eq_true] at hk ⊢
      exact ⟨hk.1.1, hk.2⟩
    omega
theorem wide_fst {l : List Kl} {s t : Int} (h1 : ∀ w ∈ allWays l s t, w.length ≠ 1) : (wideF l s t).1 = 0 := by
  have : ∀ (ws : List (List Int)) (σ : Int × List Nat), (∀ w ∈ ws, w.length ≠ 1) → (ws.foldl (wideS l s t) σ).1 = σ.1 := by
    intro ws
    induction ws with
    | nil => intro σ _; rfl
    | cons w ws ih =>
      intro σ h
      rw [List.foldl_cons, ih _ fun x hx => h x (List.mem_cons_of_mem _ hx)]
      unfold wideS
      rw [if_neg (h w List.mem_cons_self)]
  exact this _ _ h1
/-- No more wide ways in time than people who part the two. -/
theorem wide_le {n s t : Int} {l : List Kl} (hp : pairP n l s t = true) (hd : dirP l s t = false) {C : Nat} (hC : C < 2 ^ (gOf n.toNat l).length) (hS : Sep (gOf n.toNat l) s.toNat t.toNat C) : wideP n l s t ≤ (pop C : Nat) ∧ 0 ≤ wideP n l s t := by
  obtain ⟨hv, hs, ht, hst⟩ := pairP_parts hp
  obtain ⟨hn1, hn7, _⟩ := validP_ok hv
  have hg := gOf_ok hv
  have hC10 : C < 1024 := Nat.lt_of_lt_of_le hC hg.pow
  have hdir := no_dir hp hd
  have hks : ∀ x ∈ (wideF l s t).2, 0 < x ∧ without x (fullN n - 1) = 0 := by
    intro x hx
    obtain ⟨w, hw, h1, rfl⟩ := wideF_mem x hx
    exact ⟨way_pos hp w hw h1, sub_full (betM_ltn hv w)⟩
  have hN : 0 < fullN n := Nat.two_pow_pos _
  have hN7 : fullN n ≤ 2 ^ 7 := Nat.pow_le_pow_right (by decide) (by omega)
  have e := tab_pack hN hks
  have hh := pack_hold (F := fullN n - 1) (wideF l s t).2 (fun x hx => (hks x hx).2) 0
  have hle := hold_le hC10 (fun x hx => by
    obtain ⟨w, hw, _, rfl⟩ := wideF_mem x hx
    exact sep_meets hp hC hS hw) _ _ hh
  have hpc : pop (without (fullN n - 1) 0 &&& C) ≤ pop C := pop_le_of fun j hj => by
    rw [Nat.testBit_and, Bool.and_eq_true] at hj; exact hj.2
  have hp10 : pop C ≤ 10 := AM.pop_le_n (n := 10) (Nat.le_refl _) hC10
  have hw : wideP n l s t = (packF (wideF l s t).2 0 : Nat) := by
    unfold wideP
    rw [wide_fst hdir, e, add64 (by omega) (by omega)]
    omega
  rw [hw]
  omega
theorem cnt_full {X n m : Nat} (hX : X < 2 ^ n) (hnm : n ≤ m) : (List.range m).countP (fun i => X.testBit i) = (List.range n).countP (fun i => X.testBit i) := by
  rw [show m = n + (m - n) by omega, List.range_add, List.countP_append]
  have : ((List.range (m - n)).map (n + ·)).countP (fun i => X.testBit i) = 0 := by
    rw [List.countP_eq_zero]
    intro x hx hb
    obtain ⟨y, _, rfl⟩ := List.mem_map.1 hx
    have := bit_lt hX hb
    omega
  omega
theorem fold_best {l : List Kl} {s t : Int} : ∀ (L : List Nat) (b : Nat), cntB (L.foldl (stB l s t) b) ≤ cntB b ∧ ((L.foldl (stB l s t) b) = b ∨ L.foldl (stB l s t) b ∈ L) ∧ ∀ X ∈ L, qB l s t X = true → cntB (L.foldl (stB l s t) b) ≤ cntB X := by
  intro L
  induction L with
  | nil => intro b; exact ⟨Nat.le_refl _, .inl rfl, fun _ h => by cases h⟩
  | cons X L ih =>
    intro b
    obtain ⟨h1, h2, h3⟩ := ih (stB l s t b X)
    rw [List.foldl_cons]
    have hs : cntB (stB l s t b X) ≤ cntB b ∧ (stB l s t b X = b ∨ stB l s t b X = X) ∧ (qB l s t X = true → cntB (stB l s t b X) ≤ cntB X) := by
      unfold stB
      split
      · rename_i h; exact ⟨Nat.le_of_lt h.2, .inr rfl, fun _ => Nat.le_refl _⟩
      · rename_i h
        refine ⟨Nat.le_refl _, .inl rfl, fun hq => ?_⟩
        exact Nat.le_of_not_lt fun hlt => h ⟨hq, hlt⟩
    refine ⟨by omega, ?_, fun Y hY hq => ?_⟩
    · rcases h2 with h | h
      · rcases hs.2.1 with e | e
        · exact .inl (h.trans e)
        · exact .inr (by rw [h, e]; exact List.mem_cons_self)
      · exact .inr (List.mem_cons_of_mem _ h)
    · rcases List.mem_cons.1 hY with rfl | hY
      · have := hs.2.2 hq; omega
      · exact h3 Y hY hq
/-- Block takes no more people than any set that parts the graph. -/
theorem blk_le {n s t : Int} {l : List Kl} (hp : pairP n l s t = true) {C : Nat} (hC : C < 2 ^ (gOf n.toNat l).length) (hS : Sep (gOf n.toNat l) s.toNat t.toNat C) :
    blkP n l s t < 2 ^ n.toNat ∧ (List.range n.toNat).countP (fun i => (blkP n l s t).testBit i) ≤ (List.range n.toNat).countP (fun i => C.testBit i) := by
  obtain ⟨hv, hs, ht, hst⟩ := pairP_parts hp
  obtain ⟨hn1, hn7, _⟩ := validP_ok hv
  have hC' := hC
  rw [gOf_len] at hC'
  obtain ⟨h1, h2, h3⟩ := fold_best (l := l) (s := s) (t := t) (List.range (fullN n)) (fullN n - 1)
  have hN : 0 < fullN n := Nat.two_pow_pos _
  have hlt : blkP n l s t < 2 ^ n.toNat := by
    unfold blkP
    rcases h2 with h | h
    · rw [h]; show fullN n - 1 < fullN n; omega
    · exact List.mem_range.1 h
  refine ⟨hlt, ?_⟩
  have hq : qB l s t C = true := by
    unfold qB blkS
    rw [hS.ms, hS.mt]
    simp only [Bool.not_false, Bool.true_and, List.all_eq_true]
    intro x hx
    obtain ⟨w, hw, _, rfl⟩ := wideF_mem x hx
    simpa using sep_meets hp hC hS hw
  have := h3 C (List.mem_range.2 hC') hq
  rw [← cnt_full hlt (show n.toNat ≤ 7 by omega), ← cnt_full hC' (show n.toNat ≤ 7 by omega)]
  exact this
/-- Who hears of somebody is connected with them. -/
theorem hear_rch {n s t : Int} {l : List Kl} (hp : pairP n l s t = true) (h : 0 ≤ atP (arriveP n.toNat l s) t) : Rch (gOf n.toNat l) (allN (gOf n.toNat l)) s.toNat t.toNat := by
  obtain ⟨hv, hs, ht, hst⟩ := pairP_parts hp
  obtain ⟨w, hw⟩ := (arr_way hv hs ht hst).1 (by omega)
  have := way_rch (X := 0) hp hw fun i _ c _ => by simp [touchX]
  rwa [AM.without_zero] at this
/-- As many ways in the graph as_ needed. -/
theorem ways_pos {g : List Nat} {s t first : Nat} {w : Nat → List Nat} (r : WaysR g s t first w) (hg : GrB g) (hs : s < g.length) (ht : t < g.length) (hst : s ≠ t) (h : Rch g (allN g) s t) : 0 < (elts first).length := by
  obtain ⟨F, Rr, f, e, hF, hw⟩ := r.ex
  obtain ⟨m0, m1⟩ := flow_min hg e f hs ht hst
  have hc : cntN g.length (F s) = pop first := by
    rw [← cnt_pop hg r.fb]
    exact cnt_congr fun u _ => hF u
  rw [elts_len, ← hc]
  cases ha : adj g s t with
  | true => obtain ⟨k, e, _⟩ := m1 ha; omega
  | false =>
    have m := m0 ha
    refine Nat.pos_of_ne_zero fun h0 => ?_
    rw [h0] at m
    exact m.zero hg h
theorem ways_cut {g : List Nat} {s t first : Nat} {w : Nat → List Nat} (r : WaysR g s t first w) (hg : GrB g) (hs : s < g.length) (ht : t < g.length) (hst : s ≠ t) (ha : adj g s t = false) : ∃ C, C < 2 ^ g.length ∧ Sep g s t C ∧ pop C = (elts first).length := by
  obtain ⟨F, Rr, f, e, hF, hw⟩ := r.ex
  obtain ⟨m0, _⟩ := flow_min hg e f hs ht hst
  have hc : cntN g.length (F s) = pop first := by
    rw [← cnt_pop hg r.fb]
    exact cnt_congr fun u _ => hF u
  rw [elts_len, ← hc]
  exact (m0 ha).1
end Go.AM.F
end

section
namespace Go.AM
open Go.Proofs
noncomputable def loneOk (f : FuncId) : Bool := match call Tryd.prog E0 60 f #[] ⟨fun _ => none, 0, 0⟩ with
  | some (.bool b, _) => b
  | _ => false
theorem lone_run {f : FuncId} (hf : E0.iso f = true) (ht : loneOk f = true) (h : H) : rn f #[] h = some (.bool true, h) := by
  unfold loneOk at ht
  split at ht
  · rename_i b h' hc
    subst ht
    exact run_iso (n := 59) (by rw [hf]; rfl) (iso_any (by rw [hf]; rfl) hc)
  · cases ht
end Go.AM
end

section
namespace Go.AM
open Go.Proofs
theorem tells_run : loneOk 24 = true := by decide +kernel
theorem s24 (h : H) : rn 24 #[] h = some (.bool true, h) := lone_run rfl tells_run h
end Go.AM
namespace Go.AM.F
open Go.Proofs
/-- Valid, Arrive, Wide and Block told, and the ears' functions. -/
noncomputable def rcL : Rec := over (over (over (over rcH 23 (smR rn 23)) 27 (smR rn 27)) 25 g53) 26 g54
theorem rcL_sound (hmix : Tryd.prog.follows .mixedOrders = true) : SoundR Tryd.prog E0 rcL :=
  over_sound (over_sound (over_sound (over_sound (rcH_sound hmix) fun _ _ _ _ e => smR_sure (run_sound hmix) e) fun _ _ _ _ e => smR_sure (run_sound hmix) e) fun _ _ _ _ e => g53_sure hmix e) fun _ _ _ _ e => g54_sure hmix e
variable {R : Type} {n s t : Int} {sl : Value} {l : List Kl} {h : H}
theorem rcL_ne {f : FuncId} (h1 : f ≠ 23) (h2 : f ≠ 27) (h3 : f ≠ 25) (h4 : f ≠ 26) {xs : List Value} {K : Value → H → Option R} : calls rcL h f xs K = calls rcH h f xs K :=
  (calls_over h4).trans ((calls_over h3).trans ((calls_over h2).trans (calls_over h1)))
theorem L23 (hs : SlR h 52 3 sl (l.map Kl.cells)) (K : Value → H → Option R) : calls rcL h 23 [.agg #[iv n, sl]] K = K (.bool (validP n l)) h :=
  (calls_over (by decide)).trans ((calls_over (by decide)).trans ((calls_over (by decide)).trans (calls_at (smR_of (s23 hs) (.refl _)))))
theorem L25 (hs : SlR h 53 3 sl (l.map Kl.cells)) (K : Value → H → Option R) : calls rcL h 25 [.agg #[iv n, sl], iv s, iv t] K = K (.tuple #[iv (widA n l s t).1, iv (widA n l s t).2]) h := by
  have : ∃ h', f25H RG53 rn 1000 (.agg #[iv n, sl]) s t h = some (.tuple #[iv (widA n l s t).1, iv (widA n l s t).2], h') ∧ Ext h h' := by
    unfold widA
    cases hp : pairP n l s t with
    | false => exact s25_bad hs hp
    | true => exact s25H hs hp (way_pos hp)
  obtain ⟨h', e, x⟩ := this
  exact (calls_over (by decide)).trans (calls_at (g53_of e rfl x))
theorem L26 (hs : SlR h 53 3 sl (l.map Kl.cells)) (K : Value → H → Option R) : calls rcL h 26 [.agg #[iv n, sl], iv s, iv t] K = K (.tuple #[iv (blkA n l s t).1, iv (blkA n l s t).2]) h := by
  obtain ⟨h', e, x⟩ := s26w (n := n) (s := s) (t := t) hs
  exact calls_at (g54_of e rfl x)
theorem touch0 (l : List Kl) : (l.filter fun c => !touchX 0 c) = l := by
  rw [List.filter_eq_self]
  intro c _
  simp [touchX]
theorem s27 (hs : SlR h 53 3 sl (l.map Kl.cells)) (hv : validP n l = true) (hp : 0 ≤ s ∧ s < n) :
    ∃ v h' b, rn 27 #[.agg #[iv n, sl], iv s] h = some (.tuple #[v, iv 0], h') ∧ Ext h h' ∧ h.nx ≤ b ∧ IA h' b v (arriveP n.toNat l s) := by
  have x1 : Ext h (h.new (.row [iv n, sl] 50 true)) := .new _ _
  have b1 : (h.new (.row [iv n, sl] 50 true)).blk h.nx = some (.row [iv n, sl] 50 true) := blk_new_self _ _
  obtain ⟨v, h', b, e, x, hlo, ia⟩ := s65X (X := 0) (by decide) (hs.ext x1) hv hp
  rw [touch0] at ia
  have c66 := fun (K : Value → H → Option (Value × H)) => calls_eq (K := K) (xs := [_]) (s66 (n := n) (hs.ext x1))
  have c65 := fun (K : Value → H → Option (Value × H)) => calls_eq (K := K) (xs := [_, _, _]) e
  refine ⟨v, h', b, x27 (k := 0) ?_ ia.slR.notR2, x1.trans x, Nat.le_trans x1.nx hlo, ia⟩
  unfold f27
  rw [bx_eq, nx_eq]
  show ld Tryd.prog (h.new (.row [iv n, sl] 50 true)) 50 h.nx 0 _ = _
  rw [d50, rd_all (n := 2) b1 rfl, Option.bind_some]
  refine (c66 _).trans ?_
  rw [hv, asB_bool, Bool.not_true, ifB_false, d50, rd_all (n := 2) b1 rfl, Option.bind_some]
  refine (k67 n s sl _ _).trans ?_
  rw [asB_bool, decide_eq_true hp, Bool.not_true, ifB_false, d50, rd_all (n := 2) b1 rfl, Option.bind_some]
  exact c65 _
theorem L27 (hs : SlR h 53 3 sl (l.map Kl.cells)) (hv : validP n l = true) (hp : 0 ≤ s ∧ s < n) :
    ∃ v h' b, (∀ {R : Type} (K : Value → H → Option R), calls rcL h 27 [.agg #[iv n, sl], iv s] K = K (.tuple #[v, iv 0]) h') ∧ Ext h h' ∧ IA h' b v (arriveP n.toNat l s) := by
  obtain ⟨v, h', b, e, x, _, ia⟩ := s27 hs hv hp
  have x2 : Ext h' ⟨h'.blk, h'.nx, h.wr⟩ := ⟨Nat.le_refl _, fun _ _ => rfl⟩
  exact ⟨v, ⟨h'.blk, h'.nx, h.wr⟩, b, fun K => (calls_over (by decide)).trans ((calls_over (by decide)).trans (calls_at (smR_of e x))), x.trans x2, ia.ext x2⟩
end Go.AM.F
end

section
namespace Go.AM
open Go.Proofs
variable {k : Nat} {R : Type}
attribute [local simp] nx_eq nx_new nx_set blk_new blk_set asI_int asK_int asB_bool asP_ptr al_eq bx_eq len_slice onE_exit onE_ret onR_ret Value.cells d3 d22 cell_new cell_set rd_new rd_set off eq lt le ifB gv out
/-- A graph is valid. -/
theorem valid_of2 {g : List Nat} (hg : GrN g) : validG (g.map Int.ofNat) = true := by
  have hlen := hg.len
  have hpos := hg.pos
  have hpow := hg.pow
  rw [validG_iff (by simpa using ⟨hpos, hlen⟩)]
  intro i x hx
  have hi : i < g.length := by have := (List.getElem?_eq_some_iff.1 hx).1; simpa using this
  obtain rfl := nb_eq hx
  have hlt := hg.nb_lt i
  unfold rowOk
  simp only [Bool.and_eq_true, Bool.not_eq_true', decide_eq_false_iff_not, List.all_eq_true, List.mem_range, decide_eq_true_iff, List.length_map]
  refine ⟨⟨⟨by omega, ?_⟩, ?_⟩, fun j hj => ?_⟩
  · rw [shl1_nat (by omega)]; omega
  · rw [bitI_nat (by omega) (by omega)]
    have : (nb g i).testBit i = false := hg.irr i
    rw [this]; simp
  · have h1 : (List.map Int.ofNat g).getD j 0 = ((nb g j : Nat) : Int) := by
      rw [List.getD_eq_getElem?_getD, nb_get hj]; rfl
    have hlt' := hg.nb_lt j
    rw [h1, bitI_nat (by omega) (by omega), bitI_nat (by omega) (by omega)]
    have : (nb g i).testBit j = (nb g j).testBit i := hg.sym i j
    rw [this]
theorem s11 {v : Value} {l : List Int} {h : H} (hs : SlR h 3 1 v (cellsI l)) : ∃ v' h', rn 11 #[v] h = some (v', h') ∧ Exw h h' ∧ SlR h' 3 1 v' (cellsI (l.take 13)) := by
  have e1 : imin ((cellsI l).length : Int) 13 = ((min l.length 13 : Nat) : Int) := by
    rw [List.length_map]
    unfold imin
    split <;> omega
  obtain ⟨v1, s1, e2⟩ := hs.take (i := ((min l.length 13 : Nat) : Int)) under23 sz3 (by omega) (by rw [List.length_map]; omega)
  have e3 : (cellsI l).take ((min l.length 13 : Nat) : Int).toNat = cellsI (l.take 13) := by
    rw [Int.toNat_natCast, ← List.map_take]
    congr 1
    rcases Nat.le_total l.length 13 with h1 | h1
    · rw [Nat.min_eq_left h1, List.take_of_length_le (Nat.le_refl _), List.take_of_length_le h1]
    · rw [Nat.min_eq_right h1]
  rw [e3] at s1
  obtain ⟨v', h', e4, x, s, a, n, c, rfl⟩ := s38 s1 (by rw [List.length_map, List.length_take]; omega)
  obtain ⟨h2, e5, m2, w2⟩ := x11 (k := 0) (h := h) (v0 := v) (h1 := h') (v := .slice a n c) (by
    unfold f11
    rw [hs.len, e1, e2, calls_eq e4]) rfl
  exact ⟨_, h2, e5, w2 x.toExt, s.ext m2.ext⟩
end Go.AM
end

section
namespace Go.AM.F
open Go.Proofs
theorem f6_l3_eq : f6_l3 = f6_l2 := by kernel_rfl
/-- What comes behind the first checks. -/
noncomputable def tail6 (rec : Rec) (k : Nat) (p : Nat) (v14 v44 : Value) (n0 n1 n19 n21 n22 n25 n26 : Int) (h27 : H) : Option (Value × H) :=
  six v14 n0 1 fun b12 b13 =>
  ld Tryd.prog h27 3 b12 b13 fun v52 =>
  asI .i64 v52 fun n31 =>
  nn n1 (
    ifB (AM.eq (AM.and .i64 (AM.shr .i64 n31 n1) 1) 1) (
      ifB (AM.eq n22 4) (
        ifB (AM.eq n26 2) (
          calls rec h27 24 [] fun v53 h28 =>
          asB v53 fun q7 =>
          some ((.bool q7), h28)) (
          some ((.bool false), h27))) (
        some ((.bool false), h27))) (
      ld Tryd.prog h27 3 p 0 fun v54 =>
      asI .i64 v54 fun n32 =>
      lp k (f6_l2 rec k n21 n25 n32) [(.int .i64 0), (.int .i64 0)] h27 fun e1 ws3 h30 =>
      onE e1 2 (
        ifB (AM.eq n22 0) (
          ifB (AM.eq n26 0) (
            len v44 fun n38 =>
            ifB (AM.le n19 n38) (
              asI .i64 (AM.gv ws3 0) fun n39 =>
              ifB (AM.le n39 0) (
                calls rec h30 24 [] fun v55 h31 =>
                asB v55 fun q8 =>
                some ((.bool q8), h31)) (
                some ((.bool false), h30))) (
              some ((.bool false), h30))) (
            some ((.bool false), h30))) (
          some ((.bool false), h30))) (
        none)))
def cntR (n X : Nat) : Nat := (List.range n).countP fun i => X.testBit i
theorem cntR_le (n X : Nat) : cntR n X ≤ n := Nat.le_trans List.countP_le_length (by simp)
theorem cntR_succ (n X : Nat) : cntR (n + 1) X = cntR n X + if X.testBit n then 1 else 0 := by
  unfold cntR
  rw [List.range_succ, List.countP_append]
  simp [List.countP_singleton]
theorem s6_l2 {rec : Rec} {b c n : Nat} (hb : b < 1024) (hc : c < 1024) (hn : n ≤ 7) {h : H} :
    lpGo (f6_l2 rec 100 b c n) 100 [iv 0, iv 0] h = some (.exit 2, [iv ((cntR n b : Int) - cntR n c), iv n], h) := by
  obtain ⟨e, ws', h', el, rfl, rfl, rfl⟩ := lp_range (F := f6_l2 rec 100 b c n) (k := 100) (n := n)
    (ws := [iv 0, iv 0]) (h := h)
    (fun i ws h' => h' = h ∧ ws = [iv ((cntR i b : Int) - cntR i c), iv i]) (fun e ws h' => e = .exit 2 ∧ h' = h ∧ ws = [iv ((cntR n b : Int) - cntR n c), iv n])
    (by
      rintro i ws h' hi ⟨rfl, rfl⟩
      have l1 := cntR_le i b
      have l2 := cntR_le i c
      have hstep : AM.sub .i64 (AM.add .i64 ((cntR i b : Int) - cntR i c) (AM.and .i64 (AM.shr .i64 (b : Int) (i : Int)) 1)) (AM.and .i64 (AM.shr .i64 (c : Int) (i : Int)) 1) = (cntR (i + 1) b : Int) - cntR (i + 1) c := by
        rw [bit_nat (by omega) (by omega), bit_nat (by omega) (by omega), cntR_succ, cntR_succ]
        cases b.testBit i <;> cases c.testBit i <;> simp only [if_true, Bool.false_eq_true, if_false] <;> rw [add64 (by omega) (by omega), sub64 (by omega) (by omega)] <;> omega
      refine ⟨.normal, [iv ((cntR (i + 1) b : Int) - cntR (i + 1) c), iv ((i + 1 : Nat) : Int)], h', ?_, .inl ⟨rfl, rfl, rfl⟩⟩
      unfold f6_l2
      simp only [gv21, gv20, asI_int, asK_int]
      rw [lt_nat hi, ifB_true, nn_ge (by omega), nn_ge (by omega), hstep, add1 (by omega)]
      rfl)
    (by
      rintro ws h' ⟨rfl, rfl⟩
      refine ⟨.exit 2, [iv ((cntR n b : Int) - cntR n c), iv n], h', ?_, by simp, rfl, rfl, rfl⟩
      unfold f6_l2
      rw [gv21, gv20, asI_int, lt_self, ifB_false]
      rfl)
    (by omega) ⟨rfl, by simp [cntR]⟩
  exact el
/-- One more edge's end. -/
theorem orStep {g : H} {gb : Nat} {v : Value} {G : List Nat} (ia : IA g gb v (G.map Int.ofNat)) {A B : Nat} (hA : A < G.length) (hB : B < 60) (hlt : nb G A < 2 ^ 62) :
    (∀ {R : Type} (K : Value → Option R), (six v (A : Int) 1 fun b o => ld Tryd.prog g 3 b o K) = K (iv (nb G A : Nat))) ∧
    ∃ g', (∀ {R : Type} (K : H → Option R), (six v (A : Int) 1 fun b o => st Tryd.prog g 3 b o (.int .i64 (AM.or .i64 ((nb G A : Nat) : Int) (AM.shl .i64 1 (B : Int)))) K) = K g') ∧ IA g' gb v ((G.set A (nb G A ||| 2 ^ B)).map Int.ofNat) ∧ g'.nx = g.nx ∧ ∀ q, q ≠ gb → g'.blk q = g.blk q := by
  constructor
  · intro R K
    simp only [d3]
    exact ia.get (by omega) (by rw [Int.toNat_natCast]; exact nb_get hA) K
  · have hB2 : 2 ^ B < 2 ^ 63 := Nat.pow_lt_pow_right (by omega) (by omega)
    have hmap : (G.set A (nb G A ||| 2 ^ B)).map Int.ofNat = (G.map Int.ofNat).set A ((nb G A ||| 2 ^ B : Nat) : Int) := by rw [List.map_set]; rfl
    refine ⟨g.set gb (.row (((G.map Int.ofNat).set A ((nb G A ||| 2 ^ B : Nat) : Int)).map iv) 3 true), fun K => ?_, ?_, rfl, fun q hq => blk_set_ne _ _ _ hq⟩
    · rw [shl1_nat (by omega), or_nat (by omega) hB2, ia.put (by omega) (by rw [Int.toNat_natCast, List.length_map]; exact hA), w3, Int.toNat_natCast, ia.wrc (by rw [List.length_map]; exact hA)]
      rfl
    · rw [hmap]
      exact ia.set _ _
/-- One more call in the log. -/
theorem push6 {lo b : Nat} {n : Int} {g : H} {sv : Value} {acc : List Kl} (c : Kl) (hap : AqR lo g 53 3 sv (acc.map Kl.cells)) (hb : g.blk b = some (.row [iv n, sv] 50 true)) (hlo : lo ≤ g.nx) (hbl : b < lo) (hm : acc.length < 100) :
    ∃ g' sv', (∀ {R : Type} (K : H → Option R), (bls Tryd.prog g 48 1 [(0, .agg #[.int .i64 c.a, .int .i64 c.b, .int .i64 c.t])] fun v13 h9 => app Tryd.prog h9 48 48 sv v13 fun v14 h10 => st Tryd.prog h10 48 b (off 0 1) v14 K) = K g') ∧ g.nx ≤ g'.nx ∧ (∀ q, q < g.nx → q ≠ b → AM.blkOf sv ≠ some q → g'.blk q = g.blk q) ∧
      g'.blk b = some (.row [iv n, sv'] 50 true) ∧ AqR lo g' 53 3 sv' ((acc ++ [c]).map Kl.cells) := by
  obtain ⟨v', h9, e9, a9, n9, k9, _⟩ := hap.push app48 app48 (bls48 c) rfl rfl (by rw [List.length_map]; omega) hlo
  have nosv : AM.blkOf sv ≠ some b := fun e => by have := (hap.blkOf e).1; omega
  have g2' := (k9 b (by omega) nosv).trans hb
  have hst : wrc 1 h9 b 1 v' = some (h9.set b (.row [iv n, v'] 50 true)) := by rw [wrc_one g2' a9.cells.1 a9.cells.2 (by simp)]; rfl
  refine ⟨h9.set b (.row [iv n, v'] 50 true), v', fun K => ?_, by rw [nx_set]; exact n9, fun q hq hne hsq => by rw [blk_set_ne _ _ _ hne]; exact k9 q hq hsq, blk_set_self _ _ _, ?_⟩
  · refine (e9 _).trans ?_
    rw [w48, show off 0 1 = 1 from rfl, hst]
    rfl
  · rw [List.map_append]
    exact a9.keep (Nat.le_refl _) fun q hq => blk_set_ne _ _ _ (by have := (a9.blkOf hq).1; omega)
theorem fold_two : ∀ (l : List Kl) (z : List Kl × List Nat), l.foldl (fun z x => (z.1 ++ [x], addG z.2 x)) z = (z.1 ++ l, l.foldl addG z.2) := by
  intro l
  induction l with
  | nil => intro z; simp
  | cons c l ih => intro z; rw [List.foldl_cons, ih]; simp
theorem s6_l1 {rec : Rec} {h2 g0 : H} {n : Int} {v14 sl : Value} {gb : Nat} {l : List Kl} (hv : validP n l = true) (hs : SlR g0 52 3 sl (l.map Kl.cells)) (hsb : ∀ b, blkOf sl = some b → b ≠ h2.nx ∧ b ≠ gb) (hx : g0.blk h2.nx = some (.row [iv n, .slice none 0 0] 50 true))
    (hg : IA g0 gb v14 ((List.replicate n.toNat 0).map Int.ofNat)) (hl : h2.nx < g0.nx) (hne : gb ≠ h2.nx) :
    ∃ ws g sv, lpGo (f6_l1 rec 100 h2 v14 sl l.length) 100 [iv 0] g0 = some (.exit 0, ws, g) ∧ g0.nx ≤ g.nx ∧ (∀ q, q < g0.nx → q ≠ h2.nx → q ≠ gb → g.blk q = g0.blk q) ∧ g.blk h2.nx = some (.row [iv n, sv] 50 true) ∧ SlR g 53 3 sv (l.map Kl.cells) ∧ IA g gb v14 ((gOf n.toNat l).map Int.ofNat) := by
  obtain ⟨hn1, hn7, hl24, hok⟩ := validP_ok hv
  have hgb := hg.lt
  obtain ⟨ws', g', q1, q2, q3, ⟨sv, q4, q5⟩, q6, _⟩ := lp_for (k := 100) (l := l) (F := f6_l1 rec 100 h2 v14 sl l.length) (fun _ x (z : List Kl × List Nat) => (z.1 ++ [x], addG z.2 x))
    (fun i z ws g => g0.nx ≤ g.nx ∧ (∀ q, q < g0.nx → q ≠ h2.nx → q ≠ gb → g.blk q = g0.blk q) ∧ (∃ sv, g.blk h2.nx = some (.row [iv n, sv] 50 true) ∧ AqR g0.nx g 53 3 sv (z.1.map Kl.cells)) ∧ IA g gb v14 (z.2.map Int.ofNat) ∧ z.2.length = n.toNat ∧ (∀ v, nb z.2 v < 2 ^ 7) ∧ z.1.length = i ∧ ws = [iv i]) 0 (ws := [iv 0]) (h := g0) (s0 := ([], List.replicate n.toNat 0))
    ⟨Nat.le_refl _, fun _ _ _ _ => rfl, ⟨_, hx, .nil⟩, hg, by simp, fun v => by unfold nb; rw [List.getD_eq_getElem?_getD, List.getElem?_replicate]; split <;> simp, rfl, rfl⟩ (by omega)
    (by
      rintro z ws g ⟨_, _, _, _, _, _, _, rfl⟩
      unfold f6_l1
      simp only [gv, List.getD_cons_zero, asI_int]
      rw [lt_self, ifB_false]; rfl)
    (by
      rintro i d ⟨acc, G⟩ ws g hd ⟨hn, hf, ⟨sv, hx1, hap⟩, hia, hG, hlt, hal, rfl⟩
      simp only at hap hia hG hlt hal
      have hi := (List.getElem?_eq_some_iff.1 hd).1
      obtain ⟨ha, hb, hab, _⟩ := okC_iff.1 (hok i d hd)
      obtain ⟨A, hA⟩ := Int.eq_ofNat_of_zero_le ha.1
      obtain ⟨B, hB⟩ := Int.eq_ofNat_of_zero_le hb.1
      have eA : d.a.toNat = A := by omega
      have eB : d.b.toNat = B := by omega
      have hs' : SlR g 52 3 sl (l.map Kl.cells) := slR_keep hs hn fun b hb => hf b (slR_bel hs hb) (hsb b hb).1 (hsb b hb).2
      have y7 := (Ext.refl g).fresh 52 [iv 0, iv 0, iv 0] d.cells
      have hdb := blk_fresh g 52 [iv 0, iv 0, iv 0] d.cells
      have n7 : (g.fresh 52 [iv 0, iv 0, iv 0] d.cells).nx = g.nx + 1 := rfl
      have hx7 := (y7.blk h2.nx (by omega)).trans hx1
      have a7 := hap.ext y7
      have ia7 := hia.ext y7
      have svb : ∀ q, AM.blkOf sv = some q → g0.nx ≤ q ∧ q < g.nx := fun q e => ⟨(hap.blkOf e).1, (hap.blkOf e).2.1⟩
      have lda : ∀ {R : Type} {g' : H}, g'.blk g.nx = some (.row d.cells 52 true) → ∀ (K : Value → Option R), ld Tryd.prog g' 3 g.nx 0 K = K (iv A) := fun {R g'} e K => by rw [d3, cell_of e, ← hA]; rfl
      have ldb : ∀ {R : Type} {g' : H}, g'.blk g.nx = some (.row d.cells 52 true) → ∀ (K : Value → Option R), ld Tryd.prog g' 3 g.nx (off 0 1) K = K (iv B) := fun {R g'} e K => by rw [d3, cell_of e, ← hB]; rfl
      have ldt : ∀ {R : Type} {g' : H}, g'.blk g.nx = some (.row d.cells 52 true) → ∀ (K : Value → Option R), ld Tryd.prog g' 3 g.nx (off 0 2) K = K (iv d.t) := fun {R g'} e K => by rw [d3, cell_of e]; rfl
      unfold f6_l1
      simp only [gv, List.getD_cons_zero, asI_int, asK_int]
      rw [lt_nat hi, ifB_true, hs'.ldA ag52 sz52 (by omega) (x := d.cells) (by simp [hd])]
      rw [al_st (zs := [iv 0, iv 0, iv 0]) (xs := d.cells) sz52 rfl rfl]
      generalize g.fresh 52 [iv 0, iv 0, iv 0] d.cells = h7 at *
      obtain ⟨g1, sv1, e1, m1, k1, x1, a1⟩ := push6 d a7 hx7 (by omega) hl (by omega)
      rw [hA, hB] at e1
      have svn : ∀ q, q < g0.nx ∨ q = g.nx → AM.blkOf sv ≠ some q := fun q hq e => by have := svb q e; omega
      have hdb1 : g1.blk g.nx = some (.row d.cells 52 true) := (k1 g.nx (by omega) (by omega) (svn _ (.inr rfl))).trans hdb
      have ia1 : IA g1 gb v14 (G.map Int.ofNat) := ia7.keep m1 (k1 gb (by omega) hne (svn _ (.inl hgb)))
      obtain ⟨r1, g2, w1, ia2, n2, k2⟩ := orStep ia1 (A := A) (B := B) (by omega) (by omega) (by have := hlt A; omega)
      have hG2 : (G.set A (nb G A ||| 2 ^ B)).length = n.toNat := by simp [hG]
      have hdb2 := (k2 g.nx (by omega)).trans hdb1
      have hlt2 : ∀ v, nb (G.set A (nb G A ||| 2 ^ B)) v < 2 ^ 7 := fun v => by
        rw [nb_set _ _ _ _ (by omega)]
        split
        · exact Nat.or_lt_two_pow (hlt A) (Nat.pow_lt_pow_right (by omega) (by omega))
        · exact hlt v
      obtain ⟨r2, g3, w2, ia3, n3, k3⟩ := orStep ia2 (A := B) (B := A) (by omega) (by omega) (by have := hlt2 B; omega)
      have eG : addG G d = (G.set A (nb G A ||| 2 ^ B)).set B (nb (G.set A (nb G A ||| 2 ^ B)) B ||| 2 ^ A) := by unfold addG addA; rw [eA, eB]
      have hx3 : g3.blk h2.nx = some (.row [iv n, sv1] 50 true) := ((k3 _ (Ne.symm hne)).trans (k2 _ (Ne.symm hne))).trans x1
      refine ⟨[iv (i + 1 : Nat)], g3, ?_, by omega, fun q hq hq1 hq2 => ?_, ⟨sv1, hx3, ?_⟩, by simp only [eG]; exact ia3, by simp only [addG_len]; exact hG, fun v => ?_, by simp only [List.length_append, List.length_singleton]; omega, rfl⟩
      · simp only [nx_eq]
        rw [d48, cell_of hx7, show ([iv n, sv] : List Value)[off 0 1]? = some sv from rfl, Option.bind_some, lda hdb, asI_int, ldb hdb, asI_int, ldt hdb, asI_int, kbld53]
        refine (e1 _).trans ?_
        rw [lda hdb1, asI_int, r1, asI_int, ldb hdb1, asI_int, nn_ge (by omega)]
        refine (w1 _).trans ?_
        rw [ldb hdb2, asI_int, r2, asI_int, lda hdb2, asI_int, nn_ge (by omega)]
        refine (w2 _).trans ?_
        rw [add1 (by omega)]
        rfl
      · rw [k3 q hq2, k2 q hq2, k1 q (by omega) hq1 (svn _ (.inl hq)), y7.blk q (by omega)]
        exact hf q hq hq1 hq2
      · refine a1.keep (by omega) fun q hq => ?_
        have := (a1.blkOf hq).1
        rw [k3 q (by omega), k2 q (by omega)]
      · simp only [eG]
        rw [nb_set _ _ _ _ (by omega)]
        split
        · exact Nat.or_lt_two_pow (hlt2 B) (Nat.pow_lt_pow_right (by omega) (by omega))
        · exact hlt2 v)
  rw [foldI_foldl, fold_two] at q5 q6
  exact ⟨_, g', sv, q1, q2, q3, q4, q5.slR, q6⟩
section
variable {n s t : Int} {l : List Kl} {h : H}
theorem L24 (h : H) {R : Type} (K : Value → H → Option R) : calls rcL h 24 [] K = K (.bool true) h :=
  (rcL_ne (by decide) (by decide) (by decide) (by decide)).trans ((rcH_ne (by decide) (by decide) (by decide)).trans (calls_eq (xs := []) (s24 h)))
theorem s6_tail (hp : pairP n l s t = true) {p gb : Nat} {v14 ov sl : Value} (hpb : h.blk p = some (.row [iv n, sl] 46 true)) (hia : IA h gb v14 ((gOf n.toNat l).map Int.ofNat)) {vs : List Value} (hov : SlR h 22 1 ov (cellsV vs)) {first : Nat} {w : Nat → List Nat} (hvs : vs.length = (elts first).length) (r : WaysR (gOf n.toNat l) s.toNat t.toNat first w) :
    ∃ h', tail6 rcL 100 p v14 ov s t (wideP n l s t) (blkA n l s t).1 (blkA n l s t).2 (cutA (gOf n.toNat l) s.toNat t.toNat).1 (cutA (gOf n.toNat l) s.toNat t.toNat).2 h = some (.bool true, h') := by
  obtain ⟨hv, hs, ht, hst⟩ := pairP_parts hp
  obtain ⟨hn1, hn7, _⟩ := validP_ok hv
  have hg := gOf_ok hv
  have hG := gOf_len n.toNat l
  have hda := dir_adj hp
  have hwl := fun (C : Nat) hd => wide_le (C := C) hp hd
  have hbl := fun (C : Nat) => blk_le (C := C) hp
  generalize gOf n.toNat l = G at *
  have hS : s = (s.toNat : Int) := by omega
  have hT : t = (t.toNat : Int) := by omega
  have hnb : nb G s.toNat < 1024 := Nat.lt_of_lt_of_le (hg.nb_lt _) hg.pow
  have e0 : ∀ (K : Value → Option (Value × H)), (six v14 s 1 fun b o => ld Tryd.prog h 3 b o K) = K (iv (nb G s.toNat : Nat)) := fun K => by
    simp only [d3]
    exact hia.get hs.1 (nb_get (by omega)) K
  have hbit : AM.eq (AM.and .i64 (AM.shr .i64 ((nb G s.toNat : Nat) : Int) t) 1) 1 = adj G s.toNat t.toNat := by
    have := AM.bit1 (a := nb G s.toNat) (p := t.toNat) (by omega) (by omega)
    rw [← hT] at this
    exact this
  unfold tail6
  rw [e0, asI_int, nn_ge ht.1, hbit]
  unfold blkA cutA
  rw [if_pos hp, hda]
  cases hd : dirP l s t with
  | true =>
    refine ⟨h, ?_⟩
    rw [if_pos rfl, if_pos rfl, ifB_true, eq_t rfl, ifB_true, eq_t rfl, ifB_true, L24, asB_bool]
  | false =>
    rw [hd] at hda
    have hst' : s.toNat ≠ t.toNat := by omega
    obtain ⟨C, c1, c2, c3⟩ := ways_cut r hg.toGrB (by omega) (by omega) hst' hda
    obtain ⟨u1, u2, u3⟩ := cutP_is hg.toGrB (s := s.toNat) (t := t.toNat) (by omega) hst' hda
    obtain ⟨z1, z2⟩ := hwl C hd c1 c2
    obtain ⟨y1, y2⟩ := hbl _ u1 u2
    have hB : blkP n l s t < 1024 := Nat.lt_of_lt_of_le y1 (show 2 ^ n.toNat ≤ 2 ^ 10 from Nat.pow_le_pow_right (by omega) (by omega))
    have hC : cutP G s.toNat t.toNat < 1024 := Nat.lt_of_lt_of_le u1 hg.pow
    have el := s6_l2 (rec := rcL) (h := h) hB hC (n := n.toNat) (by omega)
    rw [show ((n.toNat : Nat) : Int) = n by omega] at el
    have hlo : ∀ {T : Type} (K : Int → Option T), len ov K = K ((elts first).length : Nat) := fun K => by rw [hov.len, List.length_map, hvs]
    refine ⟨h, ?_⟩
    rw [if_neg (by simp), if_neg (by simp), ifB_false, d3, cell_of hpb, show ([iv n, sl] : List Value)[0]? = some (iv n) from rfl, Option.bind_some, asI_int, lp_eq el, onE_exit, if_pos rfl, eq_t rfl, ifB_true, ifB_true, hlo, le_t (by rw [← c3]; exact z1), ifB_true, gv20, asI_int, le_t (by unfold cntR; omega), ifB_true, L24, asB_bool]
theorem arrP_len (n : Nat) (l : List Kl) (s : Int) : (arriveP n l s).length = n := by rw [arrive_K, arrK_len]
set_option maxHeartbeats 1000000 in
theorem s6 (hmix : Tryd.prog.follows .mixedOrders = true) {sl : Value} (hs : SlR h 52 3 sl (l.map Kl.cells)) : ∃ h', f6 rcL 100 (.agg #[iv n, sl]) s t h = some (.bool true, h') := by
  have x1 : Ext h (h.new (.row [iv n, sl] 46 true)) := .new _ _
  have b1 : (h.new (.row [iv n, sl] 46 true)).blk h.nx = some (.row [iv n, sl] 46 true) := blk_new_self _ _
  have n1 : (h.new (.row [iv n, sl] 46 true)).nx = h.nx + 1 := rfl
  have hs1 := hs.ext x1
  unfold f6
  rw [bx_eq, nx_eq, show (Value.agg #[iv n, sl]).cells.toList = [iv n, sl] from rfl]
  generalize h.new (.row [iv n, sl] 46 true) = h1 at *
  have ldn : ∀ {R : Type} {g : H}, g.blk h.nx = some (.row [iv n, sl] 46 true) → ∀ (K : Value → Option R), ld Tryd.prog g 3 h.nx 0 K = K (iv n) := fun {R g} e K => by rw [d3, cell_of e]; rfl
  have c23 := fun (K : Value → H → Option (Value × H)) => L23 (n := n) hs1 K
  rw [d46, rd_all (n := 2) b1 rfl, Option.bind_some, c23, asB_bool]
  cases hv : validP n l with
  | false => exact ⟨h1, by rw [Bool.not_false, ifB_true, L24, asB_bool]⟩
  | true =>
    obtain ⟨hn1, hn7, hl24, hok⟩ := validP_ok hv
    rw [Bool.not_true, ifB_false]
    by_cases q1 : s < 0
    · exact ⟨h1, by rw [lt_t q1, ifB_true, L24, asB_bool]⟩
    rw [lt_f q1, ifB_false, ldn b1, asI_int]
    by_cases q2 : n ≤ s
    · exact ⟨h1, by rw [le_t q2, ifB_true, L24, asB_bool]⟩
    rw [le_f q2, ifB_false]
    by_cases q3 : t < 0
    · exact ⟨h1, by rw [lt_t q3, ifB_true, L24, asB_bool]⟩
    rw [lt_f q3, ifB_false, ldn b1, asI_int]
    by_cases q4 : n ≤ t
    · exact ⟨h1, by rw [le_t q4, ifB_true, L24, asB_bool]⟩
    rw [le_f q4, ifB_false]
    by_cases q5 : s = t
    · exact ⟨h1, by rw [eq_t q5, ifB_true, L24, asB_bool]⟩
    rw [eq_f q5, ifB_false, ldn b1, asI_int, kbld50]
    have hp : pairP n l s t = true := by
      unfold pairP
      rw [hv]
      simp only [Bool.true_and, Bool.and_eq_true, decide_eq_true_eq, Bool.not_eq_true', beq_eq_false_iff_ne]
      omega
    have y2 := (Ext.refl h1).fresh 50 [iv 0, .slice none 0 0] [iv n, .slice none 0 0]
    have b2 := blk_fresh h1 50 [iv 0, .slice none 0 0] [iv n, .slice none 0 0]
    have n2 : (h1.fresh 50 [iv 0, .slice none 0 0] [iv n, .slice none 0 0]).nx = h1.nx + 1 := rfl
    rw [al_st (zs := [iv 0, .slice none 0 0]) (xs := [iv n, .slice none 0 0]) sz50 rfl rfl]
    have b12 := (y2.blk h.nx (by omega)).trans b1
    have hs2 := hs1.ext y2
    generalize h1.fresh 50 [iv 0, .slice none 0 0] [iv n, .slice none 0 0] = h2 at *
    obtain ⟨m, hm⟩ := Int.eq_ofNat_of_zero_le (show 0 ≤ n by omega)
    have y3 := Ext.new h2 (.row ((List.replicate m (0 : Int)).map iv) 3 true)
    have b3 : (h2.new (.row ((List.replicate m (0 : Int)).map iv) 3 true)).blk h2.nx = some (.row ((List.replicate m (0 : Int)).map iv) 3 true) := blk_new_self _ _
    have n3 : (h2.new (.row ((List.replicate m (0 : Int)).map iv) 3 true)).nx = h2.nx + 1 := rfl
    have hnm : n.toNat = m := by omega
    rw [ldn b12, asI_int, hm, mks_ints app23 zero3 (by omega)]
    have b13 := (y3.blk h.nx (by omega)).trans b12
    have b23 := (y3.blk h1.nx (by omega)).trans b2
    have hs3 := hs2.ext y3
    generalize h2.new (.row ((List.replicate m (0 : Int)).map iv) 3 true) = h3 at *
    have hmap : (List.replicate n.toNat 0).map Int.ofNat = List.replicate m (0 : Int) := by rw [hnm]; simp
    have ia3 : IA h3 h2.nx (.slice (some ⟨h2.nx, 0, none⟩) m m) ((List.replicate n.toNat 0).map Int.ofNat) := by
      rw [hmap]
      refine ⟨⟨m, by simp, ?_, ?_⟩, by omega, b3⟩
      · unfold capK; rw [if_pos (show m < U by unfold U; omega)]; simp
      · unfold capK; rw [if_pos (show m < U by unfold U; omega)]; unfold U; omega
    obtain ⟨ws, g, sv, el, m4, k4, x4, sv4, ia4⟩ := s6_l1 (rec := rcL) (h2 := h1) hv hs3 (fun b hb => by
      have := slR_bel hs hb
      have := x1.nx
      omega) b23 ia3 (by omega) (by omega)
    have hg := gOf_ok hv
    have hG := gOf_len n.toNat l
    have b14 := (k4 h.nx (by omega) (by omega) (by omega)).trans b13
    have hlsl : ∀ {T : Type} (K : Int → Option T), len sl K = K (l.length : Nat) := fun K => by rw [hs.len, List.length_map]
    rw [show ld Tryd.prog h3 44 h.nx (off 0 1) = fun K : Value → Option (Value × H) => K sl from funext fun K => by rw [d44, cell_of b13]; rfl]
    simp only [nx_eq]
    rw [hlsl, lp_eq el, onE_exit, if_pos rfl, d50, rd_all (n := 2) x4 rfl, Option.bind_some]
    have c25 := fun (K : Value → H → Option (Value × H)) => L25 (n := n) (s := s) (t := t) sv4 K
    have c26 := fun (K : Value → H → Option (Value × H)) => L26 (n := n) (s := s) (t := t) sv4 K
    obtain ⟨va, h5, ba, c27, x5, ia5⟩ := L27 sv4 hv (show 0 ≤ s ∧ s < n by omega)
    have hval := valid_of2 hg
    have hs5 : SlR h5 3 1 (.slice (some ⟨h2.nx, 0, none⟩) m m) (AM.cellsI ((gOf n.toNat l).map Int.ofNat)) := (ia4.ext x5).slR
    have htk : ((gOf n.toNat l).map Int.ofNat).take 13 = (gOf n.toNat l).map Int.ofNat := List.take_of_length_le (by rw [List.length_map]; omega)
    obtain ⟨vb, h6, e6a, x6, s6a⟩ := s11 hs5
    rw [htk, AM.cellsN_eq] at s6a
    obtain ⟨ov, h7, vs, first, w, k28, x7, o1, o2, o3, o4⟩ := AM.k28 hmix (s := s.toNat) (t := t.toNat) hg hval s6a (by omega) (by omega) (by omega)
    obtain ⟨vc, h8, e8a, x8, s8a⟩ := s11 ((hs5.ext x6.toExt).ext x7.toExt)
    rw [htk, AM.cellsN_eq] at s8a
    have hvl : vs.length = (elts first).length := by rw [o3.1, List.length_map]
    have c11a := fun (K : Value → H → Option (Value × H)) => (rcL_ne (by decide) (by decide) (by decide) (by decide)).trans ((rcH_ne (by decide) (by decide) (by decide)).trans (calls_eq (K := K) (xs := [_]) e6a))
    have c28 := fun (K : Value → H → Option (Value × H)) => (rcL_ne (by decide) (by decide) (by decide) (by decide)).trans (k28 K)
    have c11b := fun (K : Value → H → Option (Value × H)) => (rcL_ne (by decide) (by decide) (by decide) (by decide)).trans ((rcH_ne (by decide) (by decide) (by decide)).trans (calls_eq (K := K) (xs := [_]) e8a))
    have c29 := fun (K : Value → H → Option (Value × H)) => (rcL_ne (by decide) (by decide) (by decide) (by decide)).trans ((rcH_ne (by decide) (by decide) (by decide)).trans (calls_eq (K := K) (xs := [vc, iv (s.toNat : Nat), iv (t.toNat : Nat)]) (AM.s29 (s := s.toNat) (t := t.toNat) hg hval s8a (by omega) (by omega) (by omega))))
    rw [show ((s.toNat : Nat) : Int) = s by omega, show ((t.toNat : Nat) : Int) = t by omega] at c28 c29
    have x58 : Ext h5 h8 := (x6.toExt.trans x7.toExt).trans x8.toExt
    have b18 := ((x5.trans x58).blk h.nx (by omega)).trans b14
    have ia8 := (ia4.ext x5).ext x58
    have iaA := ia5.ext x58
    have hlo : ∀ {T : Type} (K : Int → Option T), len ov K = K ((elts first).length : Nat) := fun K => by rw [o1.len, List.length_map, hvl]
    have hla : ∀ {T : Type} (K : Int → Option T), len va K = K n := fun K => by rw [iaA.len, arrP_len]; congr 1; omega
    have hat : ∀ {T : Type} (K : Value → Option T), (six va t 1 fun b o => ld Tryd.prog h8 3 b o K) = K (iv (atP (arriveP n.toNat l s) t)) := fun K => by
      simp only [d3]
      refine iaA.get (by omega) ?_ K
      unfold atP
      rw [List.getD_eq_getElem?_getD, List.getElem?_eq_getElem (by rw [arrP_len]; omega)]
      rfl
    have hwid : widA n l s t = (wideP n l s t, 0) := by unfold widA; rw [if_pos hp]
    obtain ⟨h', et⟩ := s6_tail hp b18 ia8 (o1.ext x8.toExt) hvl o4
    refine ⟨h', ?_⟩
    refine (c25 _).trans ?_
    rw [hwid, ext20, asI_int, ext21, asI_int, d50, rd_all (n := 2) x4 rfl, Option.bind_some]
    refine (c26 _).trans ?_
    rw [ext20, asI_int, ext21, asI_int, d50, rd_all (n := 2) x4 rfl, Option.bind_some]
    refine (c27 _).trans ?_
    rw [ext20, ext21, asI_int]
    refine (c11a _).trans ?_
    refine (c28 _).trans ?_
    rw [ext20, ext21, asI_int]
    refine (c11b _).trans ?_
    refine (c29 _).trans ?_
    rw [ext20, asI_int, ext21, asI_int, eq_t rfl, Bool.not_true, ifB_false, ifB_false, ifB_false, hla, ldn b18, asI_int, eq_t rfl, Bool.not_true, ifB_false, hat, asI_int, f6_l3_eq]
    by_cases q6 : 0 ≤ atP (arriveP n.toNat l s) t
    · rw [le_t q6, ifB_true, hlo]
      have hpos := ways_pos o4 hg.toGrB (by omega) (by omega) (by omega) (hear_rch hp q6)
      rw [eq_f (by omega), ifB_false]
      exact et
    · rw [le_f q6, ifB_false]
      exact et
end
end Go.AM.F
end

section
section
namespace Go.AM.F
open Go.Proofs Go.ChangeShapes
variable {HH : Type} {enc : TypeId × Value → HH} {w : World} {base : Nat} {held : Bool}
noncomputable def fields52 : Array Field := match Tryd.prog.underlying 52 with
  | some (.struct fs) => fs
  | _ => #[]
theorem under52 : Tryd.prog.underlying 52 = some (.struct fields52) := by kernel_rfl
theorem fields52_types : fields52.toList.map (fun f => (f.type, f.offset)) = [(3, 0), (3, 1), (3, 2)] := by kernel_rfl
theorem cellsOf3 : Tryd.prog.cellsOf 3 = 1 := by kernel_rfl
theorem cellsOf52 : Tryd.prog.cellsOf 52 = 3 := by kernel_rfl
theorem flat59 (n : Nat) (cs : List Value) (x : DataW HH × List MemPlace) (h : DataW.trod enc Tryd.prog w base (fun _ => true) held n 52 cs = some x) : ∃ c : Kl, cs = c.cells := by
  obtain ⟨a, b, t, e⟩ := trod_three under52 fields52_types (show Tryd.prog.underlying 3 = some (.int .i64) from by kernel_rfl) cellsOf3 cellsOf52 h
  exact ⟨⟨a, b, t⟩, e⟩
/-- Rows that are cells of calls are the cells of a list of calls. -/
theorem callsF_of : ∀ (l : List (List Value)), (∀ x ∈ l, ∃ c : Kl, x = c.cells) → ∃ l' : List Kl, l = l'.map Kl.cells := by
  intro l
  induction l with
  | nil => intro _; exact ⟨[], rfl⟩
  | cons x l ih =>
    intro h
    obtain ⟨c, hc⟩ := h x (by simp)
    obtain ⟨l', hl⟩ := ih (fun y hy => h y (List.mem_cons_of_mem _ hy))
    exact ⟨c :: l', by rw [hc, hl]; rfl⟩
noncomputable def fields46 : Array Field := match Tryd.prog.underlying 46 with
  | some (.struct fs) => fs
  | _ => #[]
noncomputable def field24 (i : Nat) : Field := fields46[i]!
theorem under46s : Tryd.prog.underlying 46 = some (.struct fields46) := by kernel_rfl
theorem fields46_eq : fields46 = #[field24 0, field24 1] := by kernel_rfl
theorem field24_0 : ((field24 0).type, (field24 0).offset) = (3, 0) := by kernel_rfl
theorem field24_1 : ((field24 1).type, (field24 1).offset) = (44, 1) := by kernel_rfl
theorem under3 : Tryd.prog.underlying 3 = some (.int .i64) := by kernel_rfl
theorem under44L : Tryd.prog.underlying 44 = some (.slice 52) := by kernel_rfl
theorem cellsOf46 : Tryd.prog.cellsOf 46 = 2 := by kernel_rfl
theorem cellsOf44 : Tryd.prog.cellsOf 44 = 1 := by kernel_rfl
theorem bytes59 : Tryd.prog.bytesOf 52 = 24 := by kernel_rfl
theorem types24 : Tryd.prog.cellTypes Tryd.prog.depth 46 = some [3, 44] := by kernel_rfl
set_option maxRecDepth 100000 in
/-- A log that came in. -/
theorem open_log {rr : Reach} {b0 : Nat} {v : Value} {d : DataW HH} {ps : List MemPlace} (hv : Value.okWide Tryd.prog w rr b0 46 v) (hwt : ∀ x ∈ d.weights Tryd.prog 46, x ≤ reachBytes)
    (hd : DataW.Trod enc Tryd.prog w base (fun _ => true) held 46 v d ps) {ι : Nat → Emb} {h : H} (r : Rel Tryd.prog E0 ι h w) (hro : ∀ b k, h.blk b = some k → k.own = false) :
    ∃ (n : Int) (sl sl0 : Value) (ι' : Nat → Emb) (h' : H) (l : List Kl), v = .agg #[iv n, sl] ∧ (Lit.int .i64 n).wf = true ∧ Rel Tryd.prog E0 ι' h' w ∧ (∀ b k, h'.blk b = some k → k.own = false) ∧ Ext h h' ∧ (∀ b, b < h.nx → ι' b = ι b) ∧
      VR ι' h'.nx sl0 sl ∧ SlR h' 52 3 sl0 (l.map Kl.cells) := by
  obtain ⟨n, a, len, cap, d1, p1, rfl, hn, hw1, hhas, hd1⟩ := open_numslice under46s fields46_eq (Prod.mk.inj field24_0) (Prod.mk.inj field24_1) under3 under44L cellsOf46 cellsOf3 cellsOf44 types24 hv hwt hd
  obtain ⟨ι', h', v0, l, g1, g2, g3, g4, g5, g6, g7⟩ := open_flat r hro under44L sz52 cellsOf52 (by decide) (Q := fun x => ∃ c : Kl, x = c.cells) flat59 (by
    rintro cs ⟨c, rfl⟩
    exact ⟨rfl, fun v hv => by simp [Kl.cells] at hv; rcases hv with rfl | rfl | rfl <;> exact ⟨_, _, rfl⟩⟩) (by rw [bytes59]; exact Nat.succ_pos _) hw1 hhas hd1
  obtain ⟨l', rfl⟩ := callsF_of l g7
  exact ⟨n, _, v0, ι', h', l', rfl, hn, g1, g2, g3, g4, g5, g6⟩
end Go.AM.F
end
end

section
namespace Go.AM
open Go.Proofs Go.ChangeShapes
variable {HH : Type} {enc : TypeId × Value → HH} {w : World} {base : Nat} {held : Bool}
theorem under3 : Tryd.prog.underlying 3 = some (.int .i64) := by kernel_rfl
open Go.Proofs.YtphchobmencipaaDoor
theorem glTab : Tryd.prog.globalNamed "math/bits.deBruijn64tab" = some 1 := by kernel_rfl
theorem tyTab : (Tryd.prog.globals[1]?).map (·.type) = some 160 := by kernel_rfl
theorem under160 : Tryd.prog.underlying 160 = some (.array 64 5) := by kernel_rfl
theorem under5 : Tryd.prog.underlying 5 = some (.int .u8) := by kernel_rfl
theorem cellsOf5 : Tryd.prog.cellsOf 5 = 1 := by kernel_rfl
/-- What the rows say of the package-level variables. -/
def laidT : List (String × DataW Unit) := [("math/bits.deBruijn32tab", Rows.laid_math_bits_deBruijn32tab), ("math/bits.deBruijn64tab", Rows.laid_math_bits_deBruijn64tab)]
theorem laid64_eq : (Rows.laid_math_bits_deBruijn64tab : DataW Unit) = .agg (tab64.map fun n => .lit (.int .u8 n)) := by kernel_rfl
theorem tab_len : tab64.length = 64 := by decide
set_option maxRecDepth 100000 in
/-- What the condition gives: each cell of the table. -/
theorem of_laid {W : World} (h : laidMetH Tryd.prog laidT W) (i : Nat) (z : Int) (hz : tab64[i]? = some z) : W.cell? ⟨1, i, none⟩ = some (.int .u8 z) := by
  rw [MakeChecks.laidMetH_plain _ _ _ (by kernel_rfl)] at h
  obtain ⟨ps, ⟨g0, t0, cs0, f0, p0, q0, hg0, ht0, hv0, hd0, ⟨g1, t1, cs1, f1, p1, q1, hg1, ht1, hv1, hd1, _, _⟩, _⟩, _, _⟩ := h
  obtain rfl := Option.some.inj (glTab.symm.trans hg1)
  obtain rfl := Option.some.inj (tyTab.symm.trans ht1)
  obtain ⟨xs, m1, rfl, hx1, hlen, hn3, hel⟩ := DataW.trod_array under160 hd1
  have hi : i < 64 := by rw [← tab_len]; exact (List.getElem?_eq_some_iff.1 hz).1
  have h0 := hel i hi
  rw [cellsOf5, Nat.mul_one] at h0
  have hxi : xs[i]? = some xs[i] := List.getElem?_eq_getElem (by omega)
  rw [hxi] at h0
  obtain ⟨k, e1, e2, _⟩ := DataW.trod_int under5 h0
  have hx2 : DataW.agg (tab64.map fun n => DataW.lit (.int .u8 n)) = DataW.agg (xs.map (·.1)) := by
    rw [← laid64_eq]
    exact congrArg Prod.fst hx1
  have hx3 : (tab64.map fun n => (DataW.lit (.int .u8 n) : DataW Unit)) = xs.map (·.1) := by
    exact DataW.agg.inj hx2
  have hx4 := congrArg (·[i]?) hx3
  simp only [List.getElem?_map, hz, hxi, Option.map_some, Option.some.injEq] at hx4
  rw [e2] at hx4
  have hk : z = k := by
    have h5 : (DataW.lit (Lit.int .u8 z) : DataW Unit) = DataW.lit (Lit.int .u8 k) := hx4
    exact (Lit.int.inj (DataW.lit.inj h5)).2
  subst hk
  rw [World.var?_cell hg1 hv1 i]
  have hcl : cs1.toList[i]? = some (.int .u8 z) := by
    have := congrArg (·[0]?) e1
    simpa [List.getElem?_take, List.getElem?_drop] using this
  simpa using hcl
/-- The beginning: the table alone. -/
def hTab : H := ⟨fun b => if b = 1 then some (.row (tab64.map fun n => .int .u8 n) 5 false) else none, 2, 0⟩
def ιTab : Nat → Emb := fun g => ⟨g, 0, 64, 1⟩
set_option maxRecDepth 100000 in
theorem rel_tab {W : World} (h : laidMetH Tryd.prog laidT W) : Rel Tryd.prog E0 ιTab hTab W := by
  have hc := of_laid h
  have h0 := hc 0 0 (by decide)
  have hsz : 1 < W.heap.size := by
    unfold World.cell? at h0
    split at h0
    · rename_i hb
      rcases Nat.lt_or_ge 1 W.heap.size with h1 | h1
      · exact h1
      · rw [Array.getElem?_eq_none h1] at hb; cases hb
    · cases h0
  have hrow : ∀ n, BlkR Tryd.prog ιTab n W 1 (.row (tab64.map fun n => .int .u8 n) 5 false) := by
    intro n
    refine ⟨hsz, sz5, fun i v hv => ?_⟩
    rw [List.getElem?_map] at hv
    obtain ⟨z, hz, rfl⟩ := Option.map_eq_some_iff.1 hv
    refine ⟨.int .u8 z, ?_, .int .u8 z⟩
    have := hc i z hz
    simpa [ιTab] using this
  refine ⟨fun b k hb => ?_, fun b k hb => ?_, fun b b' k k' hb _ _ ho => ?_, Nat.le_refl _, fun g _ => ⟨rfl, rfl⟩, fun g hg => ?_, fun g k hg hk => ?_⟩
  · simp only [hTab] at hb ⊢
    split at hb
    · omega
    · cases hb
  · simp only [hTab] at hb
    split at hb
    · rename_i h1
      subst h1
      cases hb
      exact hrow _
    · cases hb
  · simp only [hTab] at hb
    split at hb
    · cases hb; cases ho
    · cases hb
  · simp only [hTab, E0]
  · simp only [E0] at hk
    split at hk
    · rename_i h1
      subst h1
      cases hk
      exact ⟨rfl, hrow _⟩
    · cases hk
theorem ro_tab : ∀ b k, hTab.blk b = some k → k.own = false := by
  intro b k hb
  simp only [hTab] at hb
  split at hb
  · cases hb; rfl
  · cases hb
end Go.AM
end
