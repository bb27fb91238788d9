/- Parts of the proof, put together: the abstract machine, what the functions of the program answer, and plain laws. -/
import Derived.Test.YthmfjfblndophaaCt4

section
namespace Go.AM
open Go.Proofs
theorem NFr.trans {h h1 h2 : H} {rb xb : Nat} {n0 n1 n2 : List (Sp × Value)} (a : NFr h h1 rb xb n0 n1) (b : NFr h1 h2 rb xb n1 n2) : NFr h h2 rb xb n0 n2 where
  nx := Nat.le_trans a.nx b.nx
  blk c h1' h2' h3' h4' := by
    rw [b.blk c (Nat.lt_of_lt_of_le h1' a.nx) h2' h3' (fun hc => (a.own c hc).elim h4' (fun h => by omega)), a.blk c h1' h2' h3' h4']
  own c hc := (b.own c hc).elim (a.own c) (fun h => .inr (Nat.le_trans a.nx h))
theorem NFr.ext {h h1 : H} {rb xb : Nat} {n0 : List (Sp × Value)} (x : Ext h h1) : NFr h h1 rb xb n0 n0 := ⟨x.nx, fun c hc _ _ _ => x.blk c hc, fun _ hc => .inl hc⟩
theorem NetH.ext {lo : Nat} {h h' : H} {nb rb xb : Nat} {B : List Arc} {r : Sp → Sp → Int} {nxs : List (Sp × Value)} (a : NetH lo h nb rb xb B r nxs) (x : Ext h h') : NetH lo h' nb rb xb B r nxs where
  str := by rw [x.blk _ a.nlt, a.str]
  nlt := Nat.lt_of_lt_of_le a.nlt x.nx
  rm := by rw [x.blk _ a.rlt, a.rm]
  rlt := Nat.lt_of_lt_of_le a.rlt x.nx
  ne := a.ne
  next := a.next.keep x.nx (x.blk _ a.next.xlt) fun c hc => x.blk c (a.next.lt hc).2.1
  los := a.los
theorem NetH.rowNe {lo : Nat} {h : H} {nb rb xb : Nat} {B : List Arc} {r : Sp → Sp → Int} {nxs : List (Sp × Value)} (a : NetH lo h nb rb xb B r nxs) {c : Nat} {l : List Value} {e : TypeId} {w : Bool} (hc : h.blk c = some (.row l e w)) : c ≠ rb ∧ c ≠ xb := by
  refine ⟨fun q => ?_, fun q => ?_⟩
  · rw [q, a.rm] at hc; cases hc
  · rw [q, a.next.mp] at hc; cases hc
theorem nbrs_len (B : List Arc) (u : Sp) : (nbrs B u).length ≤ 2 * B.length := by
  induction B with
  | nil => simp [nbrs]
  | cons a B ih =>
    unfold nbrs at ih ⊢
    rw [List.flatMap_cons, List.length_append, List.length_append, List.length_cons]
    have : (if a.1 = u then [a.2.1] else []).length ≤ 1 := by split <;> simp
    have : (if a.2.1 = u then [a.1] else []).length ≤ 1 := by split <;> simp
    omega
/-- One more of the arcs is joined. -/
theorem join_k {full B : List Arc} {a : Arc} (pre : (B ++ [a]) <+: full) (sf : SimpB full) (hl : full.length ≤ 300) (hc : 0 ≤ a.2.2 ∧ a.2.2 < 2 ^ 31) {lo : Nat} {h : H} {nb rb xb : Nat} {nxs : List (Sp × Value)}
    (nt : NetH lo h nb rb xb B (room0 B) nxs) : ∃ h' nxs', (∀ {R : Type} (K : Value → H → Option R), calls rn h 113 [pt nb 0, a.1.val, a.2.1.val, iv a.2.2] K = K undef h') ∧
      NetH lo h' nb rb xb (B ++ [a]) (room0 (B ++ [a])) nxs' ∧ NFr h h' rb xb nxs nxs' := by
  obtain ⟨post, rfl⟩ := pre
  have hlo : lo ≤ h.nx := by have := nt.los.1; have := nt.nlt; omega
  have pw := sf.pw
  rw [List.append_assoc, List.pairwise_append] at pw
  have hno : ¬ onA B a.1 a.2.1 := by
    rintro ⟨x, hx, h⟩
    have := pw.2.2 x hx a (by simp)
    rcases h with ⟨h1, h2⟩ | ⟨h1, h2⟩
    · exact this.1 (by rw [h1, h2])
    · exact this.2 (by rw [h1, h2])
  have hB : B.length ≤ 300 := by simp only [List.length_append] at hl; omega
  obtain ⟨h', nxs', e, n1, n2⟩ := s113 nt hlo (fun x hx => sf.ne x (by simp [hx])) (sf.ne a (by simp)) hno (fun u => by have := nbrs_len B u; omega) hc
  exact ⟨h', nxs', fun K => calls_eq e, n1, n2⟩
theorem kSp (p t : Int) (g : Bool) {R : Type} (K : Value → Option R) : bld Try.prog 113 [(0, iv p), (1, iv t), (2, .bool g)] K = K (Sp.val ⟨p, t, g⟩) := kbld113 p t g K
section
variable {lo nb rb xb : Nat} {full : List Arc} {k : Nat}
/-- Everybody waits. -/
theorem f102_l2_in {n j : Nat} {B0 : List Arc} {g0 h3 : H} {nxs0 : List (Sp × Value)} (sf : SimpB full) (hl : full.length ≤ 300) (pre : (B0 ++ waits n j) <+: full) (hn : n ≤ 7) (hj : j < 24) (hk : 10 < k)
    (nt : NetH lo g0 nb rb xb B0 (room0 B0) nxs0) (hnb : h3.nx = nb) :
    ∃ g nxs ws, (∀ {R : Type} (K : Ex → List Value → H → Option R), lp k (f102_l2 rn k h3 [iv j] n) [iv 0] g0 K = K (.exit 2) ws g) ∧ NetH lo g nb rb xb (B0 ++ waits n j) (room0 (B0 ++ waits n j)) nxs ∧ NFr g0 g rb xb nxs0 nxs := by
  obtain ⟨ws', g, e, e0, nxs, n1, n2⟩ := lp_for (k := k) (l := List.range n) (F := f102_l2 rn k h3 [iv j] n) (σ := Unit) (fun _ _ s => s)
    (fun i _ ws g => ws = [iv i] ∧ ∃ nxs, NetH lo g nb rb xb (B0 ++ (waits n j).take i) (room0 (B0 ++ (waits n j).take i)) nxs ∧ NFr g0 g rb xb nxs0 nxs) 2 (ws := [iv 0]) (h := g0) (s0 := ())
    ⟨rfl, nxs0, by simpa using nt, ⟨Nat.le_refl _, fun _ _ _ _ _ => rfl, fun _ h => .inl h⟩⟩ (by rw [List.length_range]; omega)
    (fun _ ws g hI => by
      obtain ⟨rfl, _⟩ := hI
      simp only [f102_l2, gv, List.getD_cons_zero, asI_int, List.length_range]
      rw [show AM.lt (n : Int) n = false by simp [AM.lt], ifB_false]; rfl)
    (fun i x _ ws g hx hI => by
      obtain ⟨rfl, nxs, n1, n2⟩ := hI
      have hi : i < n := by have := (List.getElem?_eq_some_iff.1 hx).1; rwa [List.length_range] at this
      have hw : (waits n j)[i]? = some (at' i j, at' i (j + 1), 1000) := by unfold waits; rw [List.getElem?_map, List.getElem?_range hi]; rfl
      have htk : (waits n j).take (i + 1) = (waits n j).take i ++ [(at' i j, at' i (j + 1), 1000)] := by rw [List.take_add_one, hw]; rfl
      obtain ⟨h', nxs', k1, m1, m2⟩ := join_k (a := (at' i j, at' i (j + 1), 1000)) (B := B0 ++ (waits n j).take i) (by
        rw [List.append_assoc, ← htk]
        exact ((List.prefix_append_right_inj B0).2 (List.take_prefix _ _)).trans pre) sf hl ⟨by simp, by simp⟩ n1
      refine ⟨[iv (i + 1 : Nat)], h', ?_, rfl, nxs', ?_, n2.trans m2⟩
      · simp only [f102_l2, gv, List.getD_cons_zero, asI_int]
        rw [show AM.lt (i : Int) n = true by simp [AM.lt]; omega, ifB_true, kSp, add64 (by omega) (by omega), kSp, nx_eq, hnb]
        rw [show ((j : Int) + 1) = ((j + 1 : Nat) : Int) by omega]
        refine (k1 _).trans ?_
        rw [add64 (by omega) (by omega)]
        rfl
      · rw [htk, ← List.append_assoc]
        exact m1)
  rw [List.length_range] at n1
  have hlen : (waits n j).length = n := by simp [waits]
  rw [List.take_of_length_le (by omega)] at n1
  exact ⟨g, nxs, ws', fun K => lp_eq e, n1, n2⟩
/-- The two of a call. -/
theorem f102_l3_in {j : Nat} {c : Kl} {B0 : List Arc} {g0 h3 h10 h11 : H} {v12 : Value} {nxs0 : List (Sp × Value)} (sf : SimpB full) (hl : full.length ≤ 300) (pre : (B0 ++ gates c j) <+: full) (hj : j < 24) (hk : 10 < k)
    (nt : NetH lo g0 nb rb xb B0 (room0 B0) nxs0) (hnb : h3.nx = nb) (h10b : g0.blk h10.nx = some (.row (inS j).cells 113 true)) (h11b : g0.blk h11.nx = some (.row (outS j).cells 113 true))
    (lt10 : h10.nx < g0.nx) (lt11 : h11.nx < g0.nx) (no10 : ¬ Own nxs0 h10.nx) (no11 : ¬ Own nxs0 h11.nx) (hv : v12 = .slice (some ⟨g0.nx - 1, 0, none⟩) 2 2) (hvb : g0.blk (g0.nx - 1) = some (.row [iv c.a, iv c.b] 3 true)) :
    ∃ g nxs ws, (∀ {R : Type} (K : Ex → List Value → H → Option R), lp k (f102_l3 rn k h3 [iv j] h10 h11 v12 2) [iv 0] g0 K = K (.exit 4) ws g) ∧ NetH lo g nb rb xb (B0 ++ (gates c j).take 4) (room0 (B0 ++ (gates c j).take 4)) nxs ∧ NFr g0 g rb xb nxs0 nxs := by
  have npos : 0 < g0.nx := by omega
  have noV : ¬ Own nxs0 (g0.nx - 1) := nt.next.notOwn fun l e => by rw [hvb] at e; cases e
  have ne10 : h10.nx ≠ rb ∧ h10.nx ≠ xb := nt.rowNe h10b
  have ne11 : h11.nx ≠ rb ∧ h11.nx ≠ xb := nt.rowNe h11b
  have neV : g0.nx - 1 ≠ rb ∧ g0.nx - 1 ≠ xb := nt.rowNe hvb
  obtain ⟨ws', g, e, e0, nxs, n1, n2⟩ := lp_for (k := k) (l := [c.a, c.b]) (F := f102_l3 rn k h3 [iv j] h10 h11 v12 2) (σ := Unit) (fun _ _ s => s)
    (fun i _ ws g => ws = [iv i] ∧ ∃ nxs, NetH lo g nb rb xb (B0 ++ (gates c j).take (2 * i)) (room0 (B0 ++ (gates c j).take (2 * i))) nxs ∧ NFr g0 g rb xb nxs0 nxs) 4 (ws := [iv 0]) (h := g0) (s0 := ())
    ⟨rfl, nxs0, by simpa using nt, ⟨Nat.le_refl _, fun _ _ _ _ _ => rfl, fun _ h => .inl h⟩⟩ (by show 2 < k; omega)
    (fun _ ws g hI => by
      obtain ⟨rfl, _⟩ := hI
      simp only [f102_l3, gv, List.getD_cons_zero, asI_int]
      rfl)
    (fun i x _ ws g hx hI => by
      obtain ⟨rfl, nxs, n1, n2⟩ := hI
      have hi : i < 2 := (List.getElem?_eq_some_iff.1 hx).1
      have hp : ∃ p, x = p ∧ (gates c j).take (2 * i + 1) = (gates c j).take (2 * i) ++ [(at' p j, inS j, 1)] ∧ (gates c j).take (2 * (i + 1)) = (gates c j).take (2 * i) ++ [(at' p j, inS j, 1)] ++ [(outS j, at' p (j + 1), 1)] := by
        match i, hi with
        | 0, _ => simp only [List.getElem?_cons_zero, Option.some.injEq] at hx; exact ⟨c.a, hx.symm, rfl, rfl⟩
        | 1, _ => simp only [List.getElem?_cons_succ, List.getElem?_cons_zero, Option.some.injEq] at hx; exact ⟨c.b, hx.symm, rfl, rfl⟩
      obtain ⟨p, rfl, t1, t2⟩ := hp
      obtain ⟨ha, nxa, k1, m1, m2⟩ := join_k (a := (at' x j, inS j, 1)) (B := B0 ++ (gates c j).take (2 * i)) (by
        rw [List.append_assoc, ← t1]
        exact ((List.prefix_append_right_inj B0).2 (List.take_prefix _ _)).trans pre) sf hl ⟨by simp, by simp⟩ n1
      obtain ⟨hb, nxb, k2, m3, m4⟩ := join_k (a := (outS j, at' x (j + 1), 1)) (B := B0 ++ (gates c j).take (2 * i) ++ [(at' x j, inS j, 1)]) (by
        rw [List.append_assoc, List.append_assoc, ← List.append_assoc ((gates c j).take (2 * i)), ← t2]
        exact ((List.prefix_append_right_inj B0).2 (List.take_prefix _ _)).trans pre) sf hl ⟨by simp, by simp⟩ m1
      have na := n2.trans m2
      have b10 : g.blk h10.nx = some (.row (inS j).cells 113 true) := by rw [n2.blk _ lt10 ne10.1 ne10.2 no10, h10b]
      have b11 : ha.blk h11.nx = some (.row (outS j).cells 113 true) := by rw [na.blk _ lt11 ne11.1 ne11.2 no11, h11b]
      have bv : g.blk (g0.nx - 1) = some (.row [iv c.a, iv c.b] 3 true) := by rw [n2.blk _ (by omega) neV.1 neV.2 noV, hvb]
      refine ⟨[iv (i + 1 : Nat)], hb, ?_, rfl, nxb, ?_, na.trans m4⟩
      · simp only [f102_l3, gv, List.getD_cons_zero, asI_int, asK_int]
        rw [show AM.lt (i : Int) 2 = true by simp [AM.lt]; omega, ifB_true, hv]
        simp only [six]
        rw [if_pos ⟨by omega, by omega⟩]
        rw [d3, cell_of bv, show ([iv c.a, iv c.b] : List Value)[0 + ((i : Nat) : Int).toNat * 1]? = some (iv x) by
          rw [show 0 + ((i : Nat) : Int).toNat * 1 = i by omega]
          match i, hi with
          | 0, _ => simp only [List.getElem?_cons_zero, Option.some.injEq] at hx ⊢; rw [hx]
          | 1, _ => simp only [List.getElem?_cons_succ, List.getElem?_cons_zero, Option.some.injEq] at hx ⊢; rw [hx]]
        simp only [Option.bind_some, asI_int]
        rw [kSp, nx_eq, nx_eq, ldS b10, hnb]
        refine (k1 _).trans ?_
        rw [nx_eq, ldS b11, add64 (by omega) (by omega), kSp, show ((j : Int) + 1) = ((j + 1 : Nat) : Int) by omega]
        refine (k2 _).trans ?_
        rw [add64 (by omega) (by omega)]
        rfl
      · rw [t2, ← List.append_assoc, ← List.append_assoc]
        exact m3)
  exact ⟨g, nxs, ws', fun K => lp_eq e, n1, n2⟩
end
end Go.AM
end

section
namespace Go.AM
open Go.Proofs
theorem bls25_2 (x y : Int) (h : H) : buildSlice Try.prog 25 2 [(0, .int .i64 x), (1, .int .i64 y)] h = some (.slice (some ⟨h.nx, 0, none⟩) 2 2, h.new (.row [iv x, iv y] 3 true)) := by kernel_rfl
theorem st113 {h : H} {b : Nat} {x : Sp} {zs : List Value} {R : Type} {K : H → Option R} (hb : h.blk b = some (.row zs 113 true)) (hz : zs.length = 3) : st Try.prog h 113 b 0 x.val K = K (h.set b (.row x.cells 113 true)) := by
  rw [st_eq (v := x.val) (by rw [sz113]; rfl) hb (by simp [Value.cells, hz]) (by simp [Value.cells, scal])]
  have : setAt zs 0 x.val.cells.toList = x.cells := setAt_all x.cells [] zs hz
  rw [this]
/-- Which calls are gone. -/
abbrev goneD (g : Nat) : Nat → Bool := fun i => g.testBit i
theorem base_succ {n : Nat} {l : List Kl} {d : Nat → Bool} {j : Nat} : baseA n l d (j + 1) = baseA n l d j ++ chunk n l d j := by
  unfold baseA
  rw [List.range_succ, List.flatMap_append]
  simp
theorem base_pre {n : Nat} {l : List Kl} {d : Nat → Bool} {j m : Nat} (h : j ≤ m) : baseA n l d j <+: baseA n l d m := by
  induction m with
  | zero =>
    have e : j = 0 := by omega
    rw [e]
    exact List.prefix_rfl
  | succ m ih =>
    by_cases e : j = m + 1
    · subst e; exact List.prefix_rfl
    · rw [base_succ]
      exact (ih (by omega)).trans (List.prefix_append _ _)
theorem chunk_len {n : Nat} {l : List Kl} {d : Nat → Bool} {j : Nat} : (chunk n l d j).length ≤ n + 5 := by
  unfold chunk
  split
  · split <;> simp [waits, gates]
  · simp
theorem base_len {n : Nat} {l : List Kl} {d : Nat → Bool} (m : Nat) : (baseA n l d m).length ≤ m * (n + 5) := by
  induction m with
  | zero => simp [baseA]
  | succ m ih =>
    rw [base_succ, List.length_append, Nat.succ_mul]
    have := chunk_len (n := n) (l := l) (d := d) (j := m)
    omega
section
variable {lo nb rb xb : Nat} {k : Nat}
theorem f102_l1_in {n : Nat} {l : List Kl} {gone : Nat} {j : Nat} {c : Kl} (hc : l[j]? = some c) (hv : validP n l = true) (hgn : gone < 2 ^ 62) {g0 h0 h3 : H} {sl : Value} {nxs0 : List (Sp × Value)} (hk : 30 < k)
    (nt : NetH lo g0 nb rb xb (baseA n l (goneD gone) j) (room0 (baseA n l (goneD gone) j)) nxs0) (hnb : h3.nx = nb) (hs : SlR g0 56 3 sl (l.map Kl.cells)) (hbx : g0.blk h0.nx = some (.row [iv n, sl] 31 true)) (hbl : h0.nx < g0.nx) :
    ∃ g nxs, f102_l1 rn k gone h0 h3 sl l.length [iv j] g0 = some (.normal, [iv (j + 1 : Nat)], g) ∧ NetH lo g nb rb xb (baseA n l (goneD gone) (j + 1)) (room0 (baseA n l (goneD gone) (j + 1))) nxs ∧ NFr g0 g rb xb nxs0 nxs := by
  have hn := validP_ok hv
  have hjl : j < l.length := (List.getElem?_eq_some_iff.1 hc).1
  obtain ⟨hca, hcb, hcab, _⟩ := okC_iff.1 (hn.2.2.2 j c hc)
  have sf : SimpB (baseA n l (goneD gone) l.length) := base_simp fun i c' hc' => (okC_iff.1 (hn.2.2.2 i c' hc')).2.2.1
  have hfl : (baseA n l (goneD gone) l.length).length ≤ 300 := by
    refine Nat.le_trans (base_len _) (Nat.le_trans (Nat.mul_le_mul hn.2.2.1 (show n + 5 ≤ 12 by omega)) (by decide))
  have pre1 : baseA n l (goneD gone) j ++ chunk n l (goneD gone) j <+: baseA n l (goneD gone) l.length := by rw [← base_succ]; exact base_pre hjl
  have hch : chunk n l (goneD gone) j = waits n j ++ if goneD gone j then [] else gates c j := by unfold chunk; rw [hc]
  -- a copy of the call
  have x7 := (Ext.refl g0).fresh 56 [iv 0, iv 0, iv 0] c.cells
  have hcb7 := blk_fresh g0 56 [iv 0, iv 0, iv 0] c.cells
  generalize e7 : g0.fresh 56 [iv 0, iv 0, iv 0] c.cells = h7 at x7 hcb7
  have n7 : h7.nx = g0.nx + 1 := by rw [← e7]; rfl
  have hbx7 : h7.blk h0.nx = some (.row [iv n, sl] 31 true) := by rw [x7.blk _ hbl, hbx]
  obtain ⟨g1, nxs1, ws1, k1, m1, f1⟩ := f102_l2_in (n := n) (j := j) (B0 := baseA n l (goneD gone) j) (h3 := h3) (k := k) sf hfl (by
    rw [hch, ← List.append_assoc] at pre1
    exact (List.prefix_append _ _).trans pre1) (by omega) (by omega) (by omega) (nt.ext x7) hnb
  have hwl : (waits n j).length = n := by simp [waits]
  -- what the loop has left
  have no0 : ∀ {q : Nat} {L : List Value} {e : TypeId} {w : Bool}, g0.blk q = some (.row L e w) → e ≠ 113 → ¬ Own nxs0 q := fun h1 h2 => nt.next.notOwn fun L' h3 => by rw [h1] at h3; cases h3; exact h2 rfl
  have nocb : ¬ Own nxs0 g0.nx := fun h => by have := (nt.next.lt h).2.1; omega
  have nb7 := (nt.ext x7).rowNe hcb7
  have cb1 : g1.blk g0.nx = some (.row c.cells 56 true) := by rw [f1.blk _ (by omega) nb7.1 nb7.2 nocb, hcb7]
  have head : ∀ {r : Option (Ex × List Value × H)}, (∀ (b : Bool), ifB ((goneD gone j)) (out .normal [iv (j + 1 : Nat)] g1) (
      bld Try.prog 113 [(0, (.int .i64 0)), (1, iv (j + 1 : Nat)), (2, (.bool true))] fun v8 =>
          bld Try.prog 113 [(0, (.int .i64 1)), (1, iv (j + 1 : Nat)), (2, (.bool true))] fun v9 =>
          al g1 113 [(.int .i64 0), (.int .i64 0), (.bool false)] fun h11 =>
          al h11 113 [(.int .i64 0), (.int .i64 0), (.bool false)] fun h12 =>
          st Try.prog h12 113 (AM.nx g1) 0 v8 fun h13 =>
          st Try.prog h13 113 (AM.nx h11) 0 v9 fun h14 =>
          ld Try.prog h14 3 (AM.nx g0) 0 fun v10 =>
          asI .i64 v10 fun n12 =>
          ld Try.prog h14 3 (AM.nx g0) (off 0 1) fun v11 =>
          asI .i64 v11 fun n13 =>
          bls Try.prog h14 25 2 [(0, (.int .i64 n12)), (1, (.int .i64 n13))] fun v12 h15 =>
          len v12 fun n14 =>
          lp k (f102_l3 rn k h3 [iv j] g1 h11 v12 n14) [(.int .i64 0)] h15 fun e1 _ h19 =>
          onE e1 4 (
            ld Try.prog h19 113 (AM.nx g1) 0 fun v20 =>
            ld Try.prog h19 113 (AM.nx h11) 0 fun v21 =>
            calls rn h19 113 [(pt (AM.nx h3) 0), v20, v21, (.int .i64 1)] fun _ h20 =>
            out .normal [iv (j + 1 : Nat)] h20) (
            none)) = r) → f102_l1 rn k gone h0 h3 sl l.length [iv j] g0 = r := by
    intro r hr
    unfold f102_l1
    simp only [gv, List.getD_cons_zero, asI_int, asK_int]
    rw [lt_t (by omega), ifB_true, hs.ldA ag56 sz56 (by omega) (x := c.cells) (by simp [hc]), al_st (zs := [iv 0, iv 0, iv 0]) (xs := c.cells) sz56 rfl rfl, e7, nx_eq, d3, cell_of hbx7]
    simp only [List.getElem?_cons_zero, Option.bind_some, asI_int]
    rw [k1, onE_exit, if_pos rfl]
    unfold AM.nn
    rw [if_neg (by omega), bit_nat (by omega) (by omega), add64 (by omega) (by omega)]
    have := hr true
    rw [← this, show ((j : Int) + 1) = ((j + 1 : Nat) : Int) by omega]
    congr 1
    unfold goneD
    cases gone.testBit j <;> rfl
  cases hd : goneD gone j with
  | true =>
    rw [hd] at hch
    simp only [if_true, List.append_nil] at hch
    rw [base_succ, hch]
    refine ⟨g1, nxs1, head fun _ => by rw [hd, ifB_true]; rfl, m1, (NFr.ext x7).trans f1⟩
  | false =>
    rw [hd] at hch
    simp only [Bool.false_eq_true, if_false] at hch
    rw [base_succ, hch]
    rw [hch] at pre1
    -- the ends of the call
    generalize e11 : g1.new (.row [iv 0, iv 0, .bool false] 113 true) = h11
    generalize e12 : h11.new (.row [iv 0, iv 0, .bool false] 113 true) = h12
    generalize e13 : h12.set g1.nx (.row (inS j).cells 113 true) = h13
    generalize e14 : h13.set h11.nx (.row (outS j).cells 113 true) = h14
    generalize e15 : h14.new (.row [iv c.a, iv c.b] 3 true) = h15
    have n11 : h11.nx = g1.nx + 1 := by rw [← e11]; rfl
    have n14 : h14.nx = g1.nx + 2 := by rw [← e14, ← e13, ← e12]; show h11.nx + 1 = _; omega
    have n15 : h15.nx = g1.nx + 3 := by rw [← e15]; show h14.nx + 1 = _; omega
    have b12 : h12.blk g1.nx = some (.row [iv 0, iv 0, .bool false] 113 true) := by rw [← e12, blk_new, if_neg (by omega), ← e11, blk_new, if_pos rfl]
    have b13 : h13.blk h11.nx = some (.row [iv 0, iv 0, .bool false] 113 true) := by
      rw [← e13]
      show (if h11.nx = g1.nx then _ else h12.blk h11.nx) = _
      rw [if_neg (by omega), ← e12, blk_new, if_pos rfl]
    have bi14 : h14.blk g1.nx = some (.row (inS j).cells 113 true) := by
      rw [← e14]
      show (if g1.nx = h11.nx then _ else h13.blk g1.nx) = _
      rw [if_neg (by omega), ← e13]
      show (if g1.nx = g1.nx then _ else _) = _
      rw [if_pos rfl]
    have bo14 : h14.blk h11.nx = some (.row (outS j).cells 113 true) := by
      rw [← e14]
      show (if h11.nx = h11.nx then _ else _) = _
      rw [if_pos rfl]
    have x14 : Ext g1 h14 := ⟨by omega, fun q hq => by
      rw [← e14]
      show (if q = h11.nx then _ else h13.blk q) = _
      rw [if_neg (by omega), ← e13]
      show (if q = g1.nx then _ else h12.blk q) = _
      rw [if_neg (by omega), ← e12, blk_new, if_neg (by omega), ← e11, blk_new, if_neg (by omega)]⟩
    have x15 : Ext h14 h15 := by rw [← e15]; exact .new _ _
    have x1 := x14.trans x15
    have cb14 : h14.blk g0.nx = some (.row c.cells 56 true) := by rw [x14.blk _ (by have := f1.nx; omega), cb1]
    have bi15 : h15.blk g1.nx = some (.row (inS j).cells 113 true) := by rw [x15.blk _ (by omega), bi14]
    have bo15 : h15.blk h11.nx = some (.row (outS j).cells 113 true) := by rw [x15.blk _ (by omega), bo14]
    have bv15 : h15.blk (h15.nx - 1) = some (.row [iv c.a, iv c.b] 3 true) := by rw [show h15.nx - 1 = h14.nx by omega, ← e15, blk_new, if_pos rfl]
    have noi : ¬ Own nxs1 g1.nx := fun h => by have := (m1.next.lt h).2.1; omega
    have noo : ¬ Own nxs1 h11.nx := fun h => by have := (m1.next.lt h).2.1; omega
    have m15 := m1.ext x1
    obtain ⟨g2, nxs2, ws2, k2, m2, f2⟩ := f102_l3_in (c := c) (j := j) (h3 := h3) (h10 := g1) (h11 := h11) (k := k) sf hfl (by rw [List.append_assoc]; exact pre1) (by omega) (by omega) m15 hnb bi15 bo15 (by omega) (by omega) noi noo
      (v12 := .slice (some ⟨h14.nx, 0, none⟩) 2 2) (by rw [show h15.nx - 1 = h14.nx by omega]) bv15
    have gi := m15.rowNe bi15
    have go := m15.rowNe bo15
    have bi2 : g2.blk g1.nx = some (.row (inS j).cells 113 true) := by rw [f2.blk _ (by omega) gi.1 gi.2 noi, bi15]
    have bo2 : g2.blk h11.nx = some (.row (outS j).cells 113 true) := by rw [f2.blk _ (by omega) go.1 go.2 noo, bo15]
    have tk : gates c j = (gates c j).take 4 ++ [(inS j, outS j, 1)] := rfl
    obtain ⟨g3, nxs3, k3, m3, f3⟩ := join_k (a := (inS j, outS j, 1)) (B := baseA n l (goneD gone) j ++ waits n j ++ (gates c j).take 4) (by
      rw [List.append_assoc, ← tk, List.append_assoc]; exact pre1) sf hfl ⟨by simp, by simp⟩ m2
    refine ⟨g3, nxs3, head fun _ => ?_, ?_, (((NFr.ext x7).trans f1).trans (NFr.ext x1)).trans (f2.trans f3)⟩
    · rw [hd, ifB_false, kSp, kSp, al_eq, e11, al_eq, e12, nx_eq, nx_eq, nx_eq, nx_eq]
      rw [st113 (x := ⟨0, ((j + 1 : Nat) : Int), true⟩) b12 rfl, show (⟨0, ((j + 1 : Nat) : Int), true⟩ : Sp) = inS j by simp, e13]
      rw [st113 (x := ⟨1, ((j + 1 : Nat) : Int), true⟩) b13 rfl, show (⟨1, ((j + 1 : Nat) : Int), true⟩ : Sp) = outS j by simp, e14]
      rw [d3, cell_of cb14]
      simp only [Kl.cells, List.getElem?_cons_zero, Option.bind_some, asI_int]
      rw [d3, cell_of cb14, show off 0 1 = 1 from rfl]
      simp only [Kl.cells, List.getElem?_cons_succ, List.getElem?_cons_zero, Option.bind_some, asI_int]
      unfold bls
      rw [bls25_2]
      simp only [Option.bind_some, e15, len_slice]
      refine (k2 _).trans ?_
      rw [onE_exit, if_pos rfl, ldS bi2, ldS bo2, hnb]
      refine (k3 _).trans ?_
      rfl
    · rw [← List.append_assoc]
      rw [tk, ← List.append_assoc]
      exact m3
end
end Go.AM
end

section
namespace Go.AM
open Go.Proofs
theorem kb118 (a b : Nat) {R : Type} (K : Value → Option R) : bld Try.prog 118 [(0, .map (some a)), (1, .map (some b))] K = K (.agg #[.map (some a), .map (some b)]) := bld_some (by kernel_rfl)
theorem s102 {n : Nat} {l : List Kl} {gone : Nat} {sl : Value} {h : H} (hs : SlR h 56 3 sl (l.map Kl.cells)) (hv : validP n l = true) (hgn : gone < 2 ^ 62) :
    ∃ h' nb rb xb nxs, rn 102 #[.agg #[iv n, sl], iv gone] h = some (pt nb 0, h') ∧ NetH h.nx h' nb rb xb (baseA n l (goneD gone) l.length) (room0 (baseA n l (goneD gone) l.length)) nxs ∧ Ext h h' := by
  have hn := validP_ok hv
  obtain ⟨a, m, cp, rfl⟩ := hs.isSl
  generalize hsl : Value.slice a m cp = sl at hs
  generalize e1 : h.new (.row [iv n, sl] 31 true) = h1
  generalize e2 : h1.new (.mp [] 0) = h2
  generalize e3 : h2.new (.mp [] 0) = h3
  generalize e4 : h3.new (.row [.map (some h1.nx), .map (some h2.nx)] 118 true) = h4
  have n1 : h1.nx = h.nx + 1 := by rw [← e1]; rfl
  have n2 : h2.nx = h.nx + 2 := by rw [← e2]; show h1.nx + 1 = _; omega
  have n3 : h3.nx = h.nx + 3 := by rw [← e3]; show h2.nx + 1 = _; omega
  have n4 : h4.nx = h.nx + 4 := by rw [← e4]; show h3.nx + 1 = _; omega
  have x4 : Ext h h4 := by rw [← e4, ← e3, ← e2, ← e1]; exact (((Ext.new _ _).trans (.new _ _)).trans (.new _ _)).trans (.new _ _)
  have bx4 : h4.blk h.nx = some (.row [iv n, sl] 31 true) := by rw [← e4, blk_new, if_neg (by omega), ← e3, blk_new, if_neg (by omega), ← e2, blk_new, if_neg (by omega), ← e1, blk_new, if_pos rfl]
  have nt0 : NetH h.nx h4 h3.nx h1.nx h2.nx (baseA n l (goneD gone) 0) (room0 (baseA n l (goneD gone) 0)) [] := by
    refine ⟨?_, by omega, ?_, by omega, by omega, ⟨?_, by omega, fun u v hv => ?_, fun u _ => rfl, fun u u' v v' b hv => ?_⟩, by omega, by omega, by omega⟩
    · rw [← e4, blk_new, if_pos rfl]
    · rw [← e4, blk_new, if_neg (by omega), ← e3, blk_new, if_neg (by omega), ← e2, blk_new, if_pos rfl]; rfl
    · rw [← e4, blk_new, if_neg (by omega), ← e3, blk_new, if_pos rfl]; rfl
    · cases hv
    · cases hv
  obtain ⟨ws', g, e, e0, nxs, m1, m2⟩ := lp_for (k := 1000) (l := l) (F := f102_l1 rn 1000 gone h h3 sl l.length) (σ := Unit) (fun _ _ s => s)
    (fun i _ ws g => ws = [iv i] ∧ ∃ nxs, NetH h.nx g h3.nx h1.nx h2.nx (baseA n l (goneD gone) i) (room0 (baseA n l (goneD gone) i)) nxs ∧ NFr h4 g h1.nx h2.nx [] nxs) 0 (ws := [iv 0]) (h := h4) (s0 := ())
    ⟨rfl, [], nt0, ⟨Nat.le_refl _, fun _ _ _ _ _ => rfl, fun _ h => .inl h⟩⟩ (by omega)
    (fun _ ws g hI => by
      obtain ⟨rfl, _⟩ := hI
      simp only [f102_l1, gv, List.getD_cons_zero, asI_int]
      rw [lt_f (by omega), ifB_false]; rfl)
    (fun i c _ ws g hc hI => by
      obtain ⟨rfl, nxs, m1, m2⟩ := hI
      have no : ∀ q, ¬ Own [] q := fun q ⟨u, v, hv, _⟩ => by cases hv
      have below : ∀ q, q < h.nx + 1 → g.blk q = h4.blk q := fun q hq => m2.blk q (by omega) (by omega) (by omega) (no q)
      have hsg : SlR g 56 3 sl (l.map Kl.cells) := hs.ext ⟨by have := m2.nx; omega, fun q hq => by rw [below q (by omega), x4.blk q hq]⟩
      obtain ⟨g', nxs', f1, f2, f3⟩ := f102_l1_in (k := 1000) (h0 := h) (h3 := h3) (sl := sl) hc hv hgn (by omega) m1 rfl hsg (by rw [below _ (by omega), bx4]) (by have := m2.nx; omega)
      exact ⟨[iv (i + 1 : Nat)], g', f1, rfl, nxs', f2, m2.trans f3⟩)
  have hrun : f102 rn 1000 (.agg #[iv n, sl]) gone h = some (pt h3.nx 0, g) := by
    unfold f102
    rw [bx_eq]
    simp only [Value.cells]
    rw [e1, mkm_eq, e2, mkm_eq, e3]
    simp only [nx_eq]
    rw [kb118, bx_eq]
    simp only [Value.cells]
    rw [e4, d29, cell_of bx4, show off 0 1 = 1 from rfl]
    simp only [List.getElem?_cons_succ, List.getElem?_cons_zero, Option.bind_some]
    rw [hs.len, List.length_map, lp_eq e, onE_exit, if_pos rfl]
  have xg : Ext h g := ⟨by have := m2.nx; omega, fun q hq => by rw [m2.blk q (by omega) (by omega) (by omega) (fun ⟨u, v, hv, _⟩ => by cases hv), x4.blk q hq]⟩
  exact ⟨g, h3.nx, h1.nx, h2.nx, nxs, x102 hrun rfl, m1, xg⟩
end Go.AM
end

section
namespace Go.AM
open Go.Proofs
/-- A loop that goes on while something grows less. -/
theorem lp_meas {σ : Type} {F : List Value → H → Option (Ex × List Value × H)} (I : σ → List Value → H → Prop) (m : σ → Nat) (Q : Ex → List Value → H → Prop)
    (step : ∀ s ws h, I s ws h → ∃ e ws' h', F ws h = some (e, ws', h') ∧ ((e = .normal ∧ ∃ s', I s' ws' h' ∧ m s' < m s) ∨ (e ≠ .normal ∧ Q e ws' h'))) :
    ∀ (k : Nat) (s : σ) (ws : List Value) (h : H), m s < k → I s ws h → ∃ e ws' h', lpGo F k ws h = some (e, ws', h') ∧ Q e ws' h' := by
  intro k
  induction k with
  | zero => intro s ws h hk; omega
  | succ k ih =>
    intro s ws h hk hI
    obtain ⟨e, ws', h', e1, e2⟩ := step s ws h hI
    simp only [lpGo, e1, Option.bind_some]
    rcases e2 with ⟨rfl, s', i', lt⟩ | ⟨hne, q⟩
    · exact ih s' ws' h' (by omega) i'
    · cases e with
      | normal => exact absurd rfl hne
      | exit i => exact ⟨_, _, _, rfl, q⟩
      | ret => exact ⟨_, _, _, rfl, q⟩
/-- The keys of the map of rooms. -/
def keysA (B : List Arc) : List (Sp × Sp) := B.flatMap fun a => [(a.2.1, a.1), (a.1, a.2.1)]
theorem ks_map (B : List Arc) (r : Sp → Sp → Int) : ksA B r = (keysA B).map fun q => (q, iv (r q.1 q.2)) := by
  unfold ksA keysA
  rw [List.map_flatMap]
  rfl
theorem mem_keysA {B : List Arc} {u v : Sp} : (u, v) ∈ keysA B ↔ onA B u v := by
  unfold keysA onA
  rw [List.mem_flatMap]
  constructor
  · rintro ⟨a, ha, h⟩
    simp only [List.mem_cons, List.not_mem_nil, or_false, Prod.mk.injEq] at h
    rcases h with h | h
    · exact ⟨a, ha, .inr ⟨h.2.symm, h.1.symm⟩⟩
    · exact ⟨a, ha, .inl ⟨h.1.symm, h.2.symm⟩⟩
  · rintro ⟨a, ha, h⟩
    refine ⟨a, ha, ?_⟩
    simp only [List.mem_cons, List.not_mem_nil, or_false, Prod.mk.injEq]
    rcases h with h | h
    · exact .inr ⟨h.1.symm, h.2.symm⟩
    · exact .inl ⟨h.2.symm, h.1.symm⟩
theorem keysA_nodup {B : List Arc} (sb : SimpB B) : (keysA B).Nodup := by
  obtain ⟨pw, ne⟩ := sb
  induction B with
  | nil => exact List.nodup_nil
  | cons a B ih =>
    rw [List.pairwise_cons] at pw
    show ([(a.2.1, a.1), (a.1, a.2.1)] ++ keysA B).Nodup
    rw [List.nodup_append]
    refine ⟨?_, ih pw.2 fun b hb => ne b (List.mem_cons_of_mem _ hb), ?_⟩
    · have := ne a List.mem_cons_self
      simp only [List.nodup_cons, List.mem_cons, Prod.mk.injEq, List.not_mem_nil, or_false, not_false_eq_true, List.nodup_nil, and_true]
      exact fun h => this h.2
    · intro x hx y hy
      rintro rfl
      obtain ⟨u, v⟩ := x
      obtain ⟨b, hb, h⟩ := mem_keysA.1 hy
      have := pw.1 b hb
      unfold ApartA at this
      simp only [ne_eq, Prod.mk.injEq] at this
      simp only [List.mem_cons, List.not_mem_nil, or_false, Prod.mk.injEq] at hx
      rcases hx with ⟨h1, h2⟩ | ⟨h1, h2⟩ <;> rcases h with ⟨h3, h4⟩ | ⟨h3, h4⟩
      · exact this.2 ⟨by rw [h4, ← h2], by rw [h3, ← h1]⟩
      · exact this.1 ⟨by rw [h3, ← h2], by rw [h4, ← h1]⟩
      · exact this.1 ⟨by rw [h3, ← h1], by rw [h4, ← h2]⟩
      · exact this.2 ⟨by rw [h4, ← h1], by rw [h3, ← h2]⟩
theorem lookK_map {κ : Type} [DecidableEq κ] {f : κ → Value} : ∀ (ks : List κ) (k : κ) (i : Nat), ks.Nodup → k ∈ ks → ∃ j, ks[j]? = some k ∧ lookK (ks.map fun q => (q, f q)) k i = some (i + j, f k) := by
  intro ks
  induction ks with
  | nil => intro k i _ h; cases h
  | cons q ks ih =>
    intro k i hn hk
    rw [List.nodup_cons] at hn
    simp only [List.map_cons, lookK]
    by_cases e : k = q
    · subst e
      exact ⟨0, rfl, by rw [if_pos rfl]; rfl⟩
    · rw [if_neg e]
      obtain ⟨j, h1, h2⟩ := ih k (i + 1) hn.2 ((List.mem_cons.1 hk).resolve_left e)
      exact ⟨j + 1, by simpa using h1, by rw [h2, show i + 1 + j = i + (j + 1) by omega]⟩
theorem putK_map {κ : Type} [DecidableEq κ] {f g : κ → Value} {ks : List κ} (hn : ks.Nodup) {k : κ} (hk : k ∈ ks) {v : Value} (hv : g k = v) (ho : ∀ q, q ≠ k → g q = f q) : putK (ks.map fun q => (q, f q)) k v = ks.map fun q => (q, g q) := by
  obtain ⟨j, h1, h2⟩ := lookK_map (f := f) ks k 0 hn hk
  rw [Nat.zero_add] at h2
  unfold putK
  rw [h2]
  refine List.ext_getElem? fun i => ?_
  simp only
  rw [List.getElem?_set, List.getElem?_map, List.getElem?_map]
  by_cases e : j = i
  · subst e
    have hlt := (List.getElem?_eq_some_iff.1 h1).1
    rw [if_pos rfl, if_pos (by rw [List.length_map]; exact hlt), h1, Option.map_some, hv]
  · rw [if_neg e]
    cases hi : ks[i]? with
    | none => rfl
    | some q =>
      have : q ≠ k := by
        rintro rfl
        exact e ((List.getElem?_inj (List.getElem?_eq_some_iff.1 h1).1 hn).1 (h1.trans hi.symm))
      simp only [Option.map_some, ho q this]
/-- One room is written. -/
def updR (r : Sp → Sp → Int) (x y : Sp) (z : Int) : Sp → Sp → Int := fun u v => if u = x ∧ v = y then z else r u v
theorem ks_put {B : List Arc} (sb : SimpB B) {r : Sp → Sp → Int} {x y : Sp} (hon : onA B x y) (z : Int) : putK (ksA B r) (x, y) (iv z) = ksA B (updR r x y z) := by
  rw [ks_map, ks_map]
  refine putK_map (keysA_nodup sb) (mem_keysA.2 hon) ?_ fun q hq => ?_
  · simp [updR]
  · obtain ⟨u, v⟩ := q
    unfold updR
    rw [if_neg (fun h : u = x ∧ v = y => hq (by rw [h.1, h.2]))]
theorem upd_step {r : Sp → Sp → Int} {x y : Sp} (hxy : x ≠ y) : updR (updR r x y (r x y - 1)) y x (r y x + 1) = stepR r x y := by
  funext u v
  unfold updR stepR
  by_cases h1 : u = x ∧ v = y
  · obtain ⟨rfl, rfl⟩ := h1
    rw [if_neg (fun h => hxy h.1), if_pos ⟨rfl, rfl⟩, if_pos ⟨rfl, rfl⟩]
  · by_cases h2 : u = y ∧ v = x
    · obtain ⟨rfl, rfl⟩ := h2
      rw [if_pos ⟨rfl, rfl⟩, if_neg h1, if_pos ⟨rfl, rfl⟩]
    · rw [if_neg h2, if_neg h1, if_neg h1, if_neg h2]
/-- m[k]++ and the like, where the entry is there. -/
theorem men_est {κ : Type} [DecidableEq κ] {P : Program} {kt vt t : TypeId} {enc : κ → Value} {h : H} {b : Nat} {kv : List (κ × Value)} {k : κ} {R : Type} {z v0 v : Value} (q : Key P kt enc) (ht : P.underlying t = some (.map kt vt)) (hz : zero? P vt = some z)
    (hb : h.blk b = some (mpOf enc kv)) (hk : valK kv k = some v0) (K : H → Option R) :
    (men P h t (.map (some b)) (enc k) fun v1 h1 => ck (twm (.map (some b)) (.map (some b))) (ext v1 1 fun v2 => asI .i64 v2 fun n => est h1 (.map (some b)) (.int .i64 n) v K)) = K ((h.set b (mpOf enc kv)).set b (mpOf enc (putK kv k v))) := by
  rw [men_of q ht hz hb]
  unfold valK at hk
  obtain ⟨⟨i, v1⟩, hl, rfl⟩ := Option.map_eq_some_iff.1 hk
  obtain ⟨j, h1, h2⟩ := lookK_some kv 0 _ hl
  simp only [Nat.zero_add] at h1
  subst h1
  rw [hl]
  simp only [twm, beq_self_eq_true, ck_true, ext, show (#[v1, Value.int .i64 (i : Nat)] : Array Value)[1]? = some (.int .i64 (i : Nat)) from rfl, Option.bind_some, asI_int]
  rw [est_of (h := h.set b (mpOf enc kv)) (kv := kv) (by show (if b = b then _ else _) = _; rw [if_pos rfl]) h2]
  unfold putK
  rw [hl]
end Go.AM
end

section
namespace Go.AM
open Go.Proofs
/-- From where each spot was reached, in order. -/
abbrev kvF (fr : List (Sp × Sp)) : List (Sp × Value) := fr.map fun q => (q.1, q.2.val)
structure FrOk (B : List Arc) (S : Sp) (fr : List (Sp × Sp)) : Prop where
  nd : (fr.map (·.1)).Nodup
  h0 : fr[0]? = some (S, S)
  back : ∀ (i : Nat) (y x : Sp), 1 ≤ i → fr[i]? = some (y, x) → onA B x y ∧ ∃ (i' : Nat) (x' : Sp), i' < i ∧ fr[i']? = some (x, x')
theorem valK_fr {fr : List (Sp × Sp)} (hn : (fr.map (·.1)).Nodup) {i : Nat} {y x : Sp} (h : fr[i]? = some (y, x)) : valK (kvF fr) y = some x.val := by
  have go : ∀ (fr : List (Sp × Sp)) (i j : Nat), (fr.map (·.1)).Nodup → fr[i]? = some (y, x) → (lookK (kvF fr) y j).map (·.2) = some x.val := by
    intro fr
    induction fr with
    | nil => intro i j _ h; simp at h
    | cons q fr ih =>
      intro i j hn h
      rw [List.map_cons, List.nodup_cons] at hn
      simp only [kvF, List.map_cons, lookK]
      cases i with
      | zero =>
        simp only [List.getElem?_cons_zero, Option.some.injEq] at h
        subst h
        simp
      | succ i =>
        rw [List.getElem?_cons_succ] at h
        have hne : y ≠ q.1 := by
          rintro rfl
          exact hn.1 (List.mem_map.2 ⟨_, List.mem_of_getElem? h, rfl⟩)
        rw [if_neg hne]
        exact ih i (j + 1) hn.2 h
  exact go fr i 0 hn h
theorem kEq (x y : Sp) {R : Type} (K : Bool → Option R) : eqv Try.prog 113 x.val y.val K = K (decide (x = y)) := by
  unfold eqv
  rw [show binOp Try.prog .eql 113 x.val y.val = (eqV Try.prog 10 113 x.val y.val).map Value.bool by kernel_rfl, eqS 10 _ _ (.inl rfl)]
  rfl
structure TurnI (lo nb rb xb fb sb yb : Nat) (B : List Arc) (k : Nat) (S T : Sp) (fr : List (Sp × Sp)) (nxs : List (Sp × Value)) (g0 : H) (i : Nat) (r : Sp → Sp → Int) (cur x : Sp) (g : H) : Prop where
  net : NetH lo g nb rb xb B r nxs
  aug : AugOk B r k S T cur
  at_ : fr[i]? = some (cur, x)
  pos : ∀ (j : Nat) (y x : Sp), 1 ≤ j → j ≤ i → fr[j]? = some (y, x) → 1 ≤ r x y
  small : ∀ u v, onA B u v → 0 ≤ r u v ∧ r u v ≤ 1000
  yB : g.blk yb = some (.row cur.cells 113 true)
  sB : g.blk sb = some (.row S.cells 113 true)
  fB : g.blk fb = some (mpOf Sp.val (kvF fr))
  nx : g.nx = g0.nx
  frm : ∀ c, c ≠ rb → c ≠ yb → g.blk c = g0.blk c
theorem small_of {B : List Arc} {r : Sp → Sp → Int} {k : Nat} {S T cur : Sp} (f : AugOk B r k S T cur) (hc : ∀ a ∈ B, a.2.2 ≤ 1000) (u v : Sp) (h : onA B u v) : 0 ≤ r u v ∧ r u v ≤ 1000 := by
  obtain ⟨a, ha, h⟩ := h
  have h1 := f.nn a ha
  have h2 := hc a ha
  rcases h with ⟨rfl, rfl⟩ | ⟨rfl, rfl⟩ <;> omega
theorem turn_step {lo nb rb xb fb sb yb : Nat} {B : List Arc} {k kk : Nat} {S T : Sp} {fr : List (Sp × Sp)} {nxs : List (Sp × Value)} {g0 : H} (sbB : SimpB B) (hc : ∀ a ∈ B, a.2.2 ≤ 1000) (fo : FrOk B S fr)
    {h0 h2 h7 : H} (hh0 : h0.nx = sb) (hh2 : h2.nx = fb) (hh7 : h7.nx = yb) (hfb : fb ≠ rb ∧ fb ≠ yb) (hsb : sb ≠ rb ∧ sb ≠ yb) (hyr : yb ≠ rb) (hyn : yb ≠ nb ∧ yb ≠ xb ∧ ¬ Own nxs yb)
    {i : Nat} {r : Sp → Sp → Int} {cur x : Sp} {g : H} (t : TurnI lo nb rb xb fb sb yb B k S T fr nxs g0 i r cur x g) (hcur : cur ≠ S) :
    ∃ g' i' x', f103_l3 rn kk (pt nb 0) h0 h2 h7 [] g = some (.normal, [], g') ∧ i' < i ∧ TurnI lo nb rb xb fb sb yb B k S T fr nxs g0 i' (stepR r x cur) x x' g' := by
  obtain ⟨nr1, nr2, nr3, nr4⟩ := t.net.nr
  have hi1 : 1 ≤ i := by
    refine Nat.one_le_iff_ne_zero.2 fun e => hcur ?_
    have := t.at_
    rw [e, fo.h0] at this
    simp only [Option.some.injEq, Prod.mk.injEq] at this
    exact this.1.symm
  obtain ⟨hon, i', x', hlt, hx'⟩ := fo.back i cur x hi1 t.at_
  have onS : onA B cur x := by obtain ⟨a, h1, h2⟩ := hon; exact ⟨a, h1, h2.symm⟩
  have hxy : x ≠ cur := by
    obtain ⟨a, ha, h⟩ := hon
    have := sbB.ne a ha
    rcases h with ⟨h1, h2⟩ | ⟨h1, h2⟩
    · rw [← h1, ← h2]; exact this
    · rw [← h1, ← h2]; exact Ne.symm this
  have hr1 := t.pos i cur x hi1 (Nat.le_refl _) t.at_
  have sm1 := t.small x cur hon
  have sm2 := t.small cur x onS
  have hf := valK_fr fo.nd t.at_
  have rm := t.net.rm
  have v1 := (valK_ks B r x cur).1 hon
  generalize e1 : (g.set rb (mpOf encA (ksA B r))).set rb (mpOf encA (putK (ksA B r) (x, cur) (iv (r x cur - 1)))) = g1
  have b1 : ∀ c, c ≠ rb → g1.blk c = g.blk c := fun c hc => by
    rw [← e1]
    show (if c = rb then _ else (if c = rb then _ else _)) = _
    rw [if_neg hc, if_neg hc]
  have rm1 : g1.blk rb = some (mpOf encA (ksA B (updR r x cur (r x cur - 1)))) := by
    rw [← e1, ks_put sbB hon]
    show (if rb = rb then _ else _) = _
    rw [if_pos rfl]
  have v2 := (valK_ks B (updR r x cur (r x cur - 1)) cur x).1 onS
  have eu : updR r x cur (r x cur - 1) cur x = r cur x := by unfold updR; rw [if_neg fun h => hxy h.1.symm]
  rw [eu] at v2
  generalize e2 : (g1.set rb (mpOf encA (ksA B (updR r x cur (r x cur - 1))))).set rb (mpOf encA (putK (ksA B (updR r x cur (r x cur - 1))) (cur, x) (iv (r cur x + 1)))) = g2
  have b2 : ∀ c, c ≠ rb → g2.blk c = g.blk c := fun c hc => by
    rw [← e2]
    show (if c = rb then _ else (if c = rb then _ else g1.blk c)) = _
    rw [if_neg hc, if_neg hc, b1 c hc]
  have rm2 : g2.blk rb = some (mpOf encA (ksA B (stepR r x cur))) := by
    rw [← e2, ks_put sbB onS, upd_step hxy]
    show (if rb = rb then _ else _) = _
    rw [if_pos rfl]
  generalize e3 : g2.set yb (.row x.cells 113 true) = g3
  have b3 : ∀ c, c ≠ rb → c ≠ yb → g3.blk c = g.blk c := fun c hc hy => by
    rw [← e3]
    show (if c = yb then _ else g2.blk c) = _
    rw [if_neg hy, b2 c hc]
  have n3 : g3.nx = g.nx := by rw [← e3, ← e2, ← e1]; rfl
  have aug' := t.aug.step sbB hon hr1
  refine ⟨g3, i', x', ?_, hlt, ⟨⟨?_, by rw [n3]; exact t.net.nlt, ?_, by rw [n3]; exact t.net.rlt, t.net.ne, ?_, t.net.los⟩, aug', hx', fun j y z hj1 hj2 hj => ?_, small_of aug' hc, ?_, ?_, ?_, by rw [n3, t.nx], fun c c1 c2 => by rw [b3 c c1 c2, t.frm c c1 c2]⟩⟩
  · unfold f103_l3
    simp only [nx_eq, hh0, hh2, hh7]
    rw [ldS t.yB, ldS t.sB, kEq, decide_eq_false hcur]
    simp only [Bool.not_false, ifB_true, AM.nil, asP_ptr]
    rw [d115, cell_of t.net.str]
    simp only [List.getElem?_cons_zero, Option.bind_some]
    rw [ldS t.yB, lok_of0 keyS under133 zero113 t.fB, hf]
    simp only [Option.getD_some]
    rw [ldS t.yB, kA, lok_of0 keyA under115 zero3 rm, v1]
    simp only [Option.getD_some, asI_int]
    rw [sub64 (by omega) (by omega)]
    refine (men_est keyA under115 zero3 rm v1 _).trans ?_
    rw [e1]
    rw [d115, cell_of (by rw [b1 _ nr1]; exact t.net.str)]
    simp only [List.getElem?_cons_zero, Option.bind_some]
    rw [ldS (by rw [b1 _ hyr]; exact t.yB), ldS (by rw [b1 _ hyr]; exact t.yB), lok_of0 keyS under133 zero113 (by rw [b1 _ hfb.1]; exact t.fB), hf]
    simp only [Option.getD_some]
    rw [kA, lok_of0 keyA under115 zero3 rm1, v2]
    simp only [Option.getD_some, asI_int]
    rw [add64 (by omega) (by omega)]
    refine (men_est keyA under115 zero3 rm1 v2 _).trans ?_
    rw [e2, ldS (by rw [b2 _ hyr]; exact t.yB), lok_of0 keyS under133 zero113 (by rw [b2 _ hfb.1]; exact t.fB), hf]
    simp only [Option.getD_some]
    rw [st113 (by rw [b2 _ hyr]; exact t.yB) rfl, e3]
    rfl
  · rw [b3 _ nr1 (Ne.symm hyn.1), t.net.str]
  · rw [← e3]
    show (if rb = yb then _ else g2.blk rb) = _
    rw [if_neg (Ne.symm hyr), rm2]
  · exact t.net.next.keep (by omega) (b3 _ (Ne.symm t.net.ne) (Ne.symm hyn.2.1)) fun c hc => b3 c (fun e => nr4 (by rw [← e]; exact hc)) (fun e => hyn.2.2 (by rw [← e]; exact hc))
  · have h1 := t.pos j y z hj1 (by omega) hj
    refine Int.le_trans h1 (step_other fun h => ?_)
    obtain ⟨rfl, rfl⟩ := h
    have h2 : (fr.map (·.1))[j]? = some y := by rw [List.getElem?_map, hj]; rfl
    have h3 : (fr.map (·.1))[i]? = some y := by rw [List.getElem?_map, t.at_]; rfl
    have := (List.getElem?_inj (List.getElem?_eq_some_iff.1 h2).1 fo.nd).1 (h2.trans h3.symm)
    omega
  · rw [← e3]
    show (if yb = yb then _ else _) = _
    rw [if_pos rfl]
  · rw [b3 _ hsb.1 hsb.2, t.sB]
  · rw [b3 _ hfb.1 hfb.2, t.fB]
theorem turn_all {lo nb rb xb fb sb yb : Nat} {B : List Arc} {k kk : Nat} {S T : Sp} {fr : List (Sp × Sp)} {nxs : List (Sp × Value)} {g0 : H} (sbB : SimpB B) (hc : ∀ a ∈ B, a.2.2 ≤ 1000) (fo : FrOk B S fr)
    {h0 h2 h7 : H} (hh0 : h0.nx = sb) (hh2 : h2.nx = fb) (hh7 : h7.nx = yb) (hfb : fb ≠ rb ∧ fb ≠ yb) (hsb : sb ≠ rb ∧ sb ≠ yb) (hyr : yb ≠ rb) (hyn : yb ≠ nb ∧ yb ≠ xb ∧ ¬ Own nxs yb)
    {i : Nat} {r : Sp → Sp → Int} {cur x : Sp} {g : H} (t : TurnI lo nb rb xb fb sb yb B k S T fr nxs g0 i r cur x g) (hk : i < kk) :
    ∃ g' r', (∀ {R : Type} (K : Ex → List Value → H → Option R), lp kk (f103_l3 rn kk (pt nb 0) h0 h2 h7) [] g K = K (.exit 4) [] g') ∧ NetH lo g' nb rb xb B r' nxs ∧ FlowOk B r' (k + 1) S T ∧ g'.nx = g0.nx ∧ ∀ c, c ≠ rb → c ≠ yb → g'.blk c = g0.blk c := by
  obtain ⟨e, ws, g', e1, rfl, rfl, r', h1, h2', h3, h4⟩ := lp_meas (F := f103_l3 rn kk (pt nb 0) h0 h2 h7) (σ := Nat × (Sp → Sp → Int) × Sp × Sp)
    (fun s ws g => ws = [] ∧ TurnI lo nb rb xb fb sb yb B k S T fr nxs g0 s.1 s.2.1 s.2.2.1 s.2.2.2 g) (fun s => s.1)
    (fun e ws g' => e = .exit 4 ∧ ws = [] ∧ ∃ r', NetH lo g' nb rb xb B r' nxs ∧ FlowOk B r' (k + 1) S T ∧ g'.nx = g0.nx ∧ ∀ c, c ≠ rb → c ≠ yb → g'.blk c = g0.blk c)
    (fun s ws g hI => by
      obtain ⟨i, r, cur, x⟩ := s
      obtain ⟨rfl, t⟩ := hI
      simp only at t
      by_cases hcur : cur = S
      · subst hcur
        refine ⟨.exit 4, [], g, ?_, .inr ⟨by simp, rfl, rfl, r, t.net, t.aug.done, t.nx, t.frm⟩⟩
        unfold f103_l3
        simp only [nx_eq, hh0, hh7]
        rw [ldS t.yB, ldS t.sB, kEq]
        simp [ifB, out]
      · obtain ⟨g', i', x', h1, h2, h3⟩ := turn_step (kk := kk) sbB hc fo hh0 hh2 hh7 hfb hsb hyr hyn t hcur
        exact ⟨.normal, [], g', h1, .inl ⟨rfl, (i', _, x, x'), ⟨rfl, h3⟩, h2⟩⟩) kk (i, r, cur, x) [] g hk ⟨rfl, t⟩
  exact ⟨g', r', fun K => lp_eq e1, h1, h2', h3, h4⟩
end Go.AM
end

section
namespace Go.AM
open Go.Proofs
/-- The search: what was reached (and from where), what is done, what waits. -/
structure Bfs (B : List Arc) (r : Sp → Sp → Int) (S T : Sp) (fr : List (Sp × Sp)) (dn q : List Sp) : Prop where
  fo : FrOk B S fr
  keys : fr.map (·.1) = dn ++ q
  pos : ∀ (i : Nat) (y x : Sp), 1 ≤ i → fr[i]? = some (y, x) → 1 ≤ r x y
  noT : T ∉ fr.map (·.1)
  cl : ∀ u ∈ dn, ∀ y ∈ nbrs B u, y ∈ fr.map (·.1) ∨ r u y = 0
theorem mem_nbrs {B : List Arc} {u v : Sp} : v ∈ nbrs B u ↔ onA B u v := by
  unfold nbrs onA
  rw [List.mem_flatMap]
  constructor
  · rintro ⟨a, ha, h⟩
    refine ⟨a, ha, ?_⟩
    rcases List.mem_append.1 h with h | h
    · split at h
      · rename_i e; exact .inl ⟨e, (List.mem_singleton.1 h).symm⟩
      · cases h
    · split at h
      · rename_i e; exact .inr ⟨(List.mem_singleton.1 h).symm, e⟩
      · cases h
  · rintro ⟨a, ha, h⟩
    refine ⟨a, ha, ?_⟩
    rcases h with ⟨h1, h2⟩ | ⟨h1, h2⟩
    · exact List.mem_append_left _ (by rw [if_pos h1]; simp [h2])
    · exact List.mem_append_right _ (by rw [if_pos h2]; simp [h1])
theorem Bfs.init {B : List Arc} {r : Sp → Sp → Int} {S T : Sp} (h : S ≠ T) : Bfs B r S T [(S, S)] [] [S] where
  fo := ⟨by simp, rfl, fun i y x hi h => by
    match i, hi with
    | i + 1, _ => simp at h⟩
  keys := rfl
  pos i y x hi h := by
    match i, hi with
    | i + 1, _ => simp at h
  noT := by simpa using Ne.symm h
  cl u hu := by cases hu
theorem FrOk.snoc {B : List Arc} {S : Sp} {fr : List (Sp × Sp)} (fo : FrOk B S fr) {u y : Sp} (hu : u ∈ fr.map (·.1)) (hy : y ∉ fr.map (·.1)) (hon : onA B u y) : FrOk B S (fr ++ [(y, u)]) where
  nd := by
    rw [List.map_append, List.nodup_append]
    refine ⟨fo.nd, by simp, fun a ha b hb => ?_⟩
    simp only [List.map_cons, List.map_nil, List.mem_singleton] at hb
    subst hb
    rintro rfl
    exact hy ha
  h0 := by
    have := (List.getElem?_eq_some_iff.1 fo.h0).1
    rw [List.getElem?_append_left this]
    exact fo.h0
  back i y' x' hi h := by
    by_cases hl : i < fr.length
    · rw [List.getElem?_append_left hl] at h
      obtain ⟨h1, i', x2, h2, h3⟩ := fo.back i y' x' hi h
      exact ⟨h1, i', x2, h2, by rw [List.getElem?_append_left (by omega)]; exact h3⟩
    · have : i = fr.length := by have := (List.getElem?_eq_some_iff.1 h).1; simp at this; omega
      subst this
      rw [List.getElem?_append_right (Nat.le_refl _)] at h
      simp only [Nat.sub_self, List.getElem?_cons_zero, Option.some.injEq, Prod.mk.injEq] at h
      obtain ⟨rfl, rfl⟩ := h
      refine ⟨hon, ?_⟩
      obtain ⟨q, hq, e⟩ := List.mem_map.1 hu
      obtain ⟨i', hi', e2⟩ := List.getElem_of_mem hq
      refine ⟨i', q.2, hi', ?_⟩
      rw [List.getElem?_append_left hi', List.getElem?_eq_getElem hi', e2, ← e]
/-- One spot more is reached. -/
theorem Bfs.add {B : List Arc} {r : Sp → Sp → Int} {S T : Sp} {fr : List (Sp × Sp)} {dn q : List Sp} (b : Bfs B r S T fr dn q) {u y : Sp} (hu : u ∈ q) (hy : y ∉ fr.map (·.1)) (hon : y ∈ nbrs B u) (hr : 1 ≤ r u y) (hT : y ≠ T) :
    Bfs B r S T (fr ++ [(y, u)]) dn (q ++ [y]) where
  fo := b.fo.snoc (by rw [b.keys]; exact List.mem_append_right _ hu) hy (mem_nbrs.1 hon)
  keys := by rw [List.map_append, b.keys, List.append_assoc]; rfl
  pos i y' x' hi h := by
    by_cases hl : i < fr.length
    · rw [List.getElem?_append_left hl] at h
      exact b.pos i y' x' hi h
    · have : i = fr.length := by have := (List.getElem?_eq_some_iff.1 h).1; simp at this; omega
      subst this
      rw [List.getElem?_append_right (Nat.le_refl _)] at h
      simp only [Nat.sub_self, List.getElem?_cons_zero, Option.some.injEq, Prod.mk.injEq] at h
      obtain ⟨rfl, rfl⟩ := h
      exact hr
  noT := by
    rw [List.map_append]
    intro h
    rcases List.mem_append.1 h with h | h
    · exact b.noT h
    · simp at h; exact hT h.symm
  cl u' hu' y' hy' := (b.cl u' hu' y' hy').imp (fun h => by rw [List.map_append]; exact List.mem_append_left _ h) id
/-- A spot is done. -/
theorem Bfs.next {B : List Arc} {r : Sp → Sp → Int} {S T : Sp} {fr : List (Sp × Sp)} {dn q : List Sp} {u : Sp} (b : Bfs B r S T fr dn (u :: q)) (h : ∀ y ∈ nbrs B u, y ∈ fr.map (·.1) ∨ r u y = 0) : Bfs B r S T fr (dn ++ [u]) q where
  fo := b.fo
  keys := by rw [b.keys, List.append_assoc]; rfl
  pos := b.pos
  noT := b.noT
  cl u' hu' := by
    rcases List.mem_append.1 hu' with h' | h'
    · exact b.cl u' h'
    · simp at h'; rw [h']; exact h
/-- Nothing waits any more: the cut is full. -/
theorem Bfs.fail {B : List Arc} {r : Sp → Sp → Int} {S T : Sp} {fr : List (Sp × Sp)} {dn : List Sp} (b : Bfs B r S T fr dn []) :
    ∃ R : Sp → Bool, R S = true ∧ R T = false ∧ ∀ a ∈ B, (R a.1 = true → R a.2.1 = false → r a.1 a.2.1 = 0) ∧ (R a.2.1 = true → R a.1 = false → r a.2.1 a.1 = 0) := by
  have hk : fr.map (·.1) = dn := by rw [b.keys, List.append_nil]
  refine ⟨fun x => decide (x ∈ dn), ?_, ?_, fun a ha => ⟨fun h1 h2 => ?_, fun h1 h2 => ?_⟩⟩
  · rw [decide_eq_true_eq, ← hk]
    exact List.mem_map.2 ⟨_, List.mem_of_getElem? b.fo.h0, rfl⟩
  · rw [decide_eq_false_iff_not, ← hk]; exact b.noT
  · rw [decide_eq_true_eq] at h1
    rw [decide_eq_false_iff_not] at h2
    rcases b.cl _ h1 a.2.1 (mem_nbrs.2 ⟨a, ha, .inl ⟨rfl, rfl⟩⟩) with h | h
    · rw [hk] at h; exact absurd h h2
    · exact h
  · rw [decide_eq_true_eq] at h1
    rw [decide_eq_false_iff_not] at h2
    rcases b.cl _ h1 a.1 (mem_nbrs.2 ⟨a, ha, .inr ⟨rfl, rfl⟩⟩) with h | h
    · rw [hk] at h; exact absurd h h2
    · exact h
theorem nodup_le {α : Type} [DecidableEq α] : ∀ {l m : List α}, l.Nodup → (∀ x ∈ l, x ∈ m) → l.length ≤ m.length := by
  intro l
  induction l with
  | nil => intro m _ _; simp
  | cons x l ih =>
    intro m hn hs
    rw [List.nodup_cons] at hn
    have hx := hs x List.mem_cons_self
    have := ih (m := m.erase x) hn.2 fun y hy => by
      have hne : y ≠ x := by rintro rfl; exact hn.1 hy
      exact (List.mem_erase_of_ne hne).2 (hs y (List.mem_cons_of_mem _ hy))
    rw [List.length_erase_of_mem hx] at this
    have := List.length_pos_of_mem hx
    simp only [List.length_cons]
    omega
/-- Not more is reached than there are ends of arcs. -/
theorem Bfs.len {B : List Arc} {r : Sp → Sp → Int} {S T : Sp} {fr : List (Sp × Sp)} {dn q : List Sp} (b : Bfs B r S T fr dn q) : (dn ++ q).length ≤ 2 * B.length + 1 := by
  rw [← b.keys]
  refine Nat.le_trans (nodup_le (m := S :: B.flatMap fun a => [a.1, a.2.1]) b.fo.nd fun y hy => ?_) ?_
  · obtain ⟨p, hp, rfl⟩ := List.mem_map.1 hy
    obtain ⟨i, hi, e⟩ := List.getElem_of_mem hp
    have hg : fr[i]? = some p := by rw [List.getElem?_eq_getElem hi, e]
    by_cases h0 : i = 0
    · rw [h0, b.fo.h0] at hg
      cases hg
      exact List.mem_cons_self
    · obtain ⟨⟨a, ha, h⟩, _⟩ := b.fo.back i p.1 p.2 (by omega) hg
      refine List.mem_cons_of_mem _ (List.mem_flatMap.2 ⟨a, ha, ?_⟩)
      rcases h with ⟨_, h⟩ | ⟨h, _⟩ <;> simp [h]
  · rw [List.length_cons]
    have : ∀ B : List Arc, (B.flatMap fun a => [a.1, a.2.1]).length = 2 * B.length := by
      intro B
      induction B with
      | nil => rfl
      | cons a B ih => rw [List.flatMap_cons, List.length_append, ih, List.length_cons]; simp; omega
    rw [this]
    omega
end Go.AM
end

section
namespace Go.AM
/-- A slice that was made by a literal or by pushing, and popped at its front. -/
inductive QlR (lo : Nat) (h : H) (e : TypeId) (s : Nat) : Value → List (List Value) → Prop
  | at_ {b c : Nat} {l : List (List Value)} {pre : List Value} (hlo : lo ≤ b) (hb : b < h.nx) (hr : h.blk b = some (.row (pre ++ l.flatten) e true)) (hx : ∀ x ∈ l, x.length = s) (hm : l.length < 2 ^ 30) (hc : c = U + l.length ∨ c = l.length) :
      QlR lo h e s (.slice (some ⟨b, pre.length, none⟩) l.length c) l
theorem QlR.blkOf {lo : Nat} {h : H} {e : TypeId} {s : Nat} {v : Value} {l : List (List Value)} (a : QlR lo h e s v l) : ∃ b, AM.blkOf v = some b ∧ lo ≤ b ∧ b < h.nx ∧ ∃ cs, h.blk b = some (.row cs e true) := by
  cases a with
  | @at_ b _ _ _ hlo hb' hr hx hm => exact ⟨b, rfl, hlo, hb', _, hr⟩
theorem QlR.keep {lo : Nat} {h h' : H} {e : TypeId} {s : Nat} {v : Value} {l : List (List Value)} (a : QlR lo h e s v l) (hn : h.nx ≤ h'.nx) (hb : ∀ b, AM.blkOf v = some b → h'.blk b = h.blk b) : QlR lo h' e s v l := by
  cases a with
  | at_ hlo hb' hr hx hm hc => exact .at_ hlo (Nat.lt_of_lt_of_le hb' hn) ((hb _ rfl).trans hr) hx hm hc
theorem QlR.slR {lo : Nat} {h : H} {e : TypeId} {s : Nat} {v : Value} {l : List (List Value)} (a : QlR lo h e s v l) : SlR h e s v l := by
  cases a with
  | @at_ b c l pre hlo hb hr hx hm hc =>
    have h30 : (2:Nat) ^ 30 < U := by decide
    have hk : capK c = l.length := by
      rcases hc with rfl | rfl
      · exact capK_U _
      · unfold capK; rw [if_pos (by omega)]
    refine .at_ hb hr (by omega) (by omega) (by rw [List.length_append, flatten_len hx]; omega) fun i x hi => ⟨hx x (List.mem_of_getElem? hi), fun j hj => ?_⟩
    rw [Nat.add_assoc, List.getElem?_append_right (by omega), Nat.add_sub_cancel_left]
    exact flatten_get hx i x hi j hj
theorem QlR.lit {lo : Nat} {h : H} {e : TypeId} {s : Nat} {x : List Value} (hlo : lo ≤ h.nx) (hx : x.length = s) : QlR lo (h.new (.row x e true)) e s (.slice (some ⟨h.nx, 0, none⟩) 1 1) [x] :=
  QlR.at_ (l := [x]) (pre := []) hlo (Nat.lt_succ_self _) (by rw [blk_new_self]; simp) (by simp [hx]) (by simp) (.inr rfl)
theorem QlR.push {P : Program} {lo : Nat} {h : H} {e t t' t2 : TypeId} {s : Nat} {v xv : Value} {l : List (List Value)} {x : List Value} (a : QlR lo h e s v l) (ht : okApp P t e s = true) (ht' : okApp P t' e s = true)
    (hb : ∀ h : H, buildSlice P t2 1 [(0, xv)] h = some (.slice (some ⟨h.nx, 0, none⟩) 1 1, h.new (.row x e true))) (hx : x.length = s) (hsc : x.all scal = true) (hm : l.length + 1 < 2 ^ 30) (hlo : lo ≤ h.nx) :
    ∃ v' h', (∀ {R : Type} (K : Value → H → Option R), (bls P h t2 1 [(0, xv)] fun y h2 => AM.app P h2 t t' v y K) = K v' h') ∧ QlR lo h' e s v' (l ++ [x]) ∧ h.nx ≤ h'.nx ∧
      (∀ b, b < h.nx → AM.blkOf v ≠ some b → h'.blk b = h.blk b) ∧ ∃ b', AM.blkOf v' = some b' ∧ h.nx ≤ b' := by
  obtain ⟨i, z, h1, h2, h3, h4, h5, h6, h7⟩ := okApp_spec ht
  obtain ⟨_, _, h1', _⟩ := okApp_spec ht'
  have x0 := Ext.new h (.row x e true)
  have hsrc : srcCells s (.slice (some ⟨h.nx, 0, none⟩) 1 1) (h.new (.row x e true)) = some x := by
    simp only [srcCells, Nat.one_mul]
    rw [if_neg (by omega)]
    simp only [H.rd, blk_new_self]
    rw [if_pos (by omega)]
    simp [List.take_of_length_le (Nat.le_of_eq hx)]
  have hlen : lenOf (.slice (some ⟨h.nx, 0, none⟩) 1 1) = some 1 := rfl
  have h30 : (2:Nat) ^ 30 < U := by decide
  have fresh : ∀ (g : H) (old : List (List Value)), g.nx = h.nx + 1 → (∀ y ∈ old, y.length = s) → old.length + 1 < 2 ^ 30 →
      QlR lo (g.new (.row (old.flatten ++ x) e true)) e s (.slice (some ⟨h.nx + 1, 0, none⟩) (old.length + 1) (U + (old.length + 1))) (old ++ [x]) := by
    intro g old hg hox hom
    have := QlR.at_ (lo := lo) (h := g.new (.row (old.flatten ++ x) e true)) (e := e) (s := s) (b := h.nx + 1) (c := U + (old ++ [x]).length) (l := old ++ [x]) (pre := []) (by omega) (by rw [nx_new]; omega)
      (by rw [blk_new_at _ _ hg.symm]; simp) (by
      intro y hy
      rcases List.mem_append.1 hy with hy | hy
      · exact hox y hy
      · simp at hy; rw [hy]; exact hx) (by simpa using hom) (.inl rfl)
    rw [List.length_append] at this
    exact this
  cases a with
  | @at_ b c l pre hlob hb' hr hxl hm' hc =>
    have hr1 := (x0.blk _ hb').trans hr
    rcases hc with rfl | rfl
    · refine ⟨.slice (some ⟨h.nx + 1, 0, none⟩) (l.length + 1) (U + (l.length + 1)), ((h.new (.row x e true)).kill b).new (.row (l.flatten ++ x) e true), fun K => ?_, fresh _ l rfl hxl hm, by simp only [nx_new, nx_kill]; omega, fun b' hb'' hne => ?_, h.nx + 1, rfl, by omega⟩
      · rw [bls_some (hb h)]
        unfold AM.app append
        simp only [h1, h1', h2, h3, hlen, h4, hsrc, Option.bind_some]
        rw [if_pos ⟨h5, h6, h7⟩]
        simp only [capK_U]
        rw [if_neg (by omega), if_neg (by omega), if_pos hm, if_neg (by omega)]
        simp only [hr1, h4]
        rw [if_pos ⟨trivial, by rw [List.length_append, flatten_len hxl]; omega, hsc⟩]
        have : ((pre ++ l.flatten).drop pre.length).take (l.length * s) = l.flatten := by rw [List.drop_left, List.take_of_length_le (by rw [flatten_len hxl]; exact Nat.le_refl _)]
        rw [this]
        rfl
      · have : b' ≠ b := fun e1 => hne (by rw [e1]; rfl)
        rw [blk_new_ne _ _ (by rw [nx_kill, nx_new]; omega), blk_kill_ne _ _ this, blk_new_ne _ _ (by omega)]
    · refine ⟨.slice (some ⟨h.nx + 1, 0, none⟩) (l.length + 1) (U + (l.length + 1)), (h.new (.row x e true)).new (.row (l.flatten ++ x) e true), fun K => ?_, fresh _ l rfl hxl hm, by simp only [nx_new]; omega, fun b' hb'' hne => ?_, h.nx + 1, rfl, by omega⟩
      · rw [bls_some (hb h)]
        unfold AM.app append
        simp only [h1, h1', h2, h3, hlen, h4, hsrc, Option.bind_some]
        rw [if_pos ⟨h5, h6, h7⟩]
        have hck : capK l.length = l.length := by unfold capK; rw [if_pos (by omega)]
        simp only [hck]
        rw [if_neg (by omega), if_neg (by omega), if_pos hm, if_pos (by omega)]
        have hrd : (if l.length = 0 then some [] else (h.new (.row x e true)).rd b pre.length (l.length * s)) = some l.flatten := by
          split
          · rename_i h9
            rw [List.eq_nil_of_length_eq_zero h9]
            rfl
          · simp only [H.rd, hr1]
            rw [if_pos (by rw [List.length_append, flatten_len hxl]; omega), List.drop_left, List.take_of_length_le (by rw [flatten_len hxl]; exact Nat.le_refl _)]
        rw [hrd]
        rfl
      · rw [blk_new_ne _ _ (by rw [nx_new]; omega), blk_new_ne _ _ (by omega)]
/-- The first element is left out. -/
theorem QlR.tail {P : Program} {lo : Nat} {h : H} {e t : TypeId} {s : Nat} {v : Value} {l : List (List Value)} {x : List Value} (a : QlR lo h e s v (x :: l)) (hs0 : 0 < s) (hu : P.underlying t = some (.slice e)) (hs : size? P e = some s) :
    ∃ v', (∀ {R : Type} (K : Value → Option R), sli P h t v (some (.int .i64 1)) none none K = K v') ∧ (l ≠ [] → QlR lo h e s v' l) ∧ (l = [] → ∃ b o c, v' = .slice (some ⟨b, o, none⟩) 0 c) ∧ AM.blkOf v' = AM.blkOf v := by
  generalize hL : x :: l = L at a
  cases a with
  | @at_ b c L pre hlo hb hr hx hm hc =>
    subst hL
    have h30 : (2:Nat) ^ 30 < U := by decide
    have hxs : x.length = s := hx x (by simp)
    have hq : ∀ c', (c' = U + l.length ∨ c' = l.length) → QlR lo h e s (.slice (some ⟨b, (pre ++ x).length, none⟩) l.length c') l := fun c' hc' => .at_ hlo hb (by rw [hr]; simp) (fun y hy => hx y (by simp [hy])) (by simp at hm; omega) hc'
    have hlen : (x :: l).length = l.length + 1 := rfl
    rcases hc with rfl | rfl
    · refine ⟨.slice (some ⟨b, (pre ++ x).length, none⟩) l.length (U + l.length), fun K => ?_, fun _ => hq _ (.inl rfl), fun e => ⟨b, _, _, by rw [e]; rfl⟩, rfl⟩
      unfold sli slice
      simp only [hu, hr, capK_U]
      rw [if_pos ⟨trivial, by omega, rfl⟩]
      simp only [hs, Option.bind_some, bound]
      rw [if_pos ⟨by omega, by simp only [List.length_cons]; omega⟩]
      simp only [Option.bind_some, Option.isSome_none, Bool.false_eq_true, false_or]
      rw [if_neg (by omega)]
      simp [hxs]
    · have hck : capK (x :: l).length = (x :: l).length := by unfold capK; rw [if_pos (by omega)]
      by_cases hl : l = []
      · subst hl
        refine ⟨.slice (some ⟨b, pre.length, none⟩) 0 0, fun K => ?_, fun h => absurd rfl h, fun _ => ⟨b, _, _, rfl⟩, rfl⟩
        unfold sli slice
        simp only [hu, hr, hck]
        rw [if_pos ⟨trivial, by omega, rfl⟩]
        simp only [hs, Option.bind_some, bound]
        rw [if_pos ⟨by omega, by simp⟩]
        simp only [Option.bind_some, Option.isSome_none, Bool.false_eq_true, false_or]
        rw [if_pos (by omega)]
        simp
      · refine ⟨.slice (some ⟨b, (pre ++ x).length, none⟩) l.length l.length, fun K => ?_, fun _ => hq _ (.inr rfl), fun e => absurd e hl, rfl⟩
        have : 0 < l.length := List.length_pos_iff.2 hl
        unfold sli slice
        simp only [hu, hr, hck]
        rw [if_pos ⟨trivial, by omega, rfl⟩]
        simp only [hs, Option.bind_some, bound]
        rw [if_pos ⟨by omega, by simp only [List.length_cons]; omega⟩]
        simp only [Option.bind_some, Option.isSome_none, Bool.false_eq_true, false_or]
        rw [if_pos (by omega), if_neg (by simp; omega)]
        simp [hxs]
end Go.AM
end

section
namespace Go.AM
open Go.Proofs
/-- The heap of a search that began at g0: the boxes of both ends, the map, the queue. -/
structure BfsH (lo nb rb xb : Nat) (B : List Arc) (r : Sp → Sp → Int) (nxs : List (Sp × Value)) (S T : Sp) (g0 : H) (fr : List (Sp × Sp)) (q : List Sp) (qv : Value) (g : H) : Prop where
  net : NetH lo g0 nb rb xb B r nxs
  sB : g.blk g0.nx = some (.row S.cells 113 true)
  tB : g.blk (g0.nx + 1) = some (.row T.cells 113 true)
  fB : g.blk (g0.nx + 2) = some (mpOf Sp.val (kvF fr))
  qB : QlR (g0.nx + 3) g 113 3 qv (q.map Sp.cells)
  nx : g0.nx + 3 ≤ g.nx
  old : ∀ c, c < g0.nx → g.blk c = g0.blk c
theorem BfsH.netg {lo nb rb xb : Nat} {B : List Arc} {r : Sp → Sp → Int} {nxs : List (Sp × Value)} {S T : Sp} {g0 : H} {fr : List (Sp × Sp)} {q : List Sp} {qv : Value} {g : H} (a : BfsH lo nb rb xb B r nxs S T g0 fr q qv g) : NetH lo g nb rb xb B r nxs :=
  a.net.ext ⟨by have := a.nx; omega, a.old⟩
theorem BfsH.ext {lo nb rb xb : Nat} {B : List Arc} {r : Sp → Sp → Int} {nxs : List (Sp × Value)} {S T : Sp} {g0 : H} {fr : List (Sp × Sp)} {q : List Sp} {qv : Value} {g g' : H} (a : BfsH lo nb rb xb B r nxs S T g0 fr q qv g) (x : Ext g g') : BfsH lo nb rb xb B r nxs S T g0 fr q qv g' where
  net := a.net
  sB := by rw [x.blk _ (by have := a.nx; omega), a.sB]
  tB := by rw [x.blk _ (by have := a.nx; omega), a.tB]
  fB := by rw [x.blk _ (by have := a.nx; omega), a.fB]
  qB := a.qB.keep x.nx fun b hb => x.blk b (by obtain ⟨b', h1, _, h2, _⟩ := a.qB.blkOf; rw [hb] at h1; cases h1; exact h2)
  nx := by have := a.nx; have := x.nx; omega
  old c hc := by rw [x.blk c (by have := a.nx; omega), a.old c hc]
theorem valK_fr_none {fr : List (Sp × Sp)} {y : Sp} (h : y ∉ fr.map (·.1)) : valK (kvF fr) y = none := by
  unfold valK
  rw [Option.map_eq_none_iff, lookK_none]
  intro p hp e
  obtain ⟨q, hq, rfl⟩ := List.mem_map.1 hp
  exact h (List.mem_map.2 ⟨q, hq, e⟩)
theorem putK_fr {fr : List (Sp × Sp)} {y x : Sp} (h : y ∉ fr.map (·.1)) : putK (kvF fr) y x.val = kvF (fr ++ [(y, x)]) := by
  have : lookK (kvF fr) y 0 = none := by
    have := valK_fr_none h
    unfold valK at this
    simpa using this
  unfold putK
  rw [this]
  simp [kvF]
theorem BfsH.boxed {lo nb rb xb : Nat} {B : List Arc} {r : Sp → Sp → Int} {nxs : List (Sp × Value)} {S T : Sp} {g0 : H} {fr : List (Sp × Sp)} {q : List Sp} {qv : Value} {g : H} (a : BfsH lo nb rb xb B r nxs S T g0 fr q qv g) (y z : Sp) :
    ∃ g1 g2, (∀ {R : Type} (K : Nat → H → Nat → H → Option R), True) ∧ g.fresh 113 [iv 0, iv 0, .bool false] y.cells = g1 ∧ g1.fresh 113 [iv 0, iv 0, .bool false] z.cells = g2 ∧ g1.nx = g.nx + 1 ∧ g2.nx = g.nx + 2 ∧ g1.blk g.nx = some (.row y.cells 113 true) ∧ g2.blk g.nx = some (.row y.cells 113 true) ∧
      BfsH lo nb rb xb B r nxs S T g0 fr q qv g1 ∧ BfsH lo nb rb xb B r nxs S T g0 fr q qv g2 := by
  have x1 := (Ext.refl g).fresh 113 [iv 0, iv 0, .bool false] y.cells
  have b1 := blk_fresh g 113 [iv 0, iv 0, .bool false] y.cells
  generalize e1 : g.fresh 113 [iv 0, iv 0, .bool false] y.cells = g1 at x1 b1
  have n1 : g1.nx = g.nx + 1 := by rw [← e1]; rfl
  have x2 := (Ext.refl g1).fresh 113 [iv 0, iv 0, .bool false] z.cells
  generalize e2 : g1.fresh 113 [iv 0, iv 0, .bool false] z.cells = g2 at x2
  have n2 : g2.nx = g.nx + 2 := by rw [← e2]; show g1.nx + 1 = _; omega
  exact ⟨g1, g2, fun _ => trivial, rfl, e2, n1, n2, b1, by rw [x2.blk _ (by omega), b1], a.ext x1, (a.ext x1).ext x2⟩
theorem al_stS {h : H} (x : Sp) {R : Type} (K : H → Option R) : (al h 113 [.int .i64 0, .int .i64 0, .bool false] fun h3 => st Try.prog h3 113 (AM.nx h) 0 x.val K) = K (h.fresh 113 [iv 0, iv 0, .bool false] x.cells) :=
  al_st (zs := [iv 0, iv 0, .bool false]) (xs := x.cells) sz113 rfl rfl
/-- A neighbour that was reached before, or to which nothing more can flow. -/
theorem l2_skip {lo nb rb xb kk : Nat} {B : List Arc} {r : Sp → Sp → Int} {nxs : List (Sp × Value)} {S T : Sp} {g0 h0 h1 h2 : H} {fr : List (Sp × Sp)} {q : List Sp} {u y : Sp} {qv v9 a0 : Value} {g : H} {N : List Sp} {j : Nat}
    (hh2 : h2.nx = g0.nx + 2) (bh : BfsH lo nb rb xb B r nxs S T g0 fr (u :: q) qv g) (fo : FrOk B S fr) (hv : SlR g 113 3 v9 (N.map Sp.cells)) (hj : N[j]? = some y) (hjs : j < 1000) (hon : onA B u y) (h : y ∈ fr.map (·.1) ∨ r u y = 0) :
    ∃ g', f103_l2 rn kk (pt nb 0) h0 h1 h2 v9 N.length [a0, qv, iv j] g = some (.normal, [a0, qv, iv (j + 1 : Nat)], g') ∧ Ext g g' := by
  have hlt := (List.getElem?_eq_some_iff.1 hj).1
  have hget : (N.map Sp.cells)[((j : Nat) : Int).toNat]? = some y.cells := by rw [List.getElem?_map, Int.toNat_natCast, hj]; rfl
  by_cases hs : y ∈ fr.map (·.1)
  · obtain ⟨p, hp, rfl⟩ := List.mem_map.1 hs
    obtain ⟨i, hi, e⟩ := List.getElem_of_mem hp
    have hg : fr[i]? = some (p.1, p.2) := by rw [List.getElem?_eq_getElem hi, e]
    have hk := valK_fr fo.nd hg
    obtain ⟨g1, g2, _, e1, e2, n1, n2, b1, b2, bh1, bh2⟩ := bh.boxed p.1 p.2
    refine ⟨g2, ?_, ?_⟩
    · unfold f103_l2
      simp only [gv, List.getD_cons_zero, List.getD_cons_succ, asI_int, asK_int]
      rw [lt_t (by omega), ifB_true, hv.ldA ag113 sz113 (by omega) hget]
      rw [show (Value.agg p.1.cells.toArray) = p.1.val from rfl, al_stS, e1, nx_eq, ldS b1, nx_eq, hh2, lok_of keyS under133 zero113 bh1.fB, hk]
      simp only [ext, show (#[p.2.val, Value.bool true] : Array Value)[0]? = some p.2.val from rfl, show (#[p.2.val, Value.bool true] : Array Value)[1]? = some (Value.bool true) from rfl, Option.bind_some, asB_bool]
      rw [al_stS, e2, ifB_true, add64 (by omega) (by omega)]
      rfl
    · rw [← e2, ← e1]; exact ((Ext.refl g).fresh _ _ _).fresh _ _ _
  · have h0 := h.resolve_left hs
    have hk := valK_fr_none hs
    obtain ⟨g1, g2, _, e1, e2, n1, n2, b1, b2, bh1, bh2⟩ := bh.boxed y ⟨0, 0, false⟩
    have net2 := bh2.netg
    have v1 := (valK_ks B r u y).1 hon
    refine ⟨g2, ?_, ?_⟩
    · unfold f103_l2
      simp only [gv, List.getD_cons_zero, List.getD_cons_succ, asI_int, asK_int]
      rw [lt_t (by omega), ifB_true, hv.ldA ag113 sz113 (by omega) hget]
      rw [show (Value.agg y.cells.toArray) = y.val from rfl, al_stS, e1, nx_eq, ldS b1, nx_eq, hh2, lok_of keyS under133 zero113 bh1.fB, hk]
      simp only [ext, show ∀ z : Value, (#[z, Value.bool false] : Array Value)[0]? = some z from fun _ => rfl, show ∀ z : Value, (#[z, Value.bool false] : Array Value)[1]? = some (Value.bool false) from fun _ => rfl, Option.bind_some, asB_bool]
      rw [al_stS, e2, ifB_false]
      simp only [AM.nil, asP_ptr]
      rw [d115, cell_of net2.str]
      simp only [List.getElem?_cons_zero, Option.bind_some]
      rw [bh2.qB.slR.ldA ag113 sz113 (by omega) (x := u.cells) (by simp), show (Value.agg u.cells.toArray) = u.val from rfl, nx_eq, ldS b2, kA, lok_of0 keyA under115 zero3 net2.rm, v1]
      simp only [Option.getD_some, asI_int]
      rw [h0, show AM.eq 0 0 = true from rfl, ifB_true, add64 (by omega) (by omega)]
      rfl
    · rw [← e2, ← e1]; exact ((Ext.refl g).fresh _ _ _).fresh _ _ _
/-- A new spot, that is not the end. -/
theorem l2_add {lo nb rb xb kk : Nat} {B : List Arc} {r : Sp → Sp → Int} {nxs : List (Sp × Value)} {S T : Sp} {g0 h0 h1 h2 : H} {fr : List (Sp × Sp)} {q : List Sp} {u y : Sp} {qv v9 a0 : Value} {g : H} {N : List Sp} {j : Nat}
    (hh1 : h1.nx = g0.nx + 1) (hh2 : h2.nx = g0.nx + 2) (bh : BfsH lo nb rb xb B r nxs S T g0 fr (u :: q) qv g) (hv : SlR g 113 3 v9 (N.map Sp.cells)) (hj : N[j]? = some y) (hjs : j < 1000) (hq : q.length < 1000) (hon : onA B u y)
    (hs : y ∉ fr.map (·.1)) (hr : r u y ≠ 0) (hT : y ≠ T) :
    ∃ g' qv', f103_l2 rn kk (pt nb 0) h0 h1 h2 v9 N.length [a0, qv, iv j] g = some (.normal, [a0, qv', iv (j + 1 : Nat)], g') ∧ BfsH lo nb rb xb B r nxs S T g0 (fr ++ [(y, u)]) (u :: q ++ [y]) qv' g' ∧ g.nx ≤ g'.nx := by
  have hlt := (List.getElem?_eq_some_iff.1 hj).1
  have hget : (N.map Sp.cells)[((j : Nat) : Int).toNat]? = some y.cells := by rw [List.getElem?_map, Int.toNat_natCast, hj]; rfl
  have hk := valK_fr_none hs
  obtain ⟨g1, g2, _, e1, e2, n1, n2, b1, b2, bh1, bh2⟩ := bh.boxed y ⟨0, 0, false⟩
  have net2 := bh2.netg
  have v1 := (valK_ks B r u y).1 hon
  have gnx := bh.nx
  generalize e3 : g2.set (g0.nx + 2) (mpOf Sp.val (kvF (fr ++ [(y, u)]))) = g3
  have b3 : ∀ c, c ≠ g0.nx + 2 → g3.blk c = g2.blk c := fun c hc => by rw [← e3]; show (if c = g0.nx + 2 then _ else _) = _; rw [if_neg hc]
  have n3 : g3.nx = g2.nx := by rw [← e3]; rfl
  have fb3 : g3.blk (g0.nx + 2) = some (mpOf Sp.val (kvF (fr ++ [(y, u)]))) := by rw [← e3]; show (if g0.nx + 2 = g0.nx + 2 then _ else _) = _; rw [if_pos rfl]
  obtain ⟨qb, hqb, hqlo, hqlt, _⟩ := bh2.qB.blkOf
  have q3 : QlR (g0.nx + 3) g3 113 3 qv ((u :: q).map Sp.cells) := bh2.qB.keep (by omega) fun b hb => b3 b (by rw [hqb] at hb; cases hb; omega)
  obtain ⟨qv', g4, k4, q4, n4, f4, bb, hbb, hbn⟩ := q3.push (t2 := 134) (xv := y.val) (x := y.cells) app134 app134 (bls134 y) rfl (by simp [Sp.cells, scal]) (by simp; omega) (by omega)
  have old4 : ∀ c, c < g.nx → c ≠ g0.nx + 2 → c < g0.nx + 3 → g4.blk c = g2.blk c := fun c hc hne hlt => by rw [f4 c (by omega) (by rw [hqb]; intro e; cases e; omega), b3 c hne]
  refine ⟨g4, qv', ?_, ⟨bh.net, ?_, ?_, ?_, ?_, by omega, fun c hc => ?_⟩, by omega⟩
  · unfold f103_l2
    simp only [gv, List.getD_cons_zero, List.getD_cons_succ, asI_int, asK_int]
    rw [lt_t (by omega), ifB_true, hv.ldA ag113 sz113 (by omega) hget]
    rw [show (Value.agg y.cells.toArray) = y.val from rfl, al_stS, e1, nx_eq, ldS b1, nx_eq, hh2, lok_of keyS under133 zero113 bh1.fB, hk]
    simp only [ext, show ∀ z : Value, (#[z, Value.bool false] : Array Value)[0]? = some z from fun _ => rfl, show ∀ z : Value, (#[z, Value.bool false] : Array Value)[1]? = some (Value.bool false) from fun _ => rfl, Option.bind_some, asB_bool]
    rw [al_stS, e2, ifB_false]
    simp only [AM.nil, asP_ptr]
    rw [d115, cell_of net2.str]
    simp only [List.getElem?_cons_zero, Option.bind_some]
    rw [bh2.qB.slR.ldA ag113 sz113 (by omega) (x := u.cells) (by simp), show (Value.agg u.cells.toArray) = u.val from rfl, nx_eq, ldS b2, kA, lok_of0 keyA under115 zero3 net2.rm, v1]
    simp only [Option.getD_some, asI_int]
    rw [show AM.eq (r u y) 0 = false by simp [AM.eq, hr], ifB_false, ldS b2, bh2.qB.slR.ldA ag113 sz113 (by omega) (x := u.cells) (by simp), show (Value.agg u.cells.toArray) = u.val from rfl]
    rw [mup_of keyS under133 bh2.fB, putK_fr hs, e3, ldS (by rw [b3 _ (by omega), b2]), hh1, ldS (by rw [b3 _ (by omega), bh2.tB]), kEq, decide_eq_false hT, ifB_false, ldS (by rw [b3 _ (by omega), b2])]
    refine (k4 _).trans ?_
    rw [add64 (by omega) (by omega)]
    rfl
  · rw [old4 _ (by omega) (by omega) (by omega), bh2.sB]
  · rw [old4 _ (by omega) (by omega) (by omega), bh2.tB]
  · rw [f4 _ (by omega) (by rw [hqb]; intro e; cases e; omega), fb3]
  · rw [List.map_append]; exact q4
  · rw [old4 _ (by omega) (by omega) (by omega), bh2.old c hc]
/-- The end is reached: the way is turned. -/
theorem l2_found {lo nb rb xb kk k : Nat} {B : List Arc} {r : Sp → Sp → Int} {nxs : List (Sp × Value)} {S T : Sp} {g0 h0 h1 h2 : H} {fr : List (Sp × Sp)} {dn q : List Sp} {u : Sp} {qv v9 a0 : Value} {g : H} {N : List Sp} {j : Nat}
    (hh0 : h0.nx = g0.nx) (hh1 : h1.nx = g0.nx + 1) (hh2 : h2.nx = g0.nx + 2) (bh : BfsH lo nb rb xb B r nxs S T g0 fr (u :: q) qv g) (b : Bfs B r S T fr dn (u :: q)) (sbB : SimpB B) (hc : ∀ a ∈ B, a.2.2 ≤ 1000) (fl : FlowOk B r k S T)
    (hv : SlR g 113 3 v9 (N.map Sp.cells)) (hj : N[j]? = some T) (hjs : j < 1000) (hkk : fr.length < kk) (hon : onA B u T) (hr : r u T ≠ 0) :
    ∃ g' r', f103_l2 rn kk (pt nb 0) h0 h1 h2 v9 N.length [a0, qv, iv j] g = some (.ret, [.bool true, qv, iv j], g') ∧ NetH lo g' nb rb xb B r' nxs ∧ FlowOk B r' (k + 1) S T ∧ g0.nx ≤ g'.nx ∧ ∀ c, c < g0.nx → c ≠ rb → g'.blk c = g0.blk c := by
  have hlt := (List.getElem?_eq_some_iff.1 hj).1
  have hget : (N.map Sp.cells)[((j : Nat) : Int).toNat]? = some T.cells := by rw [List.getElem?_map, Int.toNat_natCast, hj]; rfl
  have hs := b.noT
  have hk := valK_fr_none hs
  obtain ⟨g1, g2, _, e1, e2, n1, n2, b1, b2, bh1, bh2⟩ := bh.boxed T ⟨0, 0, false⟩
  have net2 := bh2.netg
  have v1 := (valK_ks B r u T).1 hon
  have gnx := bh.nx
  have aug := fl.start
  have hr1 : 1 ≤ r u T := by have := (small_of aug hc u T hon).1; omega
  generalize e3 : g2.set (g0.nx + 2) (mpOf Sp.val (kvF (fr ++ [(T, u)]))) = g3
  have b3 : ∀ c, c ≠ g0.nx + 2 → g3.blk c = g2.blk c := fun c hc => by rw [← e3]; show (if c = g0.nx + 2 then _ else _) = _; rw [if_neg hc]
  have n3 : g3.nx = g2.nx := by rw [← e3]; rfl
  have fb3 : g3.blk (g0.nx + 2) = some (mpOf Sp.val (kvF (fr ++ [(T, u)]))) := by rw [← e3]; show (if g0.nx + 2 = g0.nx + 2 then _ else _) = _; rw [if_pos rfl]
  have old3 : ∀ c, c < g0.nx → g3.blk c = g0.blk c := fun c hc => by rw [b3 c (by omega), bh2.old c hc]
  have fo' := b.fo.snoc (u := u) (y := T) (by rw [b.keys]; simp) hs hon
  have nlt := bh.net.nlt
  have rlt := bh.net.rlt
  have xlt := bh.net.next.xlt
  have ti : TurnI lo nb rb xb (g0.nx + 2) g0.nx g.nx B k S T (fr ++ [(T, u)]) nxs g3 fr.length r T u g3 := by
    refine ⟨bh.net.ext ⟨by omega, old3⟩, aug, by rw [List.getElem?_append_right (Nat.le_refl _)]; simp, fun i y x hi _ h => ?_, small_of aug hc, by rw [b3 _ (by omega), b2], by rw [b3 _ (by omega), bh2.sB], fb3, rfl, fun _ _ _ => rfl⟩
    by_cases hl : i < fr.length
    · rw [List.getElem?_append_left hl] at h
      exact b.pos i y x hi h
    · have : i = fr.length := by have := (List.getElem?_eq_some_iff.1 h).1; simp at this; omega
      subst this
      rw [List.getElem?_append_right (Nat.le_refl _)] at h
      simp only [Nat.sub_self, List.getElem?_cons_zero, Option.some.injEq, Prod.mk.injEq] at h
      obtain ⟨rfl, rfl⟩ := h
      exact hr1
  obtain ⟨g', r', k1, m1, m2, m3, m4⟩ := turn_all (kk := kk) sbB hc fo' hh0 hh2 (h7 := g) rfl ⟨by omega, by omega⟩ ⟨by omega, by omega⟩ (by omega) ⟨by omega, by omega, fun h => by have := (bh.net.next.lt h).2.1; omega⟩ ti hkk
  refine ⟨g', r', ?_, m1, m2, by omega, fun c c1 c2 => by rw [m4 c c2 (by omega), old3 c c1]⟩
  unfold f103_l2
  simp only [gv, List.getD_cons_zero, List.getD_cons_succ, asI_int, asK_int]
  rw [lt_t (by omega), ifB_true, hv.ldA ag113 sz113 (by omega) hget]
  rw [show (Value.agg T.cells.toArray) = T.val from rfl, al_stS, e1, nx_eq, ldS b1, nx_eq, hh2, lok_of keyS under133 zero113 bh1.fB, hk]
  simp only [ext, show ∀ z : Value, (#[z, Value.bool false] : Array Value)[0]? = some z from fun _ => rfl, show ∀ z : Value, (#[z, Value.bool false] : Array Value)[1]? = some (Value.bool false) from fun _ => rfl, Option.bind_some, asB_bool]
  rw [al_stS, e2, ifB_false]
  simp only [AM.nil, asP_ptr]
  rw [d115, cell_of net2.str]
  simp only [List.getElem?_cons_zero, Option.bind_some]
  rw [bh2.qB.slR.ldA ag113 sz113 (by omega) (x := u.cells) (by simp), show (Value.agg u.cells.toArray) = u.val from rfl, nx_eq, ldS b2, kA, lok_of0 keyA under115 zero3 net2.rm, v1]
  simp only [Option.getD_some, asI_int]
  rw [show AM.eq (r u T) 0 = false by simp [AM.eq, hr], ifB_false, ldS b2, bh2.qB.slR.ldA ag113 sz113 (by omega) (x := u.cells) (by simp), show (Value.agg u.cells.toArray) = u.val from rfl]
  rw [mup_of keyS under133 bh2.fB, putK_fr hs, e3, ldS (by rw [b3 _ (by omega), b2]), hh1, ldS (by rw [b3 _ (by omega), bh2.tB]), kEq, decide_eq_true rfl, ifB_true]
  refine (k1 _).trans ?_
  rw [onE_exit, if_pos rfl]
  rfl
end Go.AM
end

section
namespace Go.AM
open Go.Proofs
/-- A way more was found. -/
def Found (lo nb rb xb : Nat) (B : List Arc) (nxs : List (Sp × Value)) (k : Nat) (S T : Sp) (g0 g' : H) : Prop :=
  ∃ r', NetH lo g' nb rb xb B r' nxs ∧ FlowOk B r' (k + 1) S T ∧ g0.nx ≤ g'.nx ∧ ∀ c, c < g0.nx → c ≠ rb → g'.blk c = g0.blk c
theorem l2_loop {lo nb rb xb k : Nat} {B : List Arc} {r : Sp → Sp → Int} {nxs : List (Sp × Value)} {S T : Sp} {g0 h0 h1 h2 : H} {fr : List (Sp × Sp)} {dn q : List Sp} {u : Sp} {qv v9 a0 : Value} {g : H}
    (hh0 : h0.nx = g0.nx) (hh1 : h1.nx = g0.nx + 1) (hh2 : h2.nx = g0.nx + 2) (bh : BfsH lo nb rb xb B r nxs S T g0 fr (u :: q) qv g) (b : Bfs B r S T fr dn (u :: q)) (sbB : SimpB B) (hc : ∀ a ∈ B, a.2.2 ≤ 1000) (fl : FlowOk B r k S T) (hB : B.length ≤ 300)
    (hv : SlR g0 113 3 v9 ((nbrs B u).map Sp.cells)) :
    ∃ e ws g', (∀ {R : Type} (K : Ex → List Value → H → Option R), lp 1000 (f103_l2 rn 1000 (pt nb 0) h0 h1 h2 v9 (nbrs B u).length) [a0, qv, iv 0] g K = K e ws g') ∧
      ((e = .exit 2 ∧ ∃ fr' q' qv' j, ws = [a0, qv', j] ∧ BfsH lo nb rb xb B r nxs S T g0 fr' (u :: q') qv' g' ∧ Bfs B r S T fr' dn (u :: q') ∧ ∀ y ∈ nbrs B u, y ∈ fr'.map (·.1) ∨ r u y = 0) ∨
       (e = .ret ∧ ∃ qv' j, ws = [.bool true, qv', j] ∧ Found lo nb rb xb B nxs k S T g0 g')) := by
  have hN := nbrs_len B u
  obtain ⟨e, ws, g', e1, e2⟩ := lp_meas (F := f103_l2 rn 1000 (pt nb 0) h0 h1 h2 v9 (nbrs B u).length) (σ := Nat × List (Sp × Sp) × List Sp × Value)
    (fun s ws g => ws = [a0, s.2.2.2, iv s.1] ∧ s.1 ≤ (nbrs B u).length ∧ BfsH lo nb rb xb B r nxs S T g0 s.2.1 (u :: s.2.2.1) s.2.2.2 g ∧ Bfs B r S T s.2.1 dn (u :: s.2.2.1) ∧ ∀ y ∈ (nbrs B u).take s.1, y ∈ s.2.1.map (·.1) ∨ r u y = 0)
    (fun s => (nbrs B u).length - s.1)
    (fun e ws g' => (e = .exit 2 ∧ ∃ fr' q' qv' j, ws = [a0, qv', j] ∧ BfsH lo nb rb xb B r nxs S T g0 fr' (u :: q') qv' g' ∧ Bfs B r S T fr' dn (u :: q') ∧ ∀ y ∈ nbrs B u, y ∈ fr'.map (·.1) ∨ r u y = 0) ∨
       (e = .ret ∧ ∃ qv' j, ws = [.bool true, qv', j] ∧ Found lo nb rb xb B nxs k S T g0 g'))
    (fun s ws g hI => by
      obtain ⟨j, fr, q, qv⟩ := s
      obtain ⟨rfl, hj, bh, b, hd⟩ := hI
      simp only at hj bh b hd ⊢
      have hlen := b.len
      rw [List.length_append, List.length_cons] at hlen
      have hfl : fr.length = dn.length + (q.length + 1) := by
        have := congrArg List.length b.keys
        simpa using this
      by_cases hlt : j < (nbrs B u).length
      · obtain ⟨y, hy⟩ : ∃ y, (nbrs B u)[j]? = some y := ⟨_, List.getElem?_eq_getElem hlt⟩
        have hyN := List.mem_of_getElem? hy
        have hon := mem_nbrs.1 hyN
        have hvg : SlR g 113 3 v9 ((nbrs B u).map Sp.cells) := hv.ext ⟨by have := bh.nx; omega, bh.old⟩
        have htk : ∀ y' ∈ (nbrs B u).take (j + 1), y' ∈ (nbrs B u).take j ∨ y' = y := fun y' h => by
          rw [List.take_add_one, hy] at h
          simpa using h
        by_cases hs : y ∈ fr.map (·.1) ∨ r u y = 0
        · obtain ⟨g', f1, x1⟩ := l2_skip (kk := 1000) (a0 := a0) (h0 := h0) (h1 := h1) hh2 bh b.fo hvg hy (by omega) hon hs
          exact ⟨_, _, g', f1, .inl ⟨rfl, (j + 1, fr, q, qv), ⟨rfl, hlt, bh.ext x1, b, fun y' h => (htk y' h).elim (hd y') (fun e => by rw [e]; exact hs)⟩, by simp only; omega⟩⟩
        · have hs1 : y ∉ fr.map (·.1) := fun h => hs (.inl h)
          have hr : r u y ≠ 0 := fun h => hs (.inr h)
          by_cases hT : y = T
          · subst hT
            obtain ⟨g', r', f1, f2, f3, f4, f5⟩ := l2_found (kk := 1000) (a0 := a0) hh0 hh1 hh2 bh b sbB hc fl hvg hy (by omega) (by omega) hon hr
            exact ⟨_, _, g', f1, .inr ⟨by simp, .inr ⟨rfl, _, _, rfl, r', f2, f3, f4, f5⟩⟩⟩
          · have hr1 : 1 ≤ r u y := by have := (small_of fl.start hc u y hon).1; omega
            obtain ⟨g', qv', f1, f2, _⟩ := l2_add (kk := 1000) (a0 := a0) (h0 := h0) hh1 hh2 bh hvg hy (by omega) (by omega) hon hs1 hr hT
            refine ⟨_, _, g', f1, .inl ⟨rfl, (j + 1, fr ++ [(y, u)], q ++ [y], qv'), ⟨rfl, hlt, f2, b.add List.mem_cons_self hs1 hyN hr1 hT, fun y' h => ?_⟩, by simp only; omega⟩⟩
            rw [List.map_append]
            rcases htk y' h with h | h
            · exact (hd y' h).imp (fun h => List.mem_append_left _ h) id
            · exact .inl (List.mem_append_right _ (by simp [h]))
      · have : j = (nbrs B u).length := by omega
        subst this
        refine ⟨.exit 2, [a0, qv, iv (nbrs B u).length], g, ?_, .inr ⟨by simp, .inl ⟨rfl, fr, q, qv, _, rfl, bh, b, fun y hy => hd y (by rw [List.take_length]; exact hy)⟩⟩⟩
        unfold f103_l2
        simp only [gv, List.getD_cons_zero, List.getD_cons_succ, asI_int]
        rw [lt_f (by omega), ifB_false]; rfl) 1000 (0, fr, q, qv) [a0, qv, iv 0] g (by simp only; omega) ⟨rfl, Nat.zero_le _, bh, b, fun y hy => by simp at hy⟩
  exact ⟨e, ws, g', fun K => lp_eq e1, e2⟩
theorem nbr_slice {lo nb rb xb : Nat} {B : List Arc} {r : Sp → Sp → Int} {nxs : List (Sp × Value)} {h : H} (nt : NetH lo h nb rb xb B r nxs) (u : Sp) : ∃ v9, (valK nxs u).getD (.slice none 0 0) = v9 ∧ SlR h 113 3 v9 ((nbrs B u).map Sp.cells) := by
  cases hv : valK nxs u with
  | some v => exact ⟨v, rfl, (nt.next.ok u v hv).slR⟩
  | none => exact ⟨_, rfl, by rw [nt.next.no u hv]; exact .nil⟩
theorem l1_loop {lo nb rb xb k : Nat} {B : List Arc} {r : Sp → Sp → Int} {nxs : List (Sp × Value)} {S T : Sp} {g0 h0 h1 h2 : H} {qv : Value} {g : H}
    (hh0 : h0.nx = g0.nx) (hh1 : h1.nx = g0.nx + 1) (hh2 : h2.nx = g0.nx + 2) (bh : BfsH lo nb rb xb B r nxs S T g0 [(S, S)] [S] qv g) (hST : S ≠ T) (sbB : SimpB B) (hc : ∀ a ∈ B, a.2.2 ≤ 1000) (fl : FlowOk B r k S T) (hB : B.length ≤ 300) :
    ∃ e ws g', (∀ {R : Type} (K : Ex → List Value → H → Option R), lp 1000 (f103_l1 rn 1000 (pt nb 0) h0 h1 h2) [.bool false, qv] g K = K e ws g') ∧
      ((e = .exit 0 ∧ (∃ qv', ws = [.bool false, qv']) ∧ (∃ R : Sp → Bool, R S = true ∧ R T = false ∧ ∀ a ∈ B, (R a.1 = true → R a.2.1 = false → r a.1 a.2.1 = 0) ∧ (R a.2.1 = true → R a.1 = false → r a.2.1 a.1 = 0)) ∧ Ext g0 g') ∨
       (e = .ret ∧ (∃ qv', ws = [.bool true, qv']) ∧ Found lo nb rb xb B nxs k S T g0 g')) := by
  obtain ⟨e, ws, g', e1, e2⟩ := lp_meas (F := f103_l1 rn 1000 (pt nb 0) h0 h1 h2) (σ := List (Sp × Sp) × List Sp × List Sp × Value)
    (fun s ws g => ws = [.bool false, s.2.2.2] ∧ Bfs B r S T s.1 s.2.1 s.2.2.1 ∧ g0.nx + 3 ≤ g.nx ∧ (∀ c, c < g0.nx → g.blk c = g0.blk c) ∧ ((s.2.2.1 = [] ∧ ∃ a m c, s.2.2.2 = .slice a 0 c ∧ m = 0) ∨ BfsH lo nb rb xb B r nxs S T g0 s.1 s.2.2.1 s.2.2.2 g))
    (fun s => 2 * B.length + 1 - s.2.1.length)
    (fun e ws g' => (e = .exit 0 ∧ (∃ qv', ws = [.bool false, qv']) ∧ (∃ R : Sp → Bool, R S = true ∧ R T = false ∧ ∀ a ∈ B, (R a.1 = true → R a.2.1 = false → r a.1 a.2.1 = 0) ∧ (R a.2.1 = true → R a.1 = false → r a.2.1 a.1 = 0)) ∧ Ext g0 g') ∨
       (e = .ret ∧ (∃ qv', ws = [.bool true, qv']) ∧ Found lo nb rb xb B nxs k S T g0 g'))
    (fun s ws g hI => by
      obtain ⟨fr, dn, q, qv⟩ := s
      obtain ⟨rfl, b, gn, old, hh⟩ := hI
      simp only at b hh ⊢
      cases q with
      | nil =>
        have hlen : ∃ a n c, qv = .slice a n c ∧ n = 0 := by
          rcases hh with ⟨_, a, m, c, h, _⟩ | bh
          · exact ⟨a, 0, c, h, rfl⟩
          · obtain ⟨a, n, c, h⟩ := bh.qB.slR.isSl
            have hl := fun (K : Int → Option Unit) => bh.qB.slR.len (K := K)
            refine ⟨a, n, c, h, ?_⟩
            have := hl fun n => if n = 0 then some () else none
            rw [h] at this
            simp only [len_slice, List.map_nil, List.length_nil] at this
            by_cases hn : (n : Int) = 0
            · omega
            · rw [if_neg hn] at this; simp at this
        obtain ⟨a, n, c, rfl, rfl⟩ := hlen
        refine ⟨.exit 0, [.bool false, .slice a 0 c], g, ?_, .inr ⟨by simp, .inl ⟨rfl, ⟨_, rfl⟩, b.fail, by omega, old⟩⟩⟩
        unfold f103_l1
        simp only [gv, List.getD_cons_zero, List.getD_cons_succ, len_slice]
        rfl
      | cons u q =>
        have bh : BfsH lo nb rb xb B r nxs S T g0 fr (u :: q) qv g := hh.resolve_left (fun h => by cases h.1)
        have hlen := b.len
        rw [List.length_append, List.length_cons] at hlen
        obtain ⟨v9, hv9, sl9⟩ := nbr_slice bh.net u
        obtain ⟨a0, n0, c0, hq0⟩ := bh.qB.slR.isSl
        obtain ⟨e, ws, g', k1, k2⟩ := l2_loop (a0 := .bool false) hh0 hh1 hh2 bh b sbB hc fl hB sl9
        have net := bh.netg
        have pre : ∀ {z : Option (Ex × List Value × H)}, (onE e 2 (sli Try.prog g' 134 (gv ws 1) (some (.int .i64 1)) none none fun v47 => out .normal [gv ws 0, v47] g') (onR e (out .ret [gv ws 0, gv ws 1] g'))) = z → f103_l1 rn 1000 (pt nb 0) h0 h1 h2 [.bool false, qv] g = z := by
          intro z hz
          unfold f103_l1
          simp only [gv, List.getD_cons_zero, List.getD_cons_succ]
          rw [bh.qB.slR.len, lt_t (by simp), ifB_true]
          simp only [AM.nil, asP_ptr]
          rw [d116, cell_of net.str, show off 0 1 = 1 from rfl]
          simp only [List.getElem?_cons_succ, List.getElem?_cons_zero, Option.bind_some]
          rw [bh.qB.slR.ldA ag113 sz113 (by omega) (x := u.cells) (by simp), show (Value.agg u.cells.toArray) = u.val from rfl, lok_of0 keyS under116 zero134 net.next.mp, hv9, (sl9.ext ⟨by omega, old⟩).len, List.length_map]
          exact (k1 _).trans hz
        rcases k2 with ⟨rfl, fr', q', qv', j, rfl, bh', b', cl⟩ | ⟨rfl, qv', j, rfl, fd⟩
        · obtain ⟨v', s1, s2, s3, _⟩ := bh'.qB.tail (by omega) under134 sz113
          refine ⟨.normal, [.bool false, v'], g', pre ?_, .inl ⟨rfl, (fr', dn ++ [u], q', v'), ⟨rfl, b'.next cl, bh'.nx, bh'.old, ?_⟩, by simp only [List.length_append, List.length_singleton]; omega⟩⟩
          · rw [onE_exit, if_pos rfl]
            exact s1 _
          · cases q' with
            | nil =>
              obtain ⟨b1, o1, c1, h1⟩ := s3 rfl
              exact .inl ⟨rfl, _, 0, _, h1, rfl⟩
            | cons u' q' => exact .inr ⟨bh'.net, bh'.sB, bh'.tB, bh'.fB, s2 (by simp), bh'.nx, bh'.old⟩
        · exact ⟨.ret, [.bool true, qv'], g', pre rfl, .inr ⟨by simp, .inr ⟨rfl, ⟨_, rfl⟩, fd⟩⟩⟩) 1000 ([(S, S)], [], [S], qv) [.bool false, qv] g (by simp only [List.length_nil]; omega)
    ⟨rfl, .init hST, bh.nx, bh.old, .inr bh⟩
  exact ⟨e, ws, g', fun K => lp_eq e1, e2⟩
end Go.AM
end

section
namespace Go.AM
open Go.Proofs
theorem s103 {lo nb rb xb k : Nat} {B : List Arc} {r : Sp → Sp → Int} {nxs : List (Sp × Value)} {S T : Sp} {h : H} (nt : NetH lo h nb rb xb B r nxs) (hST : S ≠ T) (sbB : SimpB B) (hc : ∀ a ∈ B, a.2.2 ≤ 1000) (fl : FlowOk B r k S T) (hB : B.length ≤ 300) :
    (∃ h' r', rn 103 #[pt nb 0, S.val, T.val] h = some (.bool true, h') ∧ NetH lo h' nb rb xb B r' nxs ∧ FlowOk B r' (k + 1) S T ∧ h.nx ≤ h'.nx ∧ ∀ c, c < h.nx → c ≠ rb → h'.blk c = h.blk c) ∨
    (rn 103 #[pt nb 0, S.val, T.val] h = some (.bool false, h) ∧ ∃ R : Sp → Bool, R S = true ∧ R T = false ∧ ∀ a ∈ B, (R a.1 = true → R a.2.1 = false → r a.1 a.2.1 = 0) ∧ (R a.2.1 = true → R a.1 = false → r a.2.1 a.1 = 0)) := by
  generalize e1 : h.new (.row S.cells 113 true) = h1
  generalize e2 : h1.new (.row T.cells 113 true) = h2
  generalize e3 : h2.new (.mp [] 0) = h3
  generalize e4 : h3.set h2.nx (mpOf Sp.val (kvF [(S, S)])) = h4
  generalize e5 : h4.new (.row S.cells 113 true) = h5
  have n1 : h1.nx = h.nx + 1 := by rw [← e1]; rfl
  have n2 : h2.nx = h.nx + 2 := by rw [← e2]; show h1.nx + 1 = _; omega
  have n3 : h3.nx = h.nx + 3 := by rw [← e3]; show h2.nx + 1 = _; omega
  have n4 : h4.nx = h.nx + 3 := by rw [← e4]; exact n3
  have n5 : h5.nx = h.nx + 4 := by rw [← e5]; show h4.nx + 1 = _; omega
  have s3 : h3.blk h.nx = some (.row S.cells 113 true) := by rw [← e3, blk_new, if_neg (by omega), ← e2, blk_new, if_neg (by omega), ← e1, blk_new, if_pos rfl]
  have t3 : h3.blk h1.nx = some (.row T.cells 113 true) := by rw [← e3, blk_new, if_neg (by omega), ← e2, blk_new, if_pos rfl]
  have f3 : h3.blk h2.nx = some (mpOf Sp.val []) := by rw [← e3, blk_new, if_pos rfl]; rfl
  have b4 : ∀ c, c ≠ h2.nx → h4.blk c = h3.blk c := fun c hc => by rw [← e4]; show (if c = h2.nx then _ else _) = _; rw [if_neg hc]
  have f4 : h4.blk h2.nx = some (mpOf Sp.val (kvF [(S, S)])) := by rw [← e4]; show (if h2.nx = h2.nx then _ else _) = _; rw [if_pos rfl]
  have b5 : ∀ c, c < h4.nx → h5.blk c = h4.blk c := fun c hc => by rw [← e5, blk_new, if_neg (by omega)]
  have old3 : ∀ c, c < h.nx → h3.blk c = h.blk c := fun c hc => by rw [← e3, blk_new, if_neg (by omega), ← e2, blk_new, if_neg (by omega), ← e1, blk_new, if_neg (by omega)]
  have qB : QlR (h.nx + 3) h5 113 3 (.slice (some ⟨h4.nx, 0, none⟩) 1 1) ([S].map Sp.cells) := by rw [← e5]; exact QlR.lit (by omega) rfl
  have bh : BfsH lo nb rb xb B r nxs S T h [(S, S)] [S] (.slice (some ⟨h4.nx, 0, none⟩) 1 1) h5 := ⟨nt, by rw [b5 _ (by omega), b4 _ (by omega), s3], by rw [b5 _ (by omega), b4 _ (by omega), ← n1, t3], by rw [b5 _ (by omega), ← n2, f4], qB, by omega, fun c hc => by rw [b5 _ (by omega), b4 _ (by omega), old3 c hc]⟩
  obtain ⟨e, ws, g', k1, k2⟩ := l1_loop (h0 := h) (h1 := h1) (h2 := h2) rfl n1 n2 bh hST sbB hc fl hB
  have pre : ∀ {z : Option (Value × H)}, onE e 0 (some (.bool false, g')) (onR e (some (gv ws 0, g'))) = z → f103 rn 1000 (pt nb 0) S.val T.val h = z := by
    intro z hz
    unfold f103
    rw [bxS, e1, bxS, e2, mkm_eq, e3]
    simp only [nx_eq]
    rw [ldS s3, ldS s3, mup_of keyS under133 f3, show putK ([] : List (Sp × Value)) S S.val = kvF [(S, S)] from rfl, e4, ldS (by rw [b4 _ (by omega), s3]), kbls134, e5]
    exact (k1 _).trans hz
  rcases k2 with ⟨rfl, ⟨qv', rfl⟩, hR, x⟩ | ⟨rfl, ⟨qv', rfl⟩, r', m1, m2, m3, m4⟩
  · exact .inr ⟨p103 (pre rfl) rfl x, hR⟩
  · refine .inl ⟨_, r', t103 (pre rfl), ?_, m2, ?_, ?_⟩
    · obtain ⟨t1, t2, t3⟩ := trunc_blk (P := Try.prog) (h := h) (h1 := g') (v := .bool true) m3
      have old : ∀ c, c < h.nx → (trunc Try.prog h g' (.bool true)).blk c = g'.blk c := t3
      have l1 := nt.nlt
      have l2 := nt.rlt
      have l3 := nt.next.xlt
      exact ⟨by rw [old _ l1, m1.str], by omega, by rw [old _ l2, m1.rm], by omega, m1.ne, ⟨by rw [old _ l3, m1.next.mp], by omega, fun u v hv => by
        have a := nt.next.ok u v hv
        have b := m1.next.ok u v hv
        generalize (nbrs B u).map Sp.cells = L at a b ⊢
        cases b with
        | nil => exact .nil
        | @at_ b c l hlo hb hr hx hm hc =>
          have hbl := (a.blkOf (b := b) rfl).2.1
          exact .at_ hlo (by omega) (by rw [old b hbl, hr]) hx hm hc, m1.next.no, m1.next.dis⟩, m1.los⟩
    · exact (trunc_blk (P := Try.prog) (h := h) (h1 := g') (v := .bool true) m3).1
    · intro c c1 c2
      rw [(trunc_blk (P := Try.prog) (h := h) (h1 := g') (v := .bool true) m3).2.2 c c1, m4 c c1 c2]
end Go.AM
end

section
namespace Go.AM
open Go.Proofs
theorem base_cap {n : Nat} {l : List Kl} {d : Nat → Bool} {m : Nat} : ∀ a ∈ baseA n l d m, 0 ≤ a.2.2 ∧ a.2.2 ≤ 1000 := by
  intro a ha
  obtain ⟨i, _, h⟩ := base_mem.1 ha
  rcases chunk_cases h with ⟨p, _, rfl⟩ | ⟨_, c, _, hg⟩
  · simp
  · rcases gates_cases hg with rfl | rfl | rfl | rfl | rfl <;> simp
theorem flow_small {n : Nat} {l : List Kl} {d : Nat → Bool} {r : Sp → Sp → Int} {k : Nat} {s t : Int} (f : FlowOk (baseA n l d l.length) r k (at' s 0) (at' t l.length)) (hst : s ≠ t) : k ≤ l.length := by
  have := flow_le f (u := fun _ => true) (fun i _ _ h => by cases h) (X := fun _ p => p == s) (fun _ _ => .refl _) (by simp) (by simpa using Ne.symm hst)
  refine Nat.le_trans this ?_
  rw [penS_sum, maskL_len]
  refine Nat.le_trans (sumR_le (g := fun _ => 1) fun i _ => ?_) ?_
  · split
    · exact penB_le _ _ _
    · omega
  · generalize l.length = m
    induction m with
    | zero => simp [sumR]
    | succ m ih => rw [sumR_succ]; omega
/-- A flow that cannot be more. -/
structure MaxF (n : Nat) (l : List Kl) (d : Nat → Bool) (s t : Int) (r : Sp → Sp → Int) (k : Nat) : Prop where
  fl : FlowOk (baseA n l d l.length) r k (at' s 0) (at' t l.length)
  gm : k = GM 1000 t (maskL l d) (fun p => p == s)
theorem s83 {n : Nat} {l : List Kl} {gone : Nat} {sl : Value} {h : H} {s t : Int} (hs : SlR h 56 3 sl (l.map Kl.cells)) (hv : validP n l = true) (hgn : gone < 2 ^ 62) (hsr : 0 ≤ s ∧ s < n) (htr : 0 ≤ t ∧ t < n) (hst : s ≠ t) :
    ∃ (h' : H) (lo nb rb xb : Nat) (nxs : List (Sp × Value)) (r : Sp → Sp → Int) (k : Nat), rn 83 #[.agg #[iv n, sl], iv s, iv t, iv gone] h = some (.tuple #[pt nb 0, iv k], h') ∧ NetH lo h' nb rb xb (baseA n l (goneD gone) l.length) r nxs ∧ MaxF n l (goneD gone) s t r k ∧ Ext h h' ∧ h.nx ≤ lo := by
  have hn := validP_ok hv
  have hok := fun (i : Nat) (c : Kl) (hc : l[i]? = some c) => okC_iff.1 (hn.2.2.2 i c hc)
  have sbB : SimpB (baseA n l (goneD gone) l.length) := base_simp fun i c hc => (hok i c hc).2.2.1
  have hB : (baseA n l (goneD gone) l.length).length ≤ 300 := Nat.le_trans (base_len _) (Nat.le_trans (Nat.mul_le_mul hn.2.2.1 (show n + 5 ≤ 12 by omega)) (by decide))
  have hST : at' s 0 ≠ at' t l.length := fun e => hst (by simp only [Sp.mk.injEq] at e; exact e.1)
  generalize e1 : h.new (.row [iv n, sl] 31 true) = h1
  have n1 : h1.nx = h.nx + 1 := by rw [← e1]; rfl
  have x1 : Ext h h1 := by rw [← e1]; exact .new _ _
  have bx1 : h1.blk h.nx = some (.row [iv n, sl] 31 true) := by rw [← e1, blk_new, if_pos rfl]
  obtain ⟨h2, nb, rb, xb, nxs, c102, nt2, x2⟩ := s102 (hs.ext x1) hv hgn
  have bx2 : h2.blk h.nx = some (.row [iv n, sl] 31 true) := by rw [x2.blk _ (by omega), bx1]
  generalize e3 : h2.new (.row [iv 0, iv 0, .bool false] 113 true) = h3
  generalize e4 : h3.new (.row [iv 0, iv 0, .bool false] 113 true) = h4
  generalize e5 : h4.set h2.nx (.row (at' s 0).cells 113 true) = h5
  generalize e6 : h5.set h3.nx (.row (at' t l.length).cells 113 true) = h6
  have n3 : h3.nx = h2.nx + 1 := by rw [← e3]; rfl
  have n4 : h4.nx = h2.nx + 2 := by rw [← e4]; show h3.nx + 1 = _; omega
  have n6 : h6.nx = h2.nx + 2 := by rw [← e6, ← e5]; exact n4
  have b4 : h4.blk h2.nx = some (.row [iv 0, iv 0, .bool false] 113 true) := by rw [← e4, blk_new, if_neg (by omega), ← e3, blk_new, if_pos rfl]
  have b5 : h5.blk h3.nx = some (.row [iv 0, iv 0, .bool false] 113 true) := by
    rw [← e5]
    show (if h3.nx = h2.nx then _ else h4.blk h3.nx) = _
    rw [if_neg (by omega), ← e4, blk_new, if_pos rfl]
  have s6 : h6.blk h2.nx = some (.row (at' s 0).cells 113 true) := by
    rw [← e6]
    show (if h2.nx = h3.nx then _ else h5.blk h2.nx) = _
    rw [if_neg (by omega), ← e5]
    show (if h2.nx = h2.nx then _ else _) = _
    rw [if_pos rfl]
  have t6 : h6.blk h3.nx = some (.row (at' t l.length).cells 113 true) := by
    rw [← e6]
    show (if h3.nx = h3.nx then _ else _) = _
    rw [if_pos rfl]
  have x6 : Ext h2 h6 := ⟨by omega, fun q hq => by
    rw [← e6]
    show (if q = h3.nx then _ else h5.blk q) = _
    rw [if_neg (by omega), ← e5]
    show (if q = h2.nx then _ else h4.blk q) = _
    rw [if_neg (by omega), ← e4, blk_new, if_neg (by omega), ← e3, blk_new, if_neg (by omega)]⟩
  have nt6 := nt2.ext x6
  have fl0 := flow0 sbB (fun a ha => (base_cap a ha).1) (at' s 0) (at' t l.length)
  have hrblo : h1.nx ≤ rb := nt2.los.2.1
  have rlt2 := nt2.rlt
  obtain ⟨e, ws, g', q1, rfl, r, k, rfl, m1, m2, m3⟩ := lp_meas (F := f83_l1 rn 1000 (pt nb 0) h2 h3) (σ := (Sp → Sp → Int) × Nat)
    (fun s' ws g => ws = [.pointer none, iv 0, iv s'.2] ∧ NetH h1.nx g nb rb xb (baseA n l (goneD gone) l.length) s'.1 nxs ∧ FlowOk (baseA n l (goneD gone) l.length) s'.1 s'.2 (at' s 0) (at' t l.length) ∧ h6.nx ≤ g.nx ∧ ∀ c, c < h6.nx → c ≠ rb → g.blk c = h6.blk c)
    (fun s' => l.length + 1 - s'.2)
    (fun e ws g' => e = .ret ∧ ∃ (r : Sp → Sp → Int) (k : Nat), ws = [pt nb 0, iv k, iv k] ∧ NetH h1.nx g' nb rb xb (baseA n l (goneD gone) l.length) r nxs ∧ MaxF n l (goneD gone) s t r k ∧ (h6.nx ≤ g'.nx ∧ ∀ c, c < h6.nx → c ≠ rb → g'.blk c = h6.blk c))
    (fun s' ws g hI => by
      obtain ⟨r, k⟩ := s'
      obtain ⟨rfl, nt, fl, gn, old⟩ := hI
      simp only at nt fl ⊢
      have hk := flow_small fl hst
      have sg : g.blk h2.nx = some (.row (at' s 0).cells 113 true) := by rw [old _ (by omega) (by omega), s6]
      have tg : g.blk h3.nx = some (.row (at' t l.length).cells 113 true) := by rw [old _ (by omega) (by omega), t6]
      rcases s103 nt hST sbB (fun a ha => (base_cap a ha).2) fl hB with ⟨g', r', c103, p1, p2, p3, p4⟩ | ⟨c103, R, R1, R2, R3⟩
      · have hk' := flow_small p2 hst
        refine ⟨.normal, [.pointer none, iv 0, iv (k + 1 : Nat)], g', ?_, .inl ⟨rfl, (r', k + 1), ⟨rfl, p1, p2, by omega, fun c c1 c2 => by rw [p4 c (by omega) c2, old c c1 c2]⟩, by simp only; omega⟩⟩
        unfold f83_l1
        simp only [nx_eq]
        rw [ldS sg, ldS tg, kEq, decide_eq_false hST, ifB_false, ldS sg, ldS tg]
        refine (calls_eq c103).trans ?_
        simp only [asB_bool, Bool.not_true, ifB_false, gv, List.getD_cons_zero, List.getD_cons_succ, asI_int]
        rw [add64 (by omega) (by omega)]
        rfl
      · refine ⟨.ret, [pt nb 0, iv k, iv k], g, ?_, .inr ⟨by simp, rfl, r, k, rfl, nt, ⟨fl, flow_ge fl (fun i c hc => ⟨(hok i c hc).1, (hok i c hc).2.1⟩) (by omega) hst hsr htr R1 R2 R3⟩, gn, old⟩⟩
        unfold f83_l1
        simp only [nx_eq]
        rw [ldS sg, ldS tg, kEq, decide_eq_false hST, ifB_false, ldS sg, ldS tg]
        refine (calls_eq c103).trans ?_
        simp only [asB_bool, Bool.not_false, ifB_true, gv, List.getD_cons_zero, List.getD_cons_succ]
        rfl) 1000 (room0 (baseA n l (goneD gone) l.length), 0) [.pointer none, iv 0, iv 0] h6 (by simp only; omega) ⟨rfl, nt6, fl0, Nat.le_refl _, fun _ _ _ => rfl⟩
  have hrun : f83 rn 1000 (.agg #[iv n, sl]) s t gone h = some (.tuple #[pt nb 0, iv k], g') := by
    unfold f83
    rw [bx_eq]
    simp only [Value.cells]
    rw [e1]
    simp only [nx_eq]
    rw [d31, rd_all (n := 2) bx1 rfl, Option.bind_some]
    refine (calls_eq c102).trans ?_
    rw [kSp, d29, cell_of bx2, show off 0 1 = 1 from rfl]
    simp only [List.getElem?_cons_succ, List.getElem?_cons_zero, Option.bind_some]
    rw [(hs.ext (x1.trans x2)).len, List.length_map, kSp, al_eq, e3]
    have ck1 : freq h.nx h2.nx (same h3 h2) = true := by
      unfold freq same
      rw [decide_eq_true (by have := x2.nx; omega), ← e3]
      simp [H.new]
    have ck2 : freq h.nx h3.nx (same h4 h3) = true := by
      unfold freq same
      rw [decide_eq_true (by have := x2.nx; omega), ← e4]
      simp [H.new]
    have ck3 : fre h.nx h4.nx 1 1 h2.nx 0 3 = true := by
      unfold fre
      have := x2.nx
      rw [decide_eq_true (by omega), decide_eq_true (.inl (by omega))]
      rfl
    rw [ck1, ck_true, al_eq, e4, ck2, ck_true, st113 (x := ⟨s, 0, false⟩) b4 rfl, show (⟨s, 0, false⟩ : Sp) = at' s 0 from rfl, e5, ck3, ck_true, st113 b5 rfl, e6, lp_eq q1, onR_ret]
    rfl
  have xg : Ext h g' := ⟨by have := x2.nx; omega, fun q hq => by
    have := x2.nx
    rw [m3.2 q (by omega) (by omega), x6.blk _ (by omega), x2.blk _ (by omega), x1.blk _ hq]⟩
  exact ⟨g', h1.nx, nb, rb, xb, nxs, r, k, x83 hrun rfl, m1, m2, xg, by omega⟩
end Go.AM
end

section
namespace Go.AM
open Go.Proofs
def usedN (r : Sp → Sp → Int) : Nat → Nat
  | 0 => 0
  | i + 1 => if 0 < r (outS i) (inS i) then usedN r i ||| 2 ^ i else usedN r i
theorem usedN_lt (r : Sp → Sp → Int) : ∀ m, usedN r m < 2 ^ m := by
  intro m
  induction m with
  | zero => simp [usedN]
  | succ m ih =>
    simp only [usedN]
    have : (2 : Nat) ^ m < 2 ^ (m + 1) := Nat.pow_lt_pow_right (by decide) (by omega)
    split
    · exact Nat.or_lt_two_pow (by omega) this
    · omega
theorem usedN_bit (r : Sp → Sp → Int) (i : Nat) : ∀ m, (usedN r m).testBit i = (decide (i < m) && decide (0 < r (outS i) (inS i))) := by
  intro m
  induction m with
  | zero => simp [usedN]
  | succ m ih =>
    simp only [usedN]
    by_cases h : 0 < r (outS m) (inS m)
    · rw [if_pos h, Nat.testBit_or, ih, Nat.testBit_two_pow]
      by_cases e : m = i
      · subst e; simp [h]
      · have : (decide (i < m + 1)) = decide (i < m) := by
          by_cases h : i < m
          · rw [decide_eq_true h, decide_eq_true (by omega)]
          · rw [decide_eq_false h, decide_eq_false (by omega)]
        rw [this]; simp [e]
    · rw [if_neg h, ih]
      by_cases e : i = m
      · subst e; simp [h]
      · have : (decide (i < m + 1)) = decide (i < m) := by
          by_cases h : i < m
          · rw [decide_eq_true h, decide_eq_true (by omega)]
          · rw [decide_eq_false h, decide_eq_false (by omega)]
        rw [this]
theorem on_gate {n : Nat} {l : List Kl} {d : Nat → Bool} {i : Nat} {c : Kl} (hc : l[i]? = some c) (hd : d i = false) : onA (baseA n l d l.length) (outS i) (inS i) := by
  refine ⟨(inS i, outS i, 1), base_mem.2 ⟨i, (List.getElem?_eq_some_iff.1 hc).1, ?_⟩, .inr ⟨rfl, rfl⟩⟩
  unfold chunk
  rw [hc]
  simp [hd, gates]
theorem s84 {n : Nat} {l : List Kl} {sl : Value} {h : H} {lo nb rb xb : Nat} {nxs : List (Sp × Value)} {r : Sp → Sp → Int} (hs : SlR h 56 3 sl (l.map Kl.cells)) (hl : l.length ≤ 24) (nt : NetH lo h nb rb xb (baseA n l (goneD 0) l.length) r nxs) :
    rn 84 #[.agg #[iv n, sl], pt nb 0] h = some (iv (usedN r l.length), h) := by
  generalize e1 : h.new (.row [iv n, sl] 31 true) = h1
  have n1 : h1.nx = h.nx + 1 := by rw [← e1]; rfl
  have x1 : Ext h h1 := by rw [← e1]; exact .new _ _
  have bx1 : h1.blk h.nx = some (.row [iv n, sl] 31 true) := by rw [← e1, blk_new, if_pos rfl]
  have nt1 := nt.ext x1
  obtain ⟨ws', g, q1, rfl, hg⟩ := lp_for (k := 1000) (l := l) (F := f84_l1 rn 1000 (pt nb 0) l.length) (σ := Unit) (fun _ _ s => s)
    (fun i _ ws g => ws = [iv (usedN r i), iv i] ∧ g = h1) 0 (ws := [iv 0, iv 0]) (h := h1) (s0 := ()) ⟨rfl, rfl⟩ (by omega)
    (fun _ ws g hI => by
      obtain ⟨rfl, rfl⟩ := hI
      unfold f84_l1
      simp only [gv, List.getD_cons_zero, List.getD_cons_succ, asI_int]
      rw [lt_f (by omega), ifB_false]; rfl)
    (fun i c _ ws g hc hI => by
      obtain ⟨rfl, rfl⟩ := hI
      have hi := (List.getElem?_eq_some_iff.1 hc).1
      have hv := (valK_ks (baseA n l (goneD 0) l.length) r (outS i) (inS i)).1 (on_gate hc (by simp))
      refine ⟨[iv (usedN r (i + 1)), iv (i + 1 : Nat)], g, ?_, rfl, rfl⟩
      have hp : (2:Nat) ^ i < 2 ^ 24 := Nat.pow_lt_pow_right (by decide) (by omega)
      have hu := usedN_lt r i
      unfold f84_l1
      simp only [gv, List.getD_cons_zero, List.getD_cons_succ, asI_int, asK_int]
      rw [lt_t (by omega), ifB_true]
      simp only [AM.nil, asP_ptr]
      rw [d115, cell_of nt1.str]
      simp only [List.getElem?_cons_zero, Option.bind_some]
      rw [add64 (by omega) (by omega), kSp, kSp, kA, show ((⟨1, (i : Int) + 1, true⟩ : Sp), (⟨0, (i : Int) + 1, true⟩ : Sp)) = (outS i, inS i) from rfl, lok_of0 keyA under115 zero3 nt1.rm, hv]
      simp only [Option.getD_some, asI_int]
      by_cases h : 0 < r (outS i) (inS i)
      · rw [lt_t h, ifB_true]
        unfold AM.nn
        rw [if_neg (by omega), show (1 : Int) = ((1 : Nat) : Int) from rfl, shl_nat (by omega) (by omega), or_nat (by omega) (by omega)]
        simp only [usedN, if_pos h, Nat.one_mul]
        rfl
      · rw [lt_f h, ifB_false]
        simp only [usedN, if_neg h]
        rfl)
  rw [hg] at q1
  refine p84 (k := 1000) (h1 := h1) ?_ rfl x1
  unfold f84
  rw [bx_eq]
  simp only [Value.cells]
  rw [e1]
  simp only [nx_eq]
  rw [d29, cell_of bx1, show off 0 1 = 1 from rfl]
  simp only [List.getElem?_cons_succ, List.getElem?_cons_zero, Option.bind_some]
  rw [(hs.ext x1).len, List.length_map, lp_eq q1, onE_exit, if_pos rfl]
  rfl
/-- The calls that a greatest flow uses are enough. -/
theorem used_gm {n : Nat} {l : List Kl} {s t : Int} {r : Sp → Sp → Int} {k : Nat} (hl : l.length ≤ 24) (hst : s ≠ t) (m : MaxF n l (goneD 0) s t r k) : GM 1000 t (maskL l fun i => !(usedN r l.length).testBit i) (fun p => p == s) = k := by
  have hX : (fun p => p == s) t = false := by simpa using Ne.symm hst
  have h1 : GM 1000 t (maskL l fun i => !(usedN r l.length).testBit i) (fun p => p == s) ≤ k := by
    rw [m.gm]
    exact GM_more (fun i h => by simp at h) hX (by omega)
  refine Nat.le_antisymm h1 ?_
  have hk := flow_small m.fl hst
  obtain ⟨X, e0, hs, he, hp⟩ := GM_seq (K := 1000) (t := t) (maskL l fun i => !(usedN r l.length).testBit i) (fun p => p == s) (by omega)
  have hm := seq_mono hs
  rw [maskL_len] at he hm
  have := flow_le m.fl (u := fun i => (usedN r l.length).testBit i) (fun i hi _ hu => by
    rw [usedN_bit] at hu
    simp only [Bool.and_eq_false_iff, decide_eq_false_iff_not] at hu
    omega) hm (by rw [e0]; simp) he
  rw [← hp]
  refine Nat.le_trans this (Nat.le_of_eq ?_)
  congr 1
  unfold maskL
  congr 1
  funext q
  simp
end Go.AM
end

section
namespace Go.AM
open Go.Proofs
noncomputable def f86_l1 (_rec : Rec) (_k : Nat) (v0 : Value) (n0 : Int) (ws0 : List Value) (h1 : H) : Option (Ex × List Value × H) :=
 asI .i64 (gv ws0 1) fun n1 =>
 ifB (lt n1 n0) (
 asK (gv ws0 1) fun n2 =>
 six v0 n2 1 fun b2 b3 =>
 ld Try.prog h1 3 b2 b3 fun v8 =>
 asI .i64 v8 fun n3 =>
 nn n3 (
 asI .i64 (gv ws0 0) fun n4 =>
 asI .i64 (gv ws0 1) fun n5 =>
 out .normal [(.int .i64 (or .i64 n4 (shl .i64 1 n3))), (.int .i64 (add .i64 n5 1))] h1)) (
 out (.exit 0) [gv ws0 0, gv ws0 1] h1)
noncomputable def f86 (rec : Rec) (k : Nat) (v0 : Value) (v1 : Value) (v2 : Value) (v3 : Value) (v4 : Value) (v5 : Value) (v6 : Value) (h0 : H) : Option (Value × H) :=
 asP v1 fun b0 b1 =>
 ld Try.prog h0 25 b0 b1 fun v7 =>
 eqv Try.prog 25 v7 (.slice none 0 0) fun q0 =>
 ifB (not q0) (
 some (undef, h0)) (
 len v0 fun n0 =>
 lp k (f86_l1 rec k v0 n0) [(.int .i64 0), (.int .i64 0)] h0 fun e0 ws1 h2 =>
 onE e0 0 (
 asP v2 fun b4 b5 =>
 ld Try.prog h2 31 b4 b5 fun v9 =>
 asP v3 fun b6 b7 =>
 ld Try.prog h2 3 b6 b7 fun v10 =>
 asI .i64 v10 fun n6 =>
 asP v4 fun b8 b9 =>
 ld Try.prog h2 3 b8 b9 fun v11 =>
 asI .i64 v11 fun n7 =>
 calls rec h2 83 [v9, (.int .i64 n6), (.int .i64 n7), gv ws1 0] fun v12 h3 =>
 ext v12 0 fun _ =>
 ext v12 1 fun v14 =>
 asI .i64 v14 fun n8 =>
 asP v5 fun b10 b11 =>
 ld Try.prog h3 3 b10 b11 fun v15 =>
 asI .i64 v15 fun n9 =>
 asP v6 fun b12 b13 =>
 ld Try.prog h3 58 b12 b13 fun v16 =>
 len v16 fun n10 =>
 ifB (eq n8 (sub .i64 (sub .i64 n9 n10) 1)) (
 calls rec h3 75 [v0] fun v17 h4 =>
 asP v1 fun b14 b15 =>
 st Try.prog h4 25 b14 b15 v17 fun h5 =>
 some (undef, h5)) (
 some (undef, h3))) (
 none))
theorem e86 (rec : Rec) (k : Nat) (v0 : Value) (v1 : Value) (v2 : Value) (v3 : Value) (v4 : Value) (v5 : Value) (v6 : Value) (h : H) : bodyT Try.prog E0 SC (XC Try.prog rec k) 86 (Value × H) [.opq v0, .opq v1, .opq v2, .opq v3, .opq v4, .opq v5, .opq v6] h (fun v h => some (v, h)) = f86 rec k v0 v1 v2 v3 v4 v5 v6 h := by kernel_rfl
theorem t86 {k : Nat} {v0 : Value} {v1 : Value} {v2 : Value} {v3 : Value} {v4 : Value} {v5 : Value} {v6 : Value} {h h1 : H} {v : Value} (hh : f86 rn k v0 v1 v2 v3 v4 v5 v6 h = some (v, h1)) : rn 86 #[v0, v1, v2, v3, v4, v5, v6] h = some (v, trunc Try.prog h h1 v) :=
  run_of_bodyT (args := [.opq v0, .opq v1, .opq v2, .opq v3, .opq v4, .opq v5, .opq v6]) rfl ((e86 _ _ _ _ _ _ _ _ _ _).trans hh)
theorem x86 {k : Nat} {v0 : Value} {v1 : Value} {v2 : Value} {v3 : Value} {v4 : Value} {v5 : Value} {v6 : Value} {h h1 : H} {v : Value} (hh : f86 rn k v0 v1 v2 v3 v4 v5 v6 h = some (v, h1)) (hp : plainO v = false) : rn 86 #[v0, v1, v2, v3, v4, v5, v6] h = some (v, h1) := by rw [t86 hh, trunc_not hp]
noncomputable def f48_l2 (_rec : Rec) (_k : Nat) (ws0 : List Value) (h10 : H) (v17 : Value) (n11 : Int) (ws1 : List Value) (h13 : H) : Option (Ex × List Value × H) :=
 asI .i64 (gv ws1 1) fun n12 =>
 ifB (lt n12 n11) (
 asK (gv ws1 1) fun n13 =>
 six v17 n13 3 fun b0 b1 =>
 ld Try.prog h13 56 b0 b1 fun v18 =>
 al h13 56 [(.int .i64 0), (.int .i64 0), (.int .i64 0)] fun h14 =>
 st Try.prog h14 56 (nx h13) 0 v18 fun h15 =>
 asI .i64 (gv ws0 0) fun n14 =>
 asK (gv ws1 1) fun n15 =>
 nn n15 (
 ifB (eq (and .i64 (shr .i64 n14 n15) 1) 1) (
 ld Try.prog h15 29 (nx h10) (off 0 1) fun v19 =>
 ld Try.prog h15 56 (nx h13) 0 fun v20 =>
 bls Try.prog h15 29 1 [(0, v20)] fun v21 h16 =>
 app Try.prog h16 29 29 v19 v21 fun v22 h17 =>
 st Try.prog h17 29 (nx h10) (off 0 1) v22 fun h18 =>
 bls Try.prog h18 25 1 [(0, gv ws1 1)] fun v23 h19 =>
 app Try.prog h19 25 25 (gv ws1 0) v23 fun v24 h20 =>
 asI .i64 (gv ws1 1) fun n16 =>
 out .normal [v24, (.int .i64 (add .i64 n16 1))] h20) (
 asI .i64 (gv ws1 1) fun n17 =>
 out .normal [gv ws1 0, (.int .i64 (add .i64 n17 1))] h15))) (
 out (.exit 2) [gv ws1 0, gv ws1 1] h13)
noncomputable def f48_l3 (_rec : Rec) (_k : Nat) (ws2 : List Value) (h21 : H) (v29 : Value) (n20 : Int) (ws3 : List Value) (h24 : H) : Option (Ex × List Value × H) :=
 asI .i64 (gv ws3 1) fun n21 =>
 ifB (lt n21 n20) (
 asK (gv ws3 1) fun n22 =>
 six v29 n22 1 fun b2 b3 =>
 ld Try.prog h24 3 b2 b3 fun v30 =>
 asI .i64 v30 fun n23 =>
 ld Try.prog h24 25 (nx h21) 0 fun v31 =>
 six (gv ws2 0) n23 1 fun b4 b5 =>
 ld Try.prog h24 3 b4 b5 fun v32 =>
 asI .i64 v32 fun n24 =>
 asK (gv ws3 1) fun n25 =>
 six v31 n25 1 fun b6 b7 =>
 st Try.prog h24 3 b6 b7 (.int .i64 n24) fun h25 =>
 six (gv ws2 0) n23 1 fun b8 b9 =>
 ld Try.prog h25 3 b8 b9 fun v33 =>
 asI .i64 v33 fun n26 =>
 nn n26 (
 asI .i64 (gv ws3 0) fun n27 =>
 asI .i64 (gv ws3 1) fun n28 =>
 out .normal [(.int .i64 (andNot .i64 n27 (shl .i64 1 n26))), (.int .i64 (add .i64 n28 1))] h25)) (
 out (.exit 4) [gv ws3 0, gv ws3 1] h24)
noncomputable def f48_l1 (rec : Rec) (k : Nat) (h0 : H) (h1 : H) (h2 : H) (h5 : H) (h8 : H) (ws0 : List Value) (h10 : H) : Option (Ex × List Value × H) :=
 ld Try.prog h10 58 (nx h8) 0 fun v13 =>
 len v13 fun n8 =>
 ld Try.prog h10 3 (nx h5) 0 fun v14 =>
 asI .i64 v14 fun n9 =>
 ifB (lt n8 n9) (
 ld Try.prog h10 3 (nx h0) 0 fun v15 =>
 asI .i64 v15 fun n10 =>
 bld Try.prog 31 [(0, (.int .i64 n10))] fun v16 =>
 al h10 31 [(.int .i64 0), (.slice none 0 0)] fun h11 =>
 st Try.prog h11 31 (nx h10) 0 v16 fun h12 =>
 ld Try.prog h12 29 (nx h0) (off 0 1) fun v17 =>
 len v17 fun n11 =>
 lp k (f48_l2 rec k ws0 h10 v17 n11) [(.slice none 0 0), (.int .i64 0)] h12 fun e0 ws2 h21 =>
 onE e0 2 (
 al h21 25 [(.slice none 0 0)] fun h22 =>
 ld Try.prog h22 31 (nx h10) 0 fun v25 =>
 ld Try.prog h22 3 (nx h1) 0 fun v26 =>
 asI .i64 v26 fun n18 =>
 ld Try.prog h22 3 (nx h2) 0 fun v27 =>
 asI .i64 v27 fun n19 =>
 calls rec h22 85 [v25, (.int .i64 n18), (.int .i64 n19), (.func (.func 86) #[] #[(pt (nx h21) 0), (pt (nx h10) 0), (pt (nx h1) 0), (pt (nx h2) 0), (pt (nx h5) 0), (pt (nx h8) 0)])] fun _ h23 =>
 ld Try.prog h23 25 (nx h21) 0 fun v29 =>
 len v29 fun n20 =>
 lp k (f48_l3 rec k ws2 h21 v29 n20) [gv ws0 0, (.int .i64 0)] h23 fun e1 ws4 h26 =>
 onE e1 4 (
 ld Try.prog h26 58 (nx h8) 0 fun v34 =>
 ld Try.prog h26 25 (nx h21) 0 fun v35 =>
 bls Try.prog h26 58 1 [(0, v35)] fun v36 h27 =>
 app Try.prog h27 58 58 v34 v36 fun v37 h28 =>
 st Try.prog h28 58 (nx h8) 0 v37 fun h29 =>
 out .normal [gv ws4 0] h29) (
 none)) (
 none)) (
 out (.exit 0) [gv ws0 0] h10)
noncomputable def f48 (rec : Rec) (k : Nat) (v0 : Value) (n0 : Int) (n1 : Int) (h0 : H) : Option (Value × H) :=
 bx h0 31 v0 fun h1 =>
 bx h1 3 (.int .i64 n0) fun h2 =>
 bx h2 3 (.int .i64 n1) fun h3 =>
 ld Try.prog h3 31 (nx h0) 0 fun v1 =>
 ld Try.prog h3 3 (nx h1) 0 fun v2 =>
 asI .i64 v2 fun n2 =>
 ld Try.prog h3 3 (nx h2) 0 fun v3 =>
 asI .i64 v3 fun n3 =>
 calls rec h3 82 [v1, (.int .i64 n2), (.int .i64 n3)] fun v4 h4 =>
 asB v4 fun q0 =>
 ifB (not q0) (
 some ((.tuple #[(.slice none 0 0), (.int .i64 2)]), h4)) (
 ld Try.prog h4 31 (nx h0) 0 fun v5 =>
 ld Try.prog h4 3 (nx h1) 0 fun v6 =>
 asI .i64 v6 fun n4 =>
 ld Try.prog h4 3 (nx h2) 0 fun v7 =>
 asI .i64 v7 fun n5 =>
 calls rec h4 83 [v5, (.int .i64 n4), (.int .i64 n5), (.int .i64 0)] fun v8 h5 =>
 ext v8 0 fun v9 =>
 ext v8 1 fun v10 =>
 asI .i64 v10 fun n6 =>
 al h5 3 [(.int .i64 0)] fun h6 =>
 st Try.prog h6 3 (nx h5) 0 (.int .i64 n6) fun h7 =>
 ld Try.prog h7 31 (nx h0) 0 fun v11 =>
 calls rec h7 84 [v11, v9] fun v12 h8 =>
 asI .i64 v12 fun n7 =>
 al h8 58 [(.slice none 0 0)] fun h9 =>
 lp k (f48_l1 rec k h0 h1 h2 h5 h8) [(.int .i64 n7)] h9 fun e2 _ h30 =>
 onE e2 0 (
 ld Try.prog h30 58 (nx h8) 0 fun v38 =>
 some ((.tuple #[v38, (.int .i64 0)]), h30)) (
 none))
theorem e48 (rec : Rec) (k : Nat) (v0 : Value) (n0 : Int) (n1 : Int) (h : H) : bodyT Try.prog E0 SC (XC Try.prog rec k) 48 (Value × H) [.opq v0, .int .i64 n0, .int .i64 n1] h (fun v h => some (v, h)) = f48 rec k v0 n0 n1 h := by kernel_rfl
theorem t48 {k : Nat} {v0 : Value} {n0 : Int} {n1 : Int} {h h1 : H} {v : Value} (hh : f48 rn k v0 n0 n1 h = some (v, h1)) : rn 48 #[v0, .int .i64 n0, .int .i64 n1] h = some (v, trunc Try.prog h h1 v) :=
  run_of_bodyT (args := [.opq v0, .int .i64 n0, .int .i64 n1]) rfl ((e48 _ _ _ _ _ _).trans hh)
theorem x48 {k : Nat} {v0 : Value} {n0 : Int} {n1 : Int} {h h1 : H} {v : Value} (hh : f48 rn k v0 n0 n1 h = some (v, h1)) (hp : plainO v = false) : rn 48 #[v0, .int .i64 n0, .int .i64 n1] h = some (v, h1) := by rw [t48 hh, trunc_not hp]
noncomputable def f49_l1 (rec : Rec) (_k : Nat) (n0 : Int) (n1 : Int) (h0 : H) (n3 : Int) (ws0 : List Value) (h5 : H) : Option (Ex × List Value × H) :=
 asI .i64 (gv ws0 3) fun n4 =>
 ifB (lt n4 n3) (
 ld Try.prog h5 31 (nx h0) 0 fun v9 =>
 asK (gv ws0 3) fun n5 =>
 nn n5 (
 asI .i64 (gv ws0 1) fun n6 =>
 calls rec h5 83 [v9, (.int .i64 n0), (.int .i64 n1), (.int .i64 (or .i64 n6 (shl .i64 1 n5)))] fun v10 h6 =>
 ext v10 0 fun _ =>
 ext v10 1 fun v12 =>
 asI .i64 v12 fun n7 =>
 asI .i64 (gv ws0 2) fun n8 =>
 ifB (lt n7 n8) (
 bls Try.prog h6 25 1 [(0, gv ws0 3)] fun v13 h7 =>
 app Try.prog h7 25 25 (gv ws0 0) v13 fun v14 h8 =>
 asK (gv ws0 3) fun n9 =>
 nn n9 (
 asI .i64 (gv ws0 1) fun n10 =>
 asI .i64 (gv ws0 3) fun n11 =>
 out .normal [v14, (.int .i64 (or .i64 n10 (shl .i64 1 n9))), (.int .i64 n7), (.int .i64 (add .i64 n11 1))] h8)) (
 asI .i64 (gv ws0 3) fun n12 =>
 out .normal [gv ws0 0, gv ws0 1, gv ws0 2, (.int .i64 (add .i64 n12 1))] h6))) (
 out (.exit 0) [gv ws0 0, gv ws0 1, gv ws0 2, gv ws0 3] h5)
noncomputable def f49 (rec : Rec) (k : Nat) (v0 : Value) (n0 : Int) (n1 : Int) (h0 : H) : Option (Value × H) :=
 bx h0 31 v0 fun h1 =>
 ld Try.prog h1 31 (nx h0) 0 fun v1 =>
 calls rec h1 82 [v1, (.int .i64 n0), (.int .i64 n1)] fun v2 h2 =>
 asB v2 fun q0 =>
 ifB (not q0) (
 some ((.tuple #[(.slice none 0 0), (.int .i64 2)]), h2)) (
 bls Try.prog h2 25 0 [] fun v3 h3 =>
 ld Try.prog h3 31 (nx h0) 0 fun v4 =>
 calls rec h3 83 [v4, (.int .i64 n0), (.int .i64 n1), (.int .i64 0)] fun v5 h4 =>
 ext v5 0 fun _ =>
 ext v5 1 fun v7 =>
 asI .i64 v7 fun n2 =>
 ld Try.prog h4 29 (nx h0) (off 0 1) fun v8 =>
 len v8 fun n3 =>
 lp k (f49_l1 rec k n0 n1 h0 n3) [v3, (.int .i64 0), (.int .i64 n2), (.int .i64 0)] h4 fun e0 ws1 h9 =>
 onE e0 0 (
 some ((.tuple #[gv ws1 0, (.int .i64 0)]), h9)) (
 none))
theorem e49 (rec : Rec) (k : Nat) (v0 : Value) (n0 : Int) (n1 : Int) (h : H) : bodyT Try.prog E0 SC (XC Try.prog rec k) 49 (Value × H) [.opq v0, .int .i64 n0, .int .i64 n1] h (fun v h => some (v, h)) = f49 rec k v0 n0 n1 h := by kernel_rfl
theorem t49 {k : Nat} {v0 : Value} {n0 : Int} {n1 : Int} {h h1 : H} {v : Value} (hh : f49 rn k v0 n0 n1 h = some (v, h1)) : rn 49 #[v0, .int .i64 n0, .int .i64 n1] h = some (v, trunc Try.prog h h1 v) :=
  run_of_bodyT (args := [.opq v0, .int .i64 n0, .int .i64 n1]) rfl ((e49 _ _ _ _ _ _).trans hh)
theorem x49 {k : Nat} {v0 : Value} {n0 : Int} {n1 : Int} {h h1 : H} {v : Value} (hh : f49 rn k v0 n0 n1 h = some (v, h1)) (hp : plainO v = false) : rn 49 #[v0, .int .i64 n0, .int .i64 n1] h = some (v, h1) := by rw [t49 hh, trunc_not hp]
end Go.AM
end

section
namespace Go.AM
open Go.Proofs
/-- How many calls more must be left out. -/
def mcP (l : List Kl) (s t : Int) (gone : Nat) : Nat := GM 1000 t (maskL l (goneD gone)) (fun p => p == s)
/-- What Cut has after some calls: the calls, as_ a set too, and how much still flows. -/
def cutG (l : List Kl) (s t : Int) (i : Nat) (_ : Kl) (z : List Int × Nat × Nat) : List Int × Nat × Nat :=
  if mcP l s t (z.2.1 ||| 2 ^ i) < z.2.2 then (z.1 ++ [(i : Int)], z.2.1 ||| 2 ^ i, mcP l s t (z.2.1 ||| 2 ^ i)) else z
def cutP (l : List Kl) (s t : Int) : List Int := (foldI (cutG l s t) l 0 ([], 0, mcP l s t 0)).1
theorem pairP_parts {n s t : Int} {l : List Kl} (h : pairP n l s t = true) : validP n l = true ∧ (0 ≤ s ∧ s < n) ∧ (0 ≤ t ∧ t < n) ∧ s ≠ t := by
  unfold pairP at h
  simp only [Bool.and_eq_true, decide_eq_true_eq, Bool.not_eq_true', beq_eq_false_iff_ne] at h
  exact ⟨h.1.1.1, h.1.1.2, h.1.2, h.2⟩
theorem mcP_le {l : List Kl} {s t : Int} (hst : s ≠ t) (gone : Nat) : mcP l s t gone ≤ l.length := by
  have := GM_len (K := 1000) (t := t) (cs := maskL l (goneD gone)) (X := fun p => p == s) (by simpa using Ne.symm hst)
  rwa [maskL_len] at this
theorem k82 {R : Type} {n s t : Int} {sl : Value} {l : List Kl} {h : H} (hs : SlR h 56 3 sl (l.map Kl.cells)) (K : Value → H → Option R) : calls rn h 82 [.agg #[iv n, sl], iv s, iv t] K = K (.bool (pairP n l s t)) h := by
  refine calls_eq (xs := [_, _, _]) ?_
  have x1 : Ext h (h.new (.row [iv n, sl] 31 true)) := .new _ _
  refine p82 (k := 0) (h1 := h.new (.row [iv n, sl] 31 true)) ?_ rfl x1
  have hb : ∀ (m o : Nat), (h.new (.row [iv n, sl] 31 true)).rd h.nx o m = if o + m ≤ 2 then some (([iv n, sl].drop o).take m) else none := fun m o => rd_of (blk_new_self _ _)
  unfold f82
  rw [bx_eq]
  simp only [nx_eq, d31, Value.cells]
  rw [hb, if_pos (by omega), Option.bind_some]
  show calls rn _ 71 [.agg #[iv n, sl]] _ = _
  rw [k71 (hs.ext x1), asB_bool]
  cases hv : validP n l with
  | false => simp only [ifB_false, pairP, hv]; rfl
  | true =>
    rw [ifB_true, hb, if_pos (by omega), Option.bind_some]
    show calls rn _ 72 [.agg #[iv n, sl], iv s] _ = _
    rw [k72, asB_bool]
    by_cases hsn : 0 ≤ s ∧ s < n
    · rw [decide_eq_true hsn, ifB_true, hb, if_pos (by omega), Option.bind_some]
      show calls rn _ 72 [.agg #[iv n, sl], iv t] _ = _
      rw [k72, asB_bool]
      by_cases htn : 0 ≤ t ∧ t < n
      · rw [decide_eq_true htn, ifB_true]
        simp only [pairP, hv, decide_eq_true hsn, decide_eq_true htn]
        rfl
      · rw [decide_eq_false htn, ifB_false]
        simp only [pairP, decide_eq_false htn]
        simp
    · rw [decide_eq_false hsn, ifB_false]
      simp only [pairP, decide_eq_false hsn]
      simp
/-- How much flows, in short. -/
theorem s83g {n : Nat} {l : List Kl} {gone : Nat} {sl : Value} {h : H} {s t : Int} (hs : SlR h 56 3 sl (l.map Kl.cells)) (hv : pairP n l s t = true) (hgn : gone < 2 ^ 62) :
    ∃ h' nb, rn 83 #[.agg #[iv n, sl], iv s, iv t, iv gone] h = some (.tuple #[pt nb 0, iv (mcP l s t gone)], h') ∧ Ext h h' := by
  obtain ⟨h1, h2, h3, h4⟩ := pairP_parts hv
  obtain ⟨h', lo, nb, rb, xb, nxs, r, k, e, nt, mf, x, _⟩ := s83 hs h1 hgn h2 h3 h4
  refine ⟨h', nb, ?_, x⟩
  rw [e, mf.gm]
  rfl
theorem s49_bad {n s t : Int} {sl : Value} {l : List Kl} {h : H} (hs : SlR h 56 3 sl (l.map Kl.cells)) (hp : pairP n l s t = false) : ∃ h', rn 49 #[.agg #[iv n, sl], iv s, iv t] h = some (.tuple #[.slice none 0 0, iv 2], h') ∧ Ext h h' := by
  have x1 : Ext h (h.new (.row [iv n, sl] 31 true)) := .new _ _
  refine ⟨_, x49 (k := 0) (h1 := h.new (.row [iv n, sl] 31 true)) ?_ rfl, x1⟩
  have hb : ∀ (m o : Nat), (h.new (.row [iv n, sl] 31 true)).rd h.nx o m = if o + m ≤ 2 then some (([iv n, sl].drop o).take m) else none := fun m o => rd_of (blk_new_self _ _)
  unfold f49
  rw [bx_eq]
  simp only [nx_eq, d31, Value.cells]
  rw [hb, if_pos (by omega), Option.bind_some]
  show calls rn _ 82 [.agg #[iv n, sl], iv s, iv t] _ = _
  rw [k82 (hs.ext x1), asB_bool, hp]
  rfl
theorem cutG_ok {l : List Kl} {s t : Int} {i : Nat} {c : Kl} {z : List Int × Nat × Nat} (h1 : z.1.length ≤ i) (h2 : z.2.1 < 2 ^ i) (h3 : z.2.2 = mcP l s t z.2.1) :
    (cutG l s t i c z).1.length ≤ i + 1 ∧ (cutG l s t i c z).2.1 < 2 ^ (i + 1) ∧ (cutG l s t i c z).2.2 = mcP l s t (cutG l s t i c z).2.1 := by
  have : (2 : Nat) ^ i < 2 ^ (i + 1) := Nat.pow_lt_pow_right (by decide) (by omega)
  unfold cutG
  split
  · refine ⟨by simp; omega, Nat.or_lt_two_pow (by omega) this, rfl⟩
  · exact ⟨by omega, by omega, h3⟩
theorem s49 {n : Nat} {s t : Int} {sl : Value} {l : List Kl} {h : H} (hs : SlR h 56 3 sl (l.map Kl.cells)) (hp : pairP n l s t = true) :
    ∃ v h', rn 49 #[.agg #[iv n, sl], iv s, iv t] h = some (.tuple #[v, iv 0], h') ∧ Ext h h' ∧ SlR h' 3 1 v (cellsI (cutP l s t)) := by
  obtain ⟨hv, hsn, htn, hst⟩ := pairP_parts hp
  have hl24 := (validP_ok hv).2.2.1
  generalize e1 : h.new (.row [iv n, sl] 31 true) = h1
  have n1 : h1.nx = h.nx + 1 := by rw [← e1]; rfl
  have x1 : Ext h h1 := by rw [← e1]; exact .new _ _
  have b1 : h1.blk h.nx = some (.row [iv n, sl] 31 true) := by rw [← e1, blk_new, if_pos rfl]
  generalize e2 : h1.new (.row [] 3 true) = h2
  have n2 : h2.nx = h.nx + 2 := by rw [← e2]; show h1.nx + 1 = _; omega
  have x2 : Ext h1 h2 := by rw [← e2]; exact .new _ _
  have a2 : AqR h1.nx h2 3 1 (.slice (some ⟨h1.nx, 0, none⟩) 0 0) (cellsI []) := by rw [← e2]; exact AqR.lit (l := []) (Nat.le_refl _) rfl (by simp) (by simp)
  obtain ⟨h3, nb, c83, x3⟩ := s83g (gone := 0) (hs.ext (x1.trans x2)) hp (by decide)
  have x13 := x2.trans x3
  obtain ⟨ws', g, q1, hx, hlen, hg, hm, v, ha, rfl⟩ := lp_for (k := 1000) (l := l) (F := f49_l1 rn 1000 s t h l.length) (cutG l s t)
    (fun i z ws g => Ext h1 g ∧ z.1.length ≤ i ∧ z.2.1 < 2 ^ i ∧ z.2.2 = mcP l s t z.2.1 ∧ ∃ v, AqR h1.nx g 3 1 v (cellsI z.1) ∧ ws = [v, iv z.2.1, iv z.2.2, iv i]) 0
    (ws := [.slice (some ⟨h1.nx, 0, none⟩) 0 0, iv 0, iv (mcP l s t 0), iv 0]) (h := h3) (s0 := ([], 0, mcP l s t 0))
    ⟨x13, Nat.le_refl _, Nat.zero_lt_one, rfl, _, a2.ext x3, rfl⟩ (by omega)
    (fun z ws g hI => by
      obtain ⟨hx, hlen, hg, hm, v, ha, rfl⟩ := hI
      unfold f49_l1
      simp only [gv, List.getD_cons_zero, List.getD_cons_succ, asI_int]
      rw [lt_f (by omega), ifB_false]; rfl)
    (fun i c z ws g hc hI => by
      obtain ⟨hx, hlen, hg, hm, v, ha, rfl⟩ := hI
      have hi := (List.getElem?_eq_some_iff.1 hc).1
      have hgo := cutG_ok (l := l) (s := s) (t := t) (c := c) hlen hg hm
      have p1 : (2 : Nat) ^ i < 2 ^ 24 := Nat.pow_lt_pow_right (by decide) (by omega)
      have hor : z.2.1 ||| 2 ^ i < 2 ^ 24 := Nat.or_lt_two_pow (by omega) p1
      have bg : g.blk h.nx = some (.row [iv n, sl] 31 true) := by rw [hx.blk _ (by omega), b1]
      obtain ⟨h6, nb6, c6, x6⟩ := s83g (gone := z.2.1 ||| 2 ^ i) (hs.ext (x1.trans hx)) hp (by omega)
      have hm6 := mcP_le (l := l) hst (z.2.1 ||| 2 ^ i)
      have hm0 := mcP_le (l := l) hst z.2.1
      have start : f49_l1 rn 1000 s t h l.length [v, iv z.2.1, iv z.2.2, iv i] g = (if mcP l s t (z.2.1 ||| 2 ^ i) < z.2.2 then
          bls Try.prog h6 25 1 [(0, iv i)] fun v13 h7 => app Try.prog h7 25 25 v v13 fun v14 h8 => some (.normal, [v14, iv (z.2.1 ||| 2 ^ i : Nat), iv (mcP l s t (z.2.1 ||| 2 ^ i)), iv (i + 1 : Nat)], h8)
          else some (.normal, [v, iv z.2.1, iv z.2.2, iv (i + 1 : Nat)], h6)) := by
        unfold f49_l1
        simp only [gv, List.getD_cons_zero, List.getD_cons_succ, asI_int, asK_int]
        rw [lt_t (by omega), ifB_true]
        simp only [nx_eq, d31]
        rw [rd_all (n := 2) bg rfl, Option.bind_some]
        unfold AM.nn
        rw [if_neg (by omega), shl1_nat (by omega), or_nat (by omega) (by omega)]
        refine (calls_eq (xs := [_, _, _, _]) c6).trans ?_
        rw [ext20, ext21, asI_int]
        rw [add64 (by omega) (by omega)]
        by_cases hlt : mcP l s t (z.2.1 ||| 2 ^ i) < z.2.2
        · rw [lt_t (by omega), ifB_true, if_pos hlt]
          simp only [if_neg (show ¬ ((i : Int) < 0) by omega)]
          rfl
        · rw [lt_f (by omega), ifB_false, if_neg hlt]
          rfl
      rw [start]
      have a6 := ha.ext x6
      by_cases hlt : mcP l s t (z.2.1 ||| 2 ^ i) < z.2.2
      · rw [if_pos hlt]
        obtain ⟨v', h9, e9, a9, n9, k9, b9, hb9, hb9'⟩ := a6.push app25 app25 (bls25 (i : Int)) rfl rfl (by simp; omega) (by have := x6.nx; have := hx.nx; omega)
        refine ⟨_, h9, e9 _, ⟨by have := hx.nx; have := x6.nx; omega, fun q hq => ?_⟩, hgo.1, hgo.2.1, hgo.2.2, v', ?_, ?_⟩
        · rw [k9 q (by have := hx.nx; have := x6.nx; omega) (fun e => by have := (a6.blkOf e).1; omega)]
          rw [x6.blk _ (by have := hx.nx; omega), hx.blk _ hq]
        · simp only [cutG, if_pos hlt]
          simpa using a9
        · simp only [cutG, if_pos hlt]
      · rw [if_neg hlt]
        refine ⟨_, h6, rfl, hx.trans x6, hgo.1, hgo.2.1, hgo.2.2, v, ?_, ?_⟩
        · simp only [cutG, if_neg hlt]; exact a6
        · simp only [cutG, if_neg hlt])
  refine ⟨v, g, x49 (k := 1000) ?_ (by obtain ⟨x, y, z, hz⟩ := ha.isSl; rw [hz]; rfl), x1.trans hx, ha.slR⟩
  unfold f49
  rw [bx_eq]
  simp only [nx_eq, d31, d29, Value.cells]
  rw [e1, rd_all (n := 2) b1 rfl, Option.bind_some]
  refine (k82 (hs.ext x1) _).trans ?_
  rw [asB_bool, hp, Bool.not_true, ifB_false, bls_some (bls25e h1), e2]
  have b2 : h2.blk h.nx = some (.row [iv n, sl] 31 true) := by rw [x2.blk _ (by omega), b1]
  have b3 : h3.blk h.nx = some (.row [iv n, sl] 31 true) := by rw [x3.blk _ (by omega), b2]
  rw [rd_all (n := 2) b2 rfl, Option.bind_some]
  refine (calls_eq (xs := [_, _, _, _]) c83).trans ?_
  rw [ext20, ext21, asI_int, cell_of b3, show off 0 1 = 1 from rfl]
  simp only [List.getElem?_cons_succ, List.getElem?_cons_zero, Option.bind_some]
  rw [(hs.ext (x1.trans x13)).len, List.length_map, lp_eq q1, onE_exit, if_pos rfl]
  rfl
end Go.AM
end

section
namespace Go.AM
open Go.Proofs
variable {R : Type}
abbrev flatK (l : List Kl) : List Value := (l.map Kl.cells).flatten
theorem flatK_cons (c : Kl) (l : List Kl) : flatK (c :: l) = iv c.a :: iv c.b :: iv c.t :: flatK l := rfl
theorem flatK_len : ∀ l : List Kl, (flatK l).length = l.length * 3
  | [] => rfl
  | c :: l => by rw [flatK_cons]; simp only [List.length_cons, flatK_len l]; omega
theorem setAt_flat : ∀ (l : List Kl) (i : Nat) (x : Kl), i < l.length → setAt (flatK l) (i * 3) x.cells = flatK (l.set i x)
  | [], _, _, h => by simp at h
  | c :: l, 0, x, _ => rfl
  | c :: l, i + 1, x, h => by
    have := setAt_flat l i x (by simpa using h)
    rw [List.set_cons_succ, flatK_cons, flatK_cons, ← this]
    rw [show (i + 1) * 3 = i * 3 + 1 + 1 + 1 by omega]
    simp only [setAt, Kl.cells, List.set_cons_succ, Nat.add_succ, Nat.add_zero]
structure KA (h : H) (b : Nat) (v : Value) (l : List Kl) : Prop where
  val : ∃ c, v = .slice (some ⟨b, 0, none⟩) l.length c ∧ l.length ≤ capK c ∧ capK c < U
  lt : b < h.nx
  row : h.blk b = some (.row (flatK l) 56 true)
theorem KA.ext {h h' : H} {b : Nat} {v : Value} {l : List Kl} (a : KA h b v l) (x : Ext h h') : KA h' b v l := ⟨a.val, Nat.lt_of_lt_of_le a.lt x.nx, (x.blk _ a.lt).trans a.row⟩
theorem KA.wrc {h : H} {b : Nat} {v : Value} {l : List Kl} (a : KA h b v l) {i : Nat} (hi : i < l.length) (x : Kl) : AM.wrc 3 h b (i * 3) (.agg #[iv x.a, iv x.b, iv x.t]) = some (h.set b (.row (flatK (l.set i x)) 56 true)) := by
  unfold AM.wrc
  rw [a.row]
  simp only
  rw [if_pos ⟨rfl, by rw [flatK_len]; simp [Value.cells]; omega, by rfl⟩, ← setAt_flat l i x hi]
  rfl
end Go.AM
end

section
namespace Go.AM
/-- No two calls at one time share a person. -/
def apartK (c d : Kl) : Prop := c.t ≤ d.t ∧ (c.t = d.t → c.a ≠ d.a ∧ c.a ≠ d.b ∧ c.b ≠ d.a ∧ c.b ≠ d.b)
structure VP (n : Int) (l : List Kl) : Prop where
  n1 : 1 ≤ n
  n7 : n ≤ 7
  len : l.length ≤ 24
  ok : ∀ c ∈ l, okC n c = true
  two : l.Pairwise apartK
theorem clash_f {c d : Kl} : clash c d = false ↔ (d.t = c.t → d.a ≠ c.a ∧ d.a ≠ c.b ∧ d.b ≠ c.a ∧ d.b ≠ c.b) := by
  unfold clash Kl.has
  simp
  constructor
  · intro h e
    have := h e
    grind
  · intro h e
    have := h e
    grind
theorem vp_iff {n : Int} {l : List Kl} : validP n l = true ↔ VP n l := by
  constructor
  · intro h
    obtain ⟨h1, h2, h3, h4⟩ := validP_ok h
    refine ⟨h1, h2, by omega, fun c hc => ?_, ?_⟩
    · obtain ⟨i, hi⟩ := List.getElem?_of_mem hc
      have := h4 i c hi
      first | exact this | exact this.1
    · rw [List.pairwise_iff_getElem]
      intro i j hi hj hij
      obtain ⟨q1, q2⟩ := validP_sorted h hij (List.getElem?_eq_getElem hi) (List.getElem?_eq_getElem hj)
      exact ⟨q1, fun e => (clash_f.1 q2) e⟩
  · rintro ⟨h1, h2, h3, h4, h5⟩
    unfold validP
    simp only [Bool.and_eq_true, Bool.not_eq_true', decide_eq_false_iff_not, Int.not_lt, List.all_eq_true, List.mem_range]
    refine ⟨⟨⟨h1, h2⟩, by omega⟩, fun i hi => ?_⟩
    unfold rowOk
    rw [List.getElem?_eq_getElem hi]
    simp only [Bool.and_eq_true, Bool.not_eq_true']
    refine ⟨⟨h4 _ (List.getElem_mem hi), ?_⟩, ?_⟩
    · by_cases h0 : 0 < i
      · have h6 : i - 1 < l.length := by omega
        have := (List.pairwise_iff_getElem.1 h5 (i - 1) i h6 hi (by omega)).1
        simp [h6]
        omega
      · simp [h0]
    · rw [List.any_eq_false]
      intro d hd
      obtain ⟨j, hj⟩ := List.getElem?_of_mem hd
      have hji : j < i := by have := (List.getElem?_eq_some_iff.1 hj).1; rw [List.length_take] at this; omega
      rw [List.getElem?_take_of_lt hji] at hj
      obtain ⟨hj1, rfl⟩ := List.getElem?_eq_some_iff.1 hj
      have := (List.pairwise_iff_getElem.1 h5 j i hj1 hi hji).2
      rw [Bool.not_eq_true, clash_f]
      exact this
end Go.AM
end

section
namespace Go.AM
open Go.Proofs
/-- The set of a way's calls. -/
def maskN (w : List Int) : Nat := w.foldl (fun a i => a ||| 2 ^ i.toNat) 0
theorem maskN_go : ∀ (w : List Int) (a j : Nat), (w.foldl (fun a i => a ||| 2 ^ i.toNat) a).testBit j = (a.testBit j || w.any fun i => i.toNat == j) := by
  intro w
  induction w with
  | nil => intro a j; simp
  | cons i w ih =>
    intro a j
    rw [List.foldl_cons, ih, Nat.testBit_or, Nat.testBit_two_pow, List.any_cons, Bool.or_assoc]
    congr 2
theorem maskN_bit (w : List Int) (j : Nat) : (maskN w).testBit j = true ↔ ∃ i ∈ w, i.toNat = j := by
  unfold maskN
  rw [maskN_go]
  simp
theorem maskN_lt {w : List Int} {m : Nat} (h : ∀ i ∈ w, i.toNat < m) : maskN w < 2 ^ m := by
  refine Nat.lt_of_not_le fun hc => ?_
  obtain ⟨j, hj, hb⟩ := Nat.exists_ge_and_testBit_of_ge_two_pow hc
  obtain ⟨i, hi, e⟩ := (maskN_bit w j).1 hb
  have := h i hi
  omega
theorem oth_a {c : Kl} {p : Int} (h : c.a = p) : c.oth p = c.b := by unfold Kl.oth; omega
theorem oth_b {c : Kl} {p : Int} (h : c.b = p) : c.oth p = c.a := by unfold Kl.oth; omega
theorem two_get {l : List Kl} (h : l.Pairwise apartK) {i j : Nat} {c d : Kl} (hc : l[i]? = some c) (hd : l[j]? = some d) (hij : i < j) : apartK c d := by
  obtain ⟨hi, e1⟩ := List.getElem?_eq_some_iff.1 hc
  obtain ⟨hj, e2⟩ := List.getElem?_eq_some_iff.1 hd
  have := List.pairwise_iff_getElem.1 h i j hi hj hij
  rw [e1, e2] at this
  exact this
/-- A way in time is a walk. -/
theorem run_walk {n : Int} {l : List Kl} (v : VP n l) {d : Nat → Bool} : ∀ (w : List Int) (st st' : Int × Int × Int) (m : Nat), (∀ (k : Nat) (c : Kl), k < m → l[k]? = some c → c.t ≤ st.2.1) → runP l w st = some st' → (∀ i ∈ w, d i.toNat = false) →
    runW (maskL l d) (w.map Int.toNat) st.1 = some st'.1 ∧ Asc m (w.map Int.toNat) := by
  intro w
  induction w with
  | nil => intro st st' m _ h _; cases h; exact ⟨rfl, trivial⟩
  | cons i w ih =>
    intro st st' m hm h hd
    simp only [runP] at h
    split at h
    · rename_i hi
      split at h
      · cases h
      · rename_i c hc
        split at h
        · rename_i hg
          obtain ⟨g1, g2, g3, _⟩ := goes_spec v.n7 (v.ok c (List.mem_of_getElem? hc)) hg
          have hdi := hd i List.mem_cons_self
          obtain ⟨r1, r2⟩ := ih _ st' (i.toNat + 1) (fun k c' hk hc' => by
            simp only
            rcases Nat.lt_or_ge k i.toNat with h1 | h1
            · exact (two_get v.two hc' hc h1).1
            · have : k = i.toNat := by omega
              subst this
              rw [hc] at hc'; cases hc'; exact Int.le_refl _) h fun j hj => hd j (List.mem_cons_of_mem _ hj)
          simp only at r1
          refine ⟨?_, ?_, r2⟩
          · simp only [List.map_cons, runW, maskL_get, hc, Option.map_some, hdi, Bool.not_false]
            unfold Kl.has at g2
            simp only [Bool.or_eq_true, beq_iff_eq] at g2
            by_cases ha : c.a = st.1
            · rw [if_pos ha]; rw [oth_a ha] at r1; exact r1
            · rw [if_neg ha]
              have hb := g2.resolve_left ha
              rw [if_pos hb]; rw [oth_b hb] at r1; exact r1
          · rcases Nat.lt_or_ge i.toNat m with h1 | h1
            · have := hm _ _ h1 hc; omega
            · exact h1
        · cases h
    · cases h
theorem vis_nn {n : Int} {l : List Kl} (v : VP n l) {d : Nat → Bool} : ∀ (w : List Nat) (q x : Int), x ∈ visits (maskL l d) w q → 0 ≤ x := by
  intro w
  induction w with
  | nil => intro q x hx; cases hx
  | cons j w ihw =>
    intro q x hx
    simp only [visits, maskL_get] at hx
    cases hj : l[j]? with
    | none => rw [hj] at hx; cases hx
    | some c' =>
      rw [hj] at hx
      obtain ⟨o1, o2, _⟩ := okC_iff.1 (v.ok c' (List.mem_of_getElem? hj))
      simp only [Option.map_some] at hx
      cases hdj : d j with
      | true => rw [hdj] at hx; cases hx
      | false =>
        rw [hdj] at hx
        simp only [Bool.not_false] at hx
        split at hx
        · rcases List.mem_cons.1 hx with h | h
          · rw [h]; exact o2.1
          · exact ihw _ _ h
        · split at hx
          · rcases List.mem_cons.1 hx with h | h
            · rw [h]; exact o1.1
            · exact ihw _ _ h
          · cases hx
/-- A walk that meets nobody twice is a way in time. -/
theorem walk_run {n : Int} {l : List Kl} (v : VP n l) {d : Nat → Bool} {t : Int} : ∀ (w : List Nat) (p tm : Int) (K m : Nat), K < 2 ^ 7 → runW (maskL l d) w p = some t → Asc m w →
    (∀ (k : Nat) (c : Kl), m ≤ k → l[k]? = some c → c.has p = true → tm < c.t) → (∀ q ∈ visits (maskL l d) w p, K.testBit q.toNat = false) → (visits (maskL l d) w p).Nodup →
    ∃ st', runP l (w.map fun (i : Nat) => (i : Int)) (p, tm, (K : Int)) = some st' ∧ st'.1 = t := by
  intro w
  induction w with
  | nil => intro p tm K m _ h _ _ _ _; cases h; exact ⟨_, rfl, rfl⟩
  | cons i w ih =>
    intro p tm K m hK h ha hT hs hn
    simp only [runW, maskL_get] at h
    simp only [visits, maskL_get] at hs hn
    cases hc : l[i]? with
    | none => rw [hc] at h; cases h
    | some c =>
      rw [hc] at h hs hn
      simp only [Option.map_some] at h hs hn
      cases hd : d i with
      | true => rw [hd] at h; cases h
      | false =>
        rw [hd] at h hs hn
        simp only [Bool.not_false] at h hs hn
        have hil := (List.getElem?_eq_some_iff.1 hc).1
        have hok := v.ok c (List.mem_of_getElem? hc)
        obtain ⟨ok1, ok2, ok3, _⟩ := okC_iff.1 hok
        have n7 := v.n7
        have fin : ∀ q, c.has p = true → c.oth p = q → (0 ≤ q ∧ q < n) → c.has q = true → runW (maskL l d) w q = some t → (∀ x ∈ q :: visits (maskL l d) w q, K.testBit x.toNat = false) → (q :: visits (maskL l d) w q).Nodup → ∃ st', runP l ((i :: w).map fun (i : Nat) => (i : Int)) (p, tm, (K : Int)) = some st' ∧ st'.1 = t := by
          intro q hp hq hqn hqc hr hs hn
          obtain ⟨e1, e2⟩ := withP_nat (p := q) hK ⟨hqn.1, by omega⟩
          rw [List.nodup_cons] at hn
          obtain ⟨st', r1, r2⟩ := ih q c.t (K ||| 2 ^ q.toNat) (i + 1) e2 hr ha.2 (fun k c' hk hc' hq' => by
            have h2 := two_get v.two hc hc' (show i < k by omega)
            rcases Int.lt_or_eq_of_le h2.1 with h3 | h3
            · exact h3
            · exfalso
              obtain ⟨h4, h5, h6, h7⟩ := h2.2 h3
              unfold Kl.has at hqc hq'
              simp only [Bool.or_eq_true, beq_iff_eq] at hqc hq'
              rcases hqc with h | h <;> rcases hq' with h' | h'
              · exact h4 (by rw [h, h'])
              · exact h5 (by rw [h, h'])
              · exact h6 (by rw [h, h'])
              · exact h7 (by rw [h, h'])) (fun x hx => by
            rw [Nat.testBit_or, hs x (List.mem_cons_of_mem _ hx), Nat.testBit_two_pow]
            simp only [Bool.false_or, decide_eq_false_iff_not]
            intro e
            have hx0 : 0 ≤ x := by
              exact vis_nn v _ _ x hx
            have e2 : x = q := by omega
            rw [e2] at hx
            exact hn.1 hx) hn.2
          refine ⟨st', ?_, r2⟩
          simp only [List.map_cons, runP]
          rw [if_pos ⟨by omega, by omega⟩, Int.toNat_natCast, hc]
          simp only
          have hgo : goes c p tm (K : Int) = true := by
            unfold goes
            rw [hq, inP_nat hK ⟨hqn.1, by omega⟩, hs q List.mem_cons_self, hp]
            have := hT i c ha.1 hc hp
            simp; omega
          rw [if_pos hgo, hq, e1]
          exact r1
        have hasA : c.has c.a = true := by simp [Kl.has]
        have hasB : c.has c.b = true := by simp [Kl.has]
        by_cases h1 : c.a = p
        · rw [if_pos h1] at h hs hn
          exact fin c.b (by rw [← h1]; exact hasA) (oth_a h1) ok2 hasB h hs hn
        · rw [if_neg h1] at h hs hn
          by_cases h2 : c.b = p
          · rw [if_pos h2] at h hs hn
            exact fin c.a (by rw [← h2]; exact hasB) (oth_b h2) ok1 hasA h hs hn
          · rw [if_neg h2] at h; cases h
theorem way_walk {n s t : Int} {l : List Kl} (v : VP n l) (hs : 0 ≤ s ∧ s < n) (hst : s ≠ t) {d : Nat → Bool} {w : List Int} (hw : w ∈ allWays l s t) (hd : ∀ i ∈ w, d i.toNat = false) :
    runW (maskL l d) (w.map Int.toNat) s = some t ∧ Asc 0 (w.map Int.toNat) := by
  obtain ⟨st', h1, h2⟩ := (check_run (vp_iff.2 v) hs w).1 ((mem_all (vp_iff.2 v) hst w).1 hw)
  obtain ⟨r1, r2⟩ := run_walk v w (st0 s) st' 0 (fun k c hk => by omega) h1 hd
  rw [h2] at r1
  exact ⟨r1, r2⟩
/-- A walk holds a way in time. -/
theorem walk_ways {n s t : Int} {l : List Kl} (v : VP n l) (hs : 0 ≤ s ∧ s < n) (hst : s ≠ t) {d : Nat → Bool} {w : List Nat} (hw : runW (maskL l d) w s = some t) (ha : Asc 0 w) :
    ∃ w' ∈ allWays l s t, ∀ i ∈ w', 0 ≤ i ∧ i.toNat ∈ w := by
  have hne : ∀ (i : Nat) (c : Kl × Bool), (maskL l d)[i]? = some c → c.1.a ≠ c.1.b := by
    intro i c hc
    rw [maskL_get] at hc
    cases hi : l[i]? with
    | none => rw [hi] at hc; cases hc
    | some c' =>
      rw [hi] at hc
      cases hc
      exact (okC_iff.1 (v.ok c' (List.mem_of_getElem? hi))).2.2.1
  obtain ⟨u, h1, h2, h3, h4⟩ := walk_way hne w s 0 hw ha
  rw [List.nodup_cons] at h3
  have n7 := v.n7
  obtain ⟨k, rfl⟩ := Int.eq_ofNat_of_zero_le hs.1
  have hk : 2 ^ k < 2 ^ 7 := Nat.pow_lt_pow_right (by decide) (by omega)
  have vis0 : ∀ q ∈ visits (maskL l d) u (k : Int), 0 ≤ q := vis_nn v _ _
  obtain ⟨st', r1, r2⟩ := walk_run v u (k : Int) 0 (2 ^ k) 0 hk h1 h2 (fun i c _ hc _ => by
    have := (okC_iff.1 (v.ok c (List.mem_of_getElem? hc))).2.2.2.1
    omega) (fun q hq => by
    rw [Nat.testBit_two_pow, decide_eq_false_iff_not]
    intro e
    have := vis0 q hq
    have e2 : q = (k : Int) := by omega
    rw [e2] at hq
    exact h3.1 hq) h3.2
  refine ⟨u.map fun (i : Nat) => (i : Int), (mem_all (vp_iff.2 v) hst _).2 ((check_run (vp_iff.2 v) hs _).2 ⟨st', ?_, r2⟩), fun i hi => ?_⟩
  · unfold st0
    rw [shl1_nat (by omega)]
    exact r1
  · obtain ⟨j, hj, rfl⟩ := List.mem_map.1 hi
    exact ⟨by omega, by rw [Int.toNat_natCast]; exact h4 j hj⟩
theorem runW_mask {l : List Kl} {d d' : Nat → Bool} : ∀ (w : List Nat) (p : Int), (∀ i ∈ w, d' i = d i) → runW (maskL l d') w p = runW (maskL l d) w p := by
  intro w
  induction w with
  | nil => intro p _; rfl
  | cons i w ih =>
    intro p h
    have hi := h i List.mem_cons_self
    have ih' := fun p => ih p fun j hj => h j (List.mem_cons_of_mem _ hj)
    simp only [runW, maskL_get, hi, ih']
/-- A way that can be taken so that the others still are enough. -/
theorem pick_way {n s t : Int} {l : List Kl} (v : VP n l) (hs : 0 ≤ s ∧ s < n) (hst : s ≠ t) {r : Nat} (h : mcP l s t 0 = r + 1) : ∃ w ∈ allWays l s t, mcP l s t (maskN w) = r := by
  have hX : (fun p => p == s) t = false := by simpa using Ne.symm hst
  have l24 := v.len
  obtain ⟨ws, h1, h2⟩ := menger (K := 1000) (t := t) (maskL l (goneD 0)) (s := s) (k := r + 1) (Nat.le_of_eq h.symm)
  obtain ⟨w', hw', hsub⟩ := walk_ways v hs hst (h1 0 (by omega)).1 (h1 0 (by omega)).2
  refine ⟨w', hw', ?_⟩
  have lo : r ≤ mcP l s t (maskN w') := by
    refine GM_ge (ws := fun j => ws (j + 1)) (fun j hj => ⟨?_, (h1 (j + 1) (by omega)).2⟩) (fun j j' hj hj' hne => h2 _ _ (by omega) (by omega) (by omega)) (by have := mcP_le (l := l) hst 0; omega)
    rw [runW_mask (d := goneD 0)]
    · exact (h1 (j + 1) (by omega)).1
    · intro i hi
      have : goneD (maskN w') i = false := by
        rw [Bool.eq_false_iff]
        intro hb
        obtain ⟨x, hx, e⟩ := (maskN_bit w' i).1 hb
        have := (hsub x hx).2
        rw [e] at this
        exact h2 0 (j + 1) (by omega) (by omega) (by omega) i this hi
      rw [this]; simp
  have hi : mcP l s t (maskN w') + 1 ≤ mcP l s t 0 := by
    obtain ⟨q1, q2⟩ := way_walk v hs hst (d := goneD 0) hw' (fun i _ => by simp)
    refine GM_walk q1 q2 hst (by omega) fun i => ?_
    rw [maskN_bit]
    simp
  omega
/-- The calls of a set, with their places. -/
def partZ (l : List Kl) (left : Nat) : List (Kl × Nat) := l.zipIdx.filter fun q => left.testBit q.2
def partL (l : List Kl) (left : Nat) : List Kl := (partZ l left).map (·.1)
theorem partZ_get {l : List Kl} {left j : Nat} {q : Kl × Nat} (h : (partZ l left)[j]? = some q) : l[q.2]? = some q.1 ∧ left.testBit q.2 = true := by
  have h1 := List.mem_filter.1 (List.mem_of_getElem? h)
  have h2 := List.mem_zipIdx_iff_getElem?.1 h1.1
  exact ⟨h2, h1.2⟩
theorem partL_sub (l : List Kl) (left : Nat) : (partL l left).Sublist l := by
  unfold partL partZ
  have : (l.zipIdx.filter fun q => left.testBit q.2).Sublist l.zipIdx := List.filter_sublist
  have := this.map (·.1)
  rwa [List.zipIdx_map_fst] at this
theorem VP.part {n : Int} {l : List Kl} (v : VP n l) (left : Nat) : VP n (partL l left) :=
  ⟨v.n1, v.n7, Nat.le_trans (partL_sub l left).length_le v.len, fun c hc => v.ok c ((partL_sub l left).subset hc), v.two.sublist (partL_sub l left)⟩
/-- The places of a part's calls. -/
def placeZ (l : List Kl) (left : Nat) (i : Int) : Int := ((((partZ l left)[i.toNat]?).map (·.2)).getD 0 : Nat)
theorem placeZ_get {l : List Kl} {left : Nat} {i : Int} (h : i.toNat < (partL l left).length) : l[(placeZ l left i).toNat]? = (partL l left)[i.toNat]? ∧ left.testBit (placeZ l left i).toNat = true := by
  have hz : i.toNat < (partZ l left).length := by simpa [partL] using h
  obtain ⟨q, hq⟩ : ∃ q, (partZ l left)[i.toNat]? = some q := ⟨_, List.getElem?_eq_getElem hz⟩
  obtain ⟨h1, h2⟩ := partZ_get hq
  unfold placeZ partL
  rw [hq, List.getElem?_map, hq]
  simp only [Option.map_some, Option.getD_some, Int.toNat_natCast]
  exact ⟨h1, h2⟩
theorem GM_part {K : Nat} {t : Int} {l : List Kl} {left : Nat} {D : Nat → Bool} (hD : ∀ i, left.testBit i = false → D i = true) (X : Int → Bool) :
    GM K t (maskL l D) X = GM K t (maskL (partL l left) fun j => D (placeZ l left (j : Int)).toNat) X := by
  rw [← GM_filter (maskL l D), ← GM_filter (maskL (partL l left) _)]
  congr 1
  have e1 : maskL (partL l left) (fun j => D (placeZ l left (j : Int)).toNat) = (partZ l left).map fun q => (q.1, !D q.2) := by
    refine List.ext_getElem? fun j => ?_
    rw [maskL_get, List.getElem?_map]
    unfold partL placeZ
    rw [List.getElem?_map, Int.toNat_natCast]
    cases h : (partZ l left)[j]? <;> simp [h]
  rw [e1]
  unfold maskL partZ
  rw [List.filter_map, List.filter_map, List.filter_filter]
  congr 1
  refine List.filter_congr fun q _ => ?_
  simp only [Function.comp]
  cases hb : left.testBit q.2 with
  | true => simp
  | false => simp [hD q.2 hb]
theorem place_run {l : List Kl} {left : Nat} : ∀ (w : List Int) (st st' : Int × Int × Int), runP (partL l left) w st = some st' → runP l (w.map (placeZ l left)) st = some st' := by
  intro w
  induction w with
  | nil => intro st st' h; exact h
  | cons i w ih =>
    intro st st' h
    simp only [runP] at h
    split at h
    · rename_i hi
      have hg := placeZ_get (l := l) (left := left) (i := i) (by omega)
      split at h
      · cases h
      · rename_i c hc
        split at h
        · rename_i hgo
          rw [hc] at hg
          have hlt := (List.getElem?_eq_some_iff.1 hg.1).1
          simp only [List.map_cons, runP]
          have h0 : 0 ≤ placeZ l left i := by unfold placeZ; omega
          rw [if_pos ⟨h0, by omega⟩, hg.1]
          simp only
          rw [if_pos hgo]
          exact ih _ _ h
        · cases h
    · cases h
theorem place_way {n s t : Int} {l : List Kl} (v : VP n l) (hs : 0 ≤ s ∧ s < n) (hst : s ≠ t) {left : Nat} {w : List Int} (hw : w ∈ allWays (partL l left) s t) : w.map (placeZ l left) ∈ allWays l s t := by
  obtain ⟨st', h1, h2⟩ := (check_run (vp_iff.2 (v.part left)) hs w).1 ((mem_all (vp_iff.2 (v.part left)) hst w).1 hw)
  exact (mem_all (vp_iff.2 v) hst _).2 ((check_run (vp_iff.2 v) hs _).2 ⟨st', place_run w _ _ h1, h2⟩)
end Go.AM
end

section
namespace Go.AM
open Go.Proofs
/-- The first way without whose calls so many ways still are left. -/
def pickP (pl : List Kl) (s t : Int) (r : Nat) (σ : Option (List Int)) (w : List Int) : Option (List Int) :=
  match σ with
  | some b => some b
  | none => if mcP pl s t (maskN w) = r then some w else none
theorem pick_fold (pl : List Kl) (s t : Int) (r : Nat) : ∀ (ws : List (List Int)) (σ : Option (List Int)), (∀ b, σ = some b → mcP pl s t (maskN b) = r) →
    (∀ b, ws.foldl (pickP pl s t r) σ = some b → (σ = some b ∨ b ∈ ws) ∧ mcP pl s t (maskN b) = r) ∧ (ws.foldl (pickP pl s t r) σ = none → σ = none ∧ ∀ w ∈ ws, mcP pl s t (maskN w) ≠ r) := by
  intro ws
  induction ws with
  | nil => intro σ h; exact ⟨fun b hb => ⟨.inl hb, h b hb⟩, fun h => ⟨h, fun w hw => by cases hw⟩⟩
  | cons w ws ih =>
    intro σ h
    rw [List.foldl_cons]
    cases σ with
    | some b0 =>
      obtain ⟨h1, h2⟩ := ih (some b0) h
      refine ⟨fun b hb => ⟨?_, (h1 b hb).2⟩, fun hn => ?_⟩
      · exact (h1 b hb).1.imp id (List.mem_cons_of_mem _)
      · have := (h2 hn).1; cases this
    | none =>
      by_cases hr : mcP pl s t (maskN w) = r
      · have e : pickP pl s t r none w = some w := by simp [pickP, hr]
        rw [e]
        obtain ⟨h1, h2⟩ := ih (some w) (fun b hb => by cases hb; exact hr)
        refine ⟨fun b hb => ⟨.inr ?_, (h1 b hb).2⟩, fun hn => by have := (h2 hn).1; cases this⟩
        rcases (h1 b hb).1 with h | h
        · cases h; exact List.mem_cons_self
        · exact List.mem_cons_of_mem _ h
      · have e : pickP pl s t r none w = none := by simp [pickP, hr]
        rw [e]
        obtain ⟨h1, h2⟩ := ih none (fun b hb => by cases hb)
        refine ⟨fun b hb => ⟨.inr ?_, (h1 b hb).2⟩, fun hn => ⟨rfl, fun w' hw' => ?_⟩⟩
        · rcases (h1 b hb).1 with h | h
          · cases h
          · exact List.mem_cons_of_mem _ h
        · rcases List.mem_cons.1 hw' with rfl | hw'
          · exact hr
          · exact (h2 hn).2 w' hw'
/-- The way that is taken. -/
def takeW (pl : List Kl) (s t : Int) (r : Nat) : Option (List Int) := (allWays pl s t).foldl (pickP pl s t r) none
theorem take_some {n s t : Int} {pl : List Kl} (v : VP n pl) (hs : 0 ≤ s ∧ s < n) (hst : s ≠ t) {r : Nat} (h : mcP pl s t 0 = r + 1) : ∃ w, takeW pl s t r = some w ∧ w ∈ allWays pl s t ∧ mcP pl s t (maskN w) = r := by
  obtain ⟨h1, h2⟩ := pick_fold pl s t r (allWays pl s t) none (fun b hb => by cases hb)
  unfold takeW
  cases hw : (allWays pl s t).foldl (pickP pl s t r) none with
  | some w =>
    obtain ⟨h3, h4⟩ := h1 w hw
    rcases h3 with h3 | h3
    · cases h3
    · exact ⟨w, rfl, h3, h4⟩
  | none =>
    obtain ⟨w, h3, h4⟩ := pick_way v hs hst h
    exact absurd h4 ((h2 hw).2 w h3)
theorem l86 {k : Nat} {wv : Value} {w : List Int} {g : H} (hw : SlR g 3 1 wv (cellsI w)) (hr : ∀ x ∈ w, 0 ≤ x ∧ x < 24) (hk : w.length < k) : ∃ ws, lpGo (f86_l1 rn k wv w.length) k [iv 0, iv 0] g = some (.exit 0, ws, g) ∧ gv ws 0 = iv (maskN w) := by
  have hlen := hw.lt62
  rw [List.length_map] at hlen
  obtain ⟨ws', g', q1, _, rfl, rfl⟩ := lp_for (k := k) (l := w) (F := f86_l1 rn k wv w.length) (fun _ (x : Int) (a : Nat) => a ||| 2 ^ x.toNat)
    (fun i a ws g' => a < 2 ^ 24 ∧ g' = g ∧ ws = [iv a, iv i]) 0 (ws := [iv 0, iv 0]) (h := g) (s0 := 0) ⟨by decide, rfl, rfl⟩ hk
    (fun a ws g' hI => by
      obtain ⟨_, rfl, rfl⟩ := hI
      unfold f86_l1
      simp only [gv, List.getD_cons_zero, List.getD_cons_succ, asI_int]
      rw [lt_f (by omega), ifB_false]; rfl)
    (fun i x a ws g' hx hI => by
      obtain ⟨ha, rfl, rfl⟩ := hI
      have hi := (List.getElem?_eq_some_iff.1 hx).1
      obtain ⟨x0, x24⟩ := hr x (List.mem_of_getElem? hx)
      obtain ⟨m, rfl⟩ := Int.eq_ofNat_of_zero_le x0
      have p : (2 : Nat) ^ m < 2 ^ 24 := Nat.pow_lt_pow_right (by decide) (by omega)
      refine ⟨[iv (a ||| 2 ^ m : Nat), iv (i + 1 : Nat)], g', ?_, Nat.or_lt_two_pow ha (by simpa using p), rfl, by simp⟩
      unfold f86_l1
      simp only [gv, List.getD_cons_zero, List.getD_cons_succ, asI_int, asK_int]
      rw [lt_t (by omega), ifB_true]
      simp only [d3]
      rw [hw.c0 (by omega) (x := [iv (m : Int)]) (by simp [hx]) rfl, asI_int]
      unfold AM.nn
      rw [if_neg (by omega), shl1_nat (by omega), or_nat (by omega) (by omega), add64 (by omega) (by omega)]
      rfl)
  refine ⟨_, q1, ?_⟩
  rw [foldI_foldl]
  rfl
theorem nilv25' {v : Value} {b : Nat} (hb : blkOf v = some b) {R : Type} (K : Bool → Option R) : eqv Try.prog 25 v (.slice none 0 0) K = K false := by
  unfold eqv; rw [nilv25 hb]
theorem nilv25n {R : Type} (K : Bool → Option R) : eqv Try.prog 25 (.slice none 0 0) (.slice none 0 0) K = K true := by
  unfold eqv; rw [nil25]
theorem pick_cb {g6 : H} {wb pb sb tb cb ob : Nat} {n : Nat} {pl : List Kl} {slp ov : Value} {ol : List (List Value)} {s t : Int} {cnt : Nat} (hwb : wb < g6.nx)
    (hpb : pb < g6.nx ∧ pb ≠ wb ∧ g6.blk pb = some (.row [iv n, slp] 31 true)) (hsb : sb < g6.nx ∧ sb ≠ wb ∧ g6.blk sb = some (.row [iv s] 3 true)) (htb : tb < g6.nx ∧ tb ≠ wb ∧ g6.blk tb = some (.row [iv t] 3 true))
    (hcb : cb < g6.nx ∧ cb ≠ wb ∧ g6.blk cb = some (.row [iv cnt] 3 true)) (hob : ob < g6.nx ∧ ob ≠ wb ∧ g6.blk ob = some (.row [ov] 58 true)) (hov : SlR g6 25 1 ov ol) (hsl : SlR g6 56 3 slp (pl.map Kl.cells))
    (hslb : ∀ b, blkOf slp = some b → b < g6.nx ∧ b ≠ wb) (hp : pairP n pl s t = true) (hcnt : cnt < 100) (hol : ol.length < cnt) :
    Cb (.func (.func 86) #[] #[pt wb 0, pt pb 0, pt sb 0, pt tb 0, pt cb 0, pt ob 0]) g6.nx (fun b => b = wb) (okW pl) (fun σ D g => BestI g6 wb σ D g ∧ ∀ w, σ = some w → okW pl w) (pickP pl s t (cnt - ol.length - 1)) := by
  have hpl := (validP_ok (pairP_parts hp).1).2.2.1
  refine ⟨?_, ?_, ?_⟩
  · rintro σ D g g' ⟨⟨h1, h2, ov, h3, h4⟩, h5⟩ hn hlo hD
    refine ⟨⟨by omega, fun b hb hb' => (hlo b hb).trans (h2 b hb hb'), ov, (hlo wb hwb).trans h3, ?_⟩, h5⟩
    cases σ with
    | none => exact h4
    | some w =>
      obtain ⟨a1, q, a2, a3, a4, a5⟩ := h4
      exact ⟨a1, q, a2, a3, a4, a5.keep hn (hD q (by rw [a2]; simp))⟩
  · rintro σ D g ⟨⟨h1, h2, ov, h3, h4⟩, h5⟩ b hb
    cases σ with
    | none => rw [h4.2] at hb; simp at hb
    | some w =>
      obtain ⟨a1, q, a2, a3, a4, a5⟩ := h4
      rw [a2] at hb
      simp at hb
      subst hb
      exact ⟨a3, a5.lt⟩
  · rintro σ D g wv w ⟨⟨h1, h2, wv0, h3, h4⟩, h5⟩ hn hwv hw hdis hlow
    obtain ⟨hw0, hwl, hwr⟩ := hw
    cases σ with
    | some b0 =>
      obtain ⟨a1, q0, rfl, a3, a4, a5⟩ := h4
      refine ⟨g, [q0], x86 (k := 0) ?_ rfl, ⟨⟨h1, h2, wv0, h3, a1, q0, rfl, a3, a4, a5⟩, h5⟩, Nat.le_refl _, fun _ _ _ _ => rfl, fun b hb => .inl hb⟩
      show f86 rn 0 wv (pt wb 0) (pt pb 0) (pt sb 0) (pt tb 0) (pt cb 0) (pt ob 0) g = _
      unfold f86
      simp only [asP_ptr]
      rw [d25, cell_of h3]
      simp only [List.getElem?_cons_zero, Option.bind_some]
      rw [nilv25' a4]
      rfl
    | none =>
      obtain ⟨rfl, rfl⟩ := h4
      obtain ⟨ws1, q1, q2⟩ := l86 (k := 1000) hwv (fun x hx => by have := hwr x hx; omega) hwl
      have pbg : g.blk pb = some (.row [iv n, slp] 31 true) := (h2 _ hpb.1 hpb.2.1).trans hpb.2.2
      have sbg : g.blk sb = some (.row [iv s] 3 true) := (h2 _ hsb.1 hsb.2.1).trans hsb.2.2
      have tbg : g.blk tb = some (.row [iv t] 3 true) := (h2 _ htb.1 htb.2.1).trans htb.2.2
      have slg : SlR g 56 3 slp (pl.map Kl.cells) := slR_keep hsl h1 fun b hb => h2 b (hslb b hb).1 (hslb b hb).2
      obtain ⟨h3', nb, c83, x3⟩ := s83g (gone := maskN w) slg hp (Nat.lt_of_lt_of_le (maskN_lt (m := 24) fun i hi => by have := hwr i hi; omega) (by decide))
      have hm := mcP_le (l := pl) (pairP_parts hp).2.2.2 (maskN w)
      have cbg : h3'.blk cb = some (.row [iv cnt] 3 true) := by rw [x3.blk _ (by omega)]; exact (h2 _ hcb.1 hcb.2.1).trans hcb.2.2
      have obg : h3'.blk ob = some (.row [ov] 58 true) := by rw [x3.blk _ (by omega)]; exact (h2 _ hob.1 hob.2.1).trans hob.2.2
      have wbg : h3'.blk wb = some (.row [.slice none 0 0] 25 true) := by rw [x3.blk _ (by omega)]; exact h3
      have hlen := hwv.len (R := Value × H)
      have start : f86 rn 1000 wv (pt wb 0) (pt pb 0) (pt sb 0) (pt tb 0) (pt cb 0) (pt ob 0) g = if mcP pl s t (maskN w) = cnt - ol.length - 1 then
          (calls rn h3' 75 [wv] fun v17 h4 => st Try.prog h4 25 wb 0 v17 fun h5 => some (undef, h5)) else some (undef, h3') := by
        unfold f86
        simp only [asP_ptr]
        rw [d25, cell_of h3]
        simp only [List.getElem?_cons_zero, Option.bind_some]
        rw [nilv25n, Bool.not_true, ifB_false, hwv.len, List.length_map, lp_eq q1, onE_exit, if_pos rfl, q2]
        rw [d31, rd_all (n := 2) pbg rfl, Option.bind_some]
        simp only [d3]
        rw [cell_of sbg, cell_of tbg]
        simp only [List.getElem?_cons_zero, Option.bind_some, asI_int]
        refine (calls_eq (xs := [_, _, _, _]) c83).trans ?_
        rw [ext20, ext21, asI_int, cell_of cbg]
        simp only [List.getElem?_cons_zero, Option.bind_some, asI_int]
        rw [d58, cell_of obg]
        simp only [List.getElem?_cons_zero, Option.bind_some]
        have hov' : ∀ {T : Type} (K : Int → Option T), len ov K = K ol.length := fun K => hov.len K
        rw [hov', sub64 (a := (cnt : Int)) (b := (ol.length : Int)) (by omega) (by omega), sub64 (by omega) (by omega)]
        by_cases e : mcP pl s t (maskN w) = cnt - ol.length - 1
        · rw [eq_t (by omega), ifB_true, if_pos e]
        · rw [eq_f (by omega), ifB_false, if_neg e]
      by_cases e : mcP pl s t (maskN w) = cnt - ol.length - 1
      · obtain ⟨v', h4, q, e75, x4, b1, b2, b3⟩ := s75a (hwv.ext x3) (by omega) hw0
        have wbg4 : h4.blk wb = some (.row [.slice none 0 0] 25 true) := (x4.blk wb (by have := x3.nx; omega)).trans wbg
        obtain ⟨cv, hcv, _⟩ := b3.val
        have hst : wrc 1 h4 wb 0 v' = some (h4.set wb (.row [v'] 25 true)) := by rw [wrc_one wbg4 (by rw [hcv]; rfl) (by rw [hcv]; rfl) (by simp)]; rfl
        have hx := x3.nx
        have hx4 := x4.nx
        refine ⟨h4.set wb (.row [v'] 25 true), [q], x86 (k := 1000) ?_ rfl, ⟨⟨by rw [nx_set]; omega, fun b hb hb' => by rw [blk_set_ne _ _ _ hb', x4.blk b (by omega), x3.blk b (by omega)]; exact h2 b hb hb', v', ?_⟩, ?_⟩, by rw [nx_set]; omega,
          fun b h1 h2 _ => by rw [blk_set_ne _ _ _ h2, x4.blk b (by omega), x3.blk b h1], fun b hb => by simp at hb; omega⟩
        · show f86 rn 1000 wv (pt wb 0) (pt pb 0) (pt sb 0) (pt tb 0) (pt cb 0) (pt ob 0) g = _
          rw [start, if_pos e]
          refine (calls_eq (xs := [_]) e75).trans ?_
          rw [w25, hst]
          rfl
        · simp only [pickP, if_pos e]
          exact ⟨blk_set_self _ _ _, hw0, q, rfl, by omega, b2, b3.keep (Nat.le_refl _) (blk_set_ne _ _ _ (by omega))⟩
        · intro w' hw'
          simp only [pickP, if_pos e] at hw'
          cases hw'
          exact ⟨hw0, hwl, hwr⟩
      · have hx := x3.nx
        refine ⟨h3', [], x86 (k := 1000) ?_ rfl, ⟨⟨by omega, fun b hb hb' => by rw [x3.blk b (by omega)]; exact h2 b hb hb', .slice none 0 0, ?_⟩, ?_⟩, hx, fun b h1 _ _ => x3.blk b h1, fun b hb => by simp at hb⟩
        · show f86 rn 1000 wv (pt wb 0) (pt pb 0) (pt sb 0) (pt tb 0) (pt cb 0) (pt ob 0) g = _
          rw [start, if_neg e]
        · simp only [pickP, if_neg e]
          exact ⟨wbg, trivial, trivial⟩
        · intro w' hw'
          simp only [pickP, if_neg e] at hw'
          cases hw'
end Go.AM
end

section
namespace Go.AM
open Go.Proofs
variable {k : Nat} {R : Type}
theorem SlR.keepT {h h' : H} {e : TypeId} {s : Nat} {v : Value} {l : List (List Value)} (a : SlR h e s v l) (hn : h.nx ≤ h'.nx) (hb : ∀ b cs o, b < h.nx → h.blk b = some (.row cs e o) → h'.blk b = h.blk b) : SlR h' e s v l := by
  cases a with
  | nil => exact .nil
  | at_ h1 h2 h3 h4 h5 h6 => exact .at_ (Nat.lt_of_lt_of_le h1 hn) ((hb _ _ _ h1 h2).trans h2) h3 h4 h5 h6
end Go.AM
end

section
namespace Go.AM
open Go.Proofs
theorem partZ_snoc {l : List Kl} {left i : Nat} {c : Kl} (hc : l[i]? = some c) : partZ (l.take (i + 1)) left = partZ (l.take i) left ++ if left.testBit i then [(c, i)] else [] := by
  have hi := (List.getElem?_eq_some_iff.1 hc).1
  unfold partZ
  rw [List.take_add_one, hc, Option.toList_some, List.zipIdx_append, List.filter_append, List.length_take, Nat.min_eq_left (by omega), Nat.zero_add]
  congr 1
  cases h : left.testBit i <;> simp [h]
def idxZ (l : List Kl) (left : Nat) : List Int := (partZ l left).map fun q => (q.2 : Int)
theorem partZ_len (l : List Kl) (left : Nat) : (partZ l left).length ≤ l.length := by
  unfold partZ
  have := List.length_filter_le (fun q : Kl × Nat => left.testBit q.2) l.zipIdx
  rwa [List.length_zipIdx] at this
theorem l482 {h10 h12 : H} {n : Int} {sl : Value} {ws0 : List Value} {l : List Kl} {left : Nat} (hleft : left < 2 ^ 24) (hw0 : gv ws0 0 = iv left) (hlt : h10.nx < h12.nx) (hb : h12.blk h10.nx = some (.row [iv n, .slice none 0 0] 31 true)) (hs : SlR h12 56 3 sl (l.map Kl.cells)) (hl24 : l.length ≤ 24) (k : Nat) (hk : l.length < k) :
    ∃ ix g sv, lpGo (f48_l2 rn k ws0 h10 sl l.length) k [.slice none 0 0, iv 0] h12 = some (.exit 2, [ix, iv l.length], g) ∧ h12.nx ≤ g.nx ∧ (∀ b, b < h12.nx → b ≠ h10.nx → g.blk b = h12.blk b) ∧ g.blk h10.nx = some (.row [iv n, sv] 31 true) ∧
      AqR h12.nx g 56 3 sv ((partL l left).map Kl.cells) ∧ AqR h12.nx g 3 1 ix (cellsI (idxZ l left)) := by
  obtain ⟨ws', g', hl, hn, hk', _, sv, ix, hsv, hap, hix, rfl⟩ := lp_for (F := f48_l2 rn k ws0 h10 sl l.length) (k := k) (l := l) (fun _ _ (_ : Unit) => ())
    (fun i _ ws g => h12.nx ≤ g.nx ∧ (∀ b, b < h12.nx → b ≠ h10.nx → g.blk b = h12.blk b) ∧ True ∧ ∃ sv ix, g.blk h10.nx = some (.row [iv n, sv] 31 true) ∧ AqR h12.nx g 56 3 sv ((partL (l.take i) left).map Kl.cells) ∧ AqR h12.nx g 3 1 ix (cellsI (idxZ (l.take i) left)) ∧ ws = [ix, iv i]) 2 (ws := [.slice none 0 0, iv 0]) (h := h12) (s0 := ())
    ⟨Nat.le_refl _, fun _ _ _ => rfl, trivial, _, _, hb, .nil, .nil, rfl⟩ hk
    (by
      rintro _ ws g ⟨_, _, _, sv, ix, _, _, _, rfl⟩
      unfold f48_l2
      rw [show gv [ix, iv (l.length : Int)] 1 = iv (l.length : Int) from rfl, asI_int, lt_f (by omega), ifB_false]
      rfl)
    (by
      rintro i c _ ws g hc ⟨hn, hk, _, sv, ix, hg2, hap, hix, rfl⟩
      have hil := (List.getElem?_eq_some_iff.1 hc).1
      have kt : ∀ (e : TypeId), e ≠ 31 → ∀ b cs o, b < h12.nx → h12.blk b = some (.row cs e o) → g.blk b = h12.blk b := fun e he b cs o hbl hr => hk b hbl fun e' => by
        rw [e', hb] at hr
        simp at hr
        exact he hr.2.1.symm
      have hs' := hs.keepT hn (kt 56 (by decide))
      have y7 := (Ext.refl g).fresh 56 [iv 0, iv 0, iv 0] c.cells
      have hcb := blk_fresh g 56 [iv 0, iv 0, iv 0] c.cells
      have n7 : (g.fresh 56 [iv 0, iv 0, iv 0] c.cells).nx = g.nx + 1 := rfl
      have hadd : add .i64 (i : Int) 1 = (i : Int) + 1 := add64 (by omega) (by omega)
      have hsnoc := partZ_snoc (left := left) hc
      have hpl := partZ_len (l.take i) left
      rw [List.length_take] at hpl
      unfold f48_l2
      rw [show gv [ix, iv i] 1 = iv i from rfl, show gv [ix, iv i] 0 = ix from rfl, asI_int, lt_t (by omega), ifB_true, asK_int, hs'.ldA ag56 sz56 (by omega) (x := c.cells) (by simp [hc])]
      rw [al_st (zs := [iv 0, iv 0, iv 0]) (xs := c.cells) sz56 rfl rfl, hw0, asI_int, asK_int]
      unfold AM.nn
      rw [if_neg (by omega), bit_nat (by omega) (by omega)]
      have hlt9 : h10.nx < g.nx := by omega
      have g2 := (y7.blk h10.nx (by omega)).trans hg2
      have a7 := hap.ext y7
      have i7 := hix.ext y7
      generalize g.fresh 56 [iv 0, iv 0, iv 0] c.cells = h7 at *
      have k7 : ∀ b, b < h12.nx → b ≠ h10.nx → h7.blk b = h12.blk b := fun b hbl hne => (y7.blk b (by omega)).trans (hk b hbl hne)
      by_cases hf : left.testBit i = true
      · rw [hf, if_pos rfl, eq_t rfl, ifB_true]
        rw [hf, if_pos rfl] at hsnoc
        obtain ⟨v', h8, e9, a9, n9, k9, b9, hb9, hb9'⟩ := a7.push app29 app29 (bls29 c) rfl rfl (by simp [partL]; omega) (by omega)
        have nosv : ∀ b, b < h12.nx → AM.blkOf sv ≠ some b := fun b hbl e => by have := (a7.blkOf e).1; omega
        have g2' := (k9 h10.nx (by omega) (nosv _ hlt)).trans g2
        have hst : wrc 1 h8 h10.nx 1 v' = some (h8.set h10.nx (.row [iv n, v'] 31 true)) := by rw [wrc_one g2' a9.cells.1 a9.cells.2 (by simp)]; rfl
        have i8 : AqR h12.nx h8 3 1 ix (cellsI (idxZ (l.take i) left)) := i7.keep n9 fun b hbx => k9 b (i7.blkOf hbx).2.1 fun e => by
          have h1 := (a7.blkOf e).2.2
          have h2 := (i7.blkOf hbx).2.2
          rw [h1] at h2
          simp at h2
        have x8 : ∀ b, (h8.set h10.nx (.row [iv n, v'] 31 true)).blk b = if b = h10.nx then some (.row [iv n, v'] 31 true) else h8.blk b := fun b => rfl
        have i9 : AqR h12.nx (h8.set h10.nx (.row [iv n, v'] 31 true)) 3 1 ix (cellsI (idxZ (l.take i) left)) := i8.keep (Nat.le_refl _) fun b hbx => blk_set_ne _ _ _ (by have := (i8.blkOf hbx).1; omega)
        have a10 : AqR h12.nx (h8.set h10.nx (.row [iv n, v'] 31 true)) 56 3 v' ((partL (l.take i) left).map Kl.cells ++ [c.cells]) := a9.keep (Nat.le_refl _) fun b hbx => blk_set_ne _ _ _ (by have := (a9.blkOf hbx).1; omega)
        obtain ⟨x', h20, e20, a20, n20, k20, b20, hb20, hb20'⟩ := i9.push app25 app25 (bls25 (i : Int)) rfl rfl (by simp [idxZ]; omega) (by rw [nx_set]; omega)
        rw [nx_set] at n20 k20
        have noix : ∀ b, b < h12.nx → AM.blkOf ix ≠ some b := fun b hbl e => by have := (i9.blkOf e).1; omega
        have a20' : AqR h12.nx h20 56 3 v' ((partL (l.take i) left).map Kl.cells ++ [c.cells]) := a10.keep (by rw [nx_set]; exact n20) fun b hbx => k20 b (by have := (a10.blkOf hbx).2.1; rwa [nx_set] at this) fun e => by
          have h1 := (i9.blkOf e).2.2
          have h2 := (a10.blkOf hbx).2.2
          rw [h1] at h2
          simp at h2
        refine ⟨[x', iv ((i : Int) + 1)], h20, ?_, by omega, fun b hbl hne => ?_, trivial, v', x', ?_, ?_, ?_, rfl⟩
        · rw [d29, nx_eq, nx_eq, cell_of g2, show ([iv n, sv] : List Value)[off 0 1]? = some sv from rfl, Option.bind_some, d56, rd_all (n := 3) hcb rfl, Option.bind_some, show c.cells.toArray = #[.int .i64 c.a, .int .i64 c.b, .int .i64 c.t] from rfl, e9, w29, show off 0 1 = 1 from rfl, hst, Option.bind_some]
          refine (e20 _).trans ?_
          rw [asI_int, hadd]
          rfl
        · rw [k20 b (by omega) (noix b hbl), blk_set_ne _ _ _ hne, k9 b (by omega) (nosv b hbl)]
          exact k7 b hbl hne
        · rw [k20 _ (by omega) (noix _ hlt)]
          exact blk_set_self _ _ _
        · unfold partL
          rw [hsnoc, List.map_append, List.map_append]
          exact a20'
        · unfold idxZ
          rw [hsnoc, List.map_append, cellsI, List.map_append]
          exact a20
      · have hf' : left.testBit i = false := by simpa using hf
        rw [hf', if_neg (by simp), eq_f (by decide), ifB_false]
        rw [hf', if_neg (by simp), List.append_nil] at hsnoc
        refine ⟨[ix, iv ((i : Int) + 1)], h7, ?_, by omega, k7, trivial, sv, ix, g2, ?_, ?_, rfl⟩
        · rw [asI_int, hadd]; rfl
        · unfold partL; rw [hsnoc]; exact a7
        · unfold idxZ; rw [hsnoc]; exact i7)
  rw [List.take_length] at hap hix
  exact ⟨ix, g', sv, hl, hn, hk', hsv, hap, hix⟩
def leftS (left : Nat) (u : List Int) : Nat := u.foldl (fun a i => without a (2 ^ i.toNat)) left
theorem leftS_bit : ∀ (u : List Int) (left j : Nat), (leftS left u).testBit j = (left.testBit j && !u.any fun i => i.toNat == j) := by
  intro u
  induction u with
  | nil => intro left j; simp [leftS]
  | cons i u ih =>
    intro left j
    have := ih (without left (2 ^ i.toNat)) j
    unfold leftS at this ⊢
    rw [List.foldl_cons, this, testBit_without, Nat.testBit_two_pow, List.any_cons]
    by_cases h : i.toNat = j
    · simp [h]
    · have h' : (i.toNat == j) = false := by simpa using h
      simp [h, h']
theorem leftS_lt {left : Nat} (u : List Int) (h : left < 2 ^ 24) : leftS left u < 2 ^ 24 := by
  unfold leftS
  induction u generalizing left with
  | nil => exact h
  | cons i u ih => exact ih (without_le _ _ h)
theorem placeZ_idx {l : List Kl} {left : Nat} {x : Int} (hx : x.toNat < (partZ l left).length) : (idxZ l left)[x.toNat]? = some (placeZ l left x) := by
  unfold idxZ placeZ
  rw [List.getElem?_map, List.getElem?_eq_getElem hx]
  rfl
theorem l483 {h21 h23 : H} {ix wv : Value} {ws2 : List Value} {l : List Kl} {left q : Nat} {w : List Int} (hl24 : l.length ≤ 24) (hleft : left < 2 ^ 24) (hw2 : gv ws2 0 = ix) (hwb : h23.blk h21.nx = some (.row [wv] 25 true)) (hqb : q ≠ h21.nx)
    (hix : SlR h23 3 1 ix (cellsI (idxZ l left))) (hixq : blkOf ix ≠ some q) (hia : IA h23 q wv w) (hwr : ∀ x ∈ w, 0 ≤ x ∧ x < (partZ l left).length) (k : Nat) (hk : w.length < k) :
    ∃ g, lpGo (f48_l3 rn k ws2 h21 wv w.length) k [iv left, iv 0] h23 = some (.exit 4, [iv (leftS left (w.map (placeZ l left))), iv w.length], g) ∧ g.nx = h23.nx ∧ (∀ b, b ≠ q → g.blk b = h23.blk b) ∧ IA g q wv (w.map (placeZ l left)) := by
  have hlen := hia.slR.lt62
  rw [List.length_map] at hlen
  have hpz := partZ_len l left
  obtain ⟨ws', g', q1, hn, hf, ha, hl, rfl⟩ := lp_for (k := k) (l := w) (F := f48_l3 rn k ws2 h21 wv w.length) (fun _ x (a : Nat) => without a (2 ^ (placeZ l left x).toNat))
    (fun i a ws g => g.nx = h23.nx ∧ (∀ b, b ≠ q → g.blk b = h23.blk b) ∧ IA g q wv ((w.take i).map (placeZ l left) ++ w.drop i) ∧ a < 2 ^ 24 ∧ ws = [iv a, iv i]) 4 (ws := [iv left, iv 0]) (h := h23) (s0 := left)
    ⟨rfl, fun _ _ => rfl, by simpa using hia, hleft, rfl⟩ hk
    (fun a ws g hI => by
      obtain ⟨_, _, _, _, rfl⟩ := hI
      unfold f48_l3
      simp only [gv, List.getD_cons_zero, List.getD_cons_succ, asI_int]
      rw [lt_f (by omega), ifB_false]; rfl)
    (fun i x a ws g hx hI => by
      obtain ⟨hn, hf, hia, hal, rfl⟩ := hI
      have hi := (List.getElem?_eq_some_iff.1 hx).1
      obtain ⟨x0, x1⟩ := hwr x (List.mem_of_getElem? hx)
      have hxz : x.toNat < (partZ l left).length := by omega
      have hpx := placeZ_idx hxz
      have hp0 : 0 ≤ placeZ l left x := by unfold placeZ; omega
      have hp24 : (placeZ l left x).toNat < 24 := by
        have hg := placeZ_get (l := l) (left := left) (i := x) (by simpa [partL] using hxz)
        have h3 : (partL l left)[x.toNat]? ≠ none := by
          intro e
          rw [List.getElem?_eq_none_iff] at e
          simp [partL] at e; omega
        rcases Nat.lt_or_ge (placeZ l left x).toNat l.length with h4 | h4
        · omega
        · rw [List.getElem?_eq_none h4] at hg
          exact absurd hg.1.symm h3
      have hwg : g.blk h21.nx = some (.row [wv] 25 true) := (hf _ (Ne.symm hqb)).trans hwb
      have ixg : SlR g 3 1 ix (cellsI (idxZ l left)) := slR_keep hix (by omega) fun b hb => hf b fun e => hixq (by rw [← e]; exact hb)
      have hL : ((w.take i).map (placeZ l left) ++ w.drop i).length = w.length := by simp; omega
      have hcur : ((w.take i).map (placeZ l left) ++ w.drop i)[(i : Int).toNat]? = some x := by
        rw [Int.toNat_natCast, List.getElem?_append_right (by simp; omega)]
        simp only [List.length_map, List.length_take, Nat.min_eq_left (Nat.le_of_lt hi), Nat.sub_self, List.getElem?_drop, Nat.add_zero]
        exact hx
      have ia2 := hia.set i (placeZ l left x)
      have hset : ((w.take i).map (placeZ l left) ++ w.drop i).set i (placeZ l left x) = (w.take (i + 1)).map (placeZ l left) ++ w.drop (i + 1) := by
        rw [List.set_append_right _ _ (by simp; omega)]
        simp only [List.length_map, List.length_take, Nat.min_eq_left (Nat.le_of_lt hi), Nat.sub_self]
        rw [List.drop_eq_getElem_cons hi, List.set_cons_zero, List.take_add_one, hx]
        simp
      rw [hset] at ia2
      have ixg2 : SlR (g.set q (.row (((w.take (i + 1)).map (placeZ l left) ++ w.drop (i + 1)).map iv) 3 true)) 3 1 ix (cellsI (idxZ l left)) := slR_keep ixg (Nat.le_refl _) fun b hb => blk_set_ne _ _ _ fun e => hixq (by rw [← e]; exact hb)
      refine ⟨[iv (without a (2 ^ (placeZ l left x).toNat)), iv (i + 1 : Nat)], g.set q (.row (((w.take (i + 1)).map (placeZ l left) ++ w.drop (i + 1)).map iv) 3 true), ?_, by rw [nx_set]; exact hn, fun b hb => by rw [blk_set_ne _ _ _ hb]; exact hf b hb, ia2, without_le _ _ hal, rfl⟩
      have p24 : (2 : Nat) ^ (placeZ l left x).toNat < 2 ^ 24 := Nat.pow_lt_pow_right (by decide) hp24
      obtain ⟨pn, hpn⟩ := Int.eq_ofNat_of_zero_le hp0
      unfold f48_l3
      simp only [gv, List.getD_cons_zero, List.getD_cons_succ, asI_int, asK_int]
      rw [lt_t (by omega), ifB_true]
      simp only [d3, d25, w3]
      rw [hia.get (by omega) hcur, asI_int, nx_eq, cell_of hwg]
      simp only [List.getElem?_cons_zero, Option.bind_some]
      have hw2' : ws2.getD 0 undef = ix := hw2
      rw [hw2', ixg.c0 (by omega) (x := [iv (placeZ l left x)]) (by rw [List.getElem?_map, hpx]; rfl) rfl, asI_int]
      rw [hia.put (by omega) (by rw [hL]; omega), Int.toNat_natCast, hia.wrc (by rw [hL]; exact hi), Option.bind_some, hset]
      rw [ixg2.c0 (by omega) (x := [iv (placeZ l left x)]) (by rw [List.getElem?_map, hpx]; rfl) rfl, asI_int]
      unfold AM.nn
      rw [if_neg (by omega)]
      rw [hpn, Int.toNat_natCast] at hp24 p24 ⊢
      rw [shl1_nat (by omega), andNot_nat (by omega) (by omega), add64 (by omega) (by omega)]
      rfl)
  rw [foldI_foldl] at q1
  refine ⟨g', ?_, hn, hf, by simpa using ha⟩
  rw [q1]
  unfold leftS
  rw [List.foldl_map]
end Go.AM
end

section
namespace Go.AM
open Go.Proofs
/-- What has been taken, and what is left. -/
structure ApI (l : List Kl) (s t : Int) (left : Nat) (W : List (List Int)) : Prop where
  lt : left < 2 ^ 24
  gm : GM 1000 t (maskL l fun i => !left.testBit i) (fun p => p == s) + W.length = mcP l s t 0
  ways : ∀ w ∈ W, w ∈ allWays l s t ∧ ∀ i ∈ w, left.testBit i.toNat = false
  dis : W.Pairwise fun w u => ∀ i ∈ w, i ∉ u
/-- Ways apart, as_ many as_ can be. -/
structure AprR (l : List Kl) (s t : Int) (W : List (List Int)) : Prop where
  len : W.length = mcP l s t 0
  ways : ∀ w ∈ W, w ∈ allWays l s t
  dis : W.Pairwise fun w u => ∀ i ∈ w, i ∉ u
theorem part_mc {l : List Kl} {s t : Int} {left : Nat} : mcP (partL l left) s t 0 = GM 1000 t (maskL l fun i => !left.testBit i) (fun p => p == s) := by
  rw [GM_part (left := left) (D := fun i => !left.testBit i) (fun i h => by simp [h])]
  unfold mcP
  congr 1
  refine List.ext_getElem? fun j => ?_
  rw [maskL_get, maskL_get]
  cases hj : (partL l left)[j]? with
  | none => rfl
  | some c =>
    have := (placeZ_get (l := l) (left := left) (i := (j : Int)) (by rw [Int.toNat_natCast]; exact (List.getElem?_eq_some_iff.1 hj).1)).2
    simp [this]
theorem ApI.step {n s t : Int} {l : List Kl} (v : VP n l) (hs : 0 ≤ s ∧ s < n) (hst : s ≠ t) {left : Nat} {W : List (List Int)} (a : ApI l s t left W) {w : List Int} (hw : w ∈ allWays (partL l left) s t) (hm : mcP (partL l left) s t (maskN w) + 1 = mcP l s t 0 - W.length) (hlt : W.length < mcP l s t 0) :
    ApI l s t (leftS left (w.map (placeZ l left))) (W ++ [w.map (placeZ l left)]) := by
  have hok := allWays_ok w hw
  have hin : ∀ i ∈ w, i.toNat < (partL l left).length := fun i hi => by have := hok.2.2 i hi; omega
  have bit : ∀ j, (leftS left (w.map (placeZ l left))).testBit j = (left.testBit j && !(w.any fun i => (placeZ l left i).toNat == j)) := fun j => by
    rw [leftS_bit, List.any_map]; rfl
  refine ⟨leftS_lt _ a.lt, ?_, ?_, ?_⟩
  · have e : GM 1000 t (maskL l fun i => !(leftS left (w.map (placeZ l left))).testBit i) (fun p => p == s) = mcP (partL l left) s t (maskN w) := by
      rw [GM_part (left := left) (D := fun i => !(leftS left (w.map (placeZ l left))).testBit i) (fun i h => by simp [bit, h])]
      unfold mcP
      congr 1
      refine List.ext_getElem? fun j => ?_
      rw [maskL_get, maskL_get]
      cases hj : (partL l left)[j]? with
      | none => rfl
      | some c =>
        have hjl := (List.getElem?_eq_some_iff.1 hj).1
        have h1 := (placeZ_get (l := l) (left := left) (i := (j : Int)) (by rw [Int.toNat_natCast]; exact hjl)).2
        have key : (w.any fun i => (placeZ l left i).toNat == (placeZ l left (j : Int)).toNat) = (maskN w).testBit j := by
          rw [Bool.eq_iff_iff, maskN_bit, List.any_eq_true]
          constructor
          · rintro ⟨i, hi, e⟩
            refine ⟨i, hi, ?_⟩
            rw [beq_iff_eq] at e
            have hz : (partZ l left).length = (partL l left).length := by simp [partL]
            have e2 : (((partZ l left)[i.toNat]?).map (·.2)).getD 0 = (((partZ l left)[(j : Int).toNat]?).map (·.2)).getD 0 := by
              unfold placeZ at e
              rw [Int.toNat_natCast, Int.toNat_natCast] at e
              exact e
            rw [Int.toNat_natCast] at e2
            have hi' := hin i hi
            rw [List.getElem?_eq_getElem (by omega), List.getElem?_eq_getElem (by omega)] at e2
            simp only [Option.map_some, Option.getD_some] at e2
            -- the places are different
            have nd : ((partZ l left).map (·.2)).Nodup := by
              unfold partZ
              have h9 : (l.zipIdx.map (·.2)).Nodup := by
                rw [List.zipIdx_map_snd]
                exact List.nodup_range'
              exact h9.sublist (List.filter_sublist.map _)
            have := List.getElem_inj (i := i.toNat) (j := j) (xs := (partZ l left).map (·.2)) (h₀ := by simp; omega) (h₁ := by simp; omega) nd
            exact this.1 (by simpa using e2)
          · rintro ⟨i, hi, e⟩
            refine ⟨i, hi, ?_⟩
            have h0 := (hok.2.2 i hi).1
            rw [beq_iff_eq, show i = (j : Int) by omega]
        simp only [Option.map_some, bit, h1, Bool.true_and, key]
        simp
    rw [e, List.length_append]
    simp only [List.length_cons, List.length_nil]
    omega
  · intro u hu
    rcases List.mem_append.1 hu with hu | hu
    · obtain ⟨h1, h2⟩ := a.ways u hu
      exact ⟨h1, fun i hi => by rw [bit, h2 i hi]; rfl⟩
    · simp only [List.mem_singleton] at hu
      subst hu
      refine ⟨place_way v hs hst hw, fun i hi => ?_⟩
      obtain ⟨x, hx, rfl⟩ := List.mem_map.1 hi
      rw [bit, Bool.and_eq_false_iff]
      right
      simp only [Bool.not_eq_false']
      exact List.any_eq_true.2 ⟨x, hx, by simp⟩
  · rw [List.pairwise_append]
    refine ⟨a.dis, List.pairwise_singleton _ _, fun u hu u' hu' i hi hi' => ?_⟩
    simp only [List.mem_singleton] at hu'
    subst hu'
    obtain ⟨x, hx, rfl⟩ := List.mem_map.1 hi'
    have h1 := (a.ways u hu).2 _ hi
    have h2 := (placeZ_get (l := l) (left := left) (i := x) (hin x hx)).2
    rw [h1] at h2
    cases h2
end Go.AM
end

section
namespace Go.AM
open Go.Proofs
theorem SsR.row {h : H} {vs : List Value} {ls : List (List Int)} (a : SsR h vs ls) {v : Value} (hv : v ∈ vs) {b : Nat} (hb : blkOf v = some b) : ∃ c o, h.blk b = some (.row c 3 o) := by
  obtain ⟨j, hj, rfl⟩ := List.getElem_of_mem hv
  have := a.2 j vs[j] (ls[j]'(by rw [← a.1]; exact hj)) (List.getElem?_eq_getElem hj) (List.getElem?_eq_getElem _)
  generalize vs[j] = v at *
  generalize cellsI (ls[j]'_) = L at this
  cases this with
  | nil => cases hb
  | at_ hb' hr => cases hb; exact ⟨_, _, hr⟩
theorem s48_bad {n s t : Int} {sl : Value} {l : List Kl} {h : H} (hs : SlR h 56 3 sl (l.map Kl.cells)) (hp : pairP n l s t = false) : ∃ h', rn 48 #[.agg #[iv n, sl], iv s, iv t] h = some (.tuple #[.slice none 0 0, iv 2], h') ∧ Ext h h' := by
  let h3 : H := ((h.new (.row [iv n, sl] 31 true)).new (.row [iv s] 3 true)).new (.row [iv t] 3 true)
  have x3 : Ext h h3 := (((Ext.refl h).new' _).new' _).new' _
  have b0 : h3.blk h.nx = some (.row [iv n, sl] 31 true) := by
    show (if h.nx = h.nx + 1 + 1 then _ else if h.nx = h.nx + 1 then _ else if h.nx = h.nx then _ else _) = _
    rw [if_neg (by omega), if_neg (by omega), if_pos rfl]
  have b1 : h3.blk (h.nx + 1) = some (.row [iv s] 3 true) := by
    show (if h.nx + 1 = h.nx + 1 + 1 then _ else if h.nx + 1 = h.nx + 1 then _ else _) = _
    rw [if_neg (by omega), if_pos rfl]
  have b2 : h3.blk (h.nx + 1 + 1) = some (.row [iv t] 3 true) := by
    show (if h.nx + 1 + 1 = h.nx + 1 + 1 then _ else _) = _
    rw [if_pos rfl]
  refine ⟨h3, x48 (k := 0) (h1 := h3) ?_ rfl, x3⟩
  unfold f48
  rw [bx_eq, bx_eq, bx_eq]
  simp only [Value.cells, nx_eq, nx_new]
  show ld Try.prog h3 31 h.nx 0 _ = _
  rw [d31, rd_all (n := 2) b0 rfl, Option.bind_some]
  show ld Try.prog h3 3 (h.nx + 1) 0 _ = _
  rw [d3, cell_of b1]
  simp only [List.getElem?_cons_zero, Option.bind_some, asI_int]
  show ld Try.prog h3 3 (h.nx + 1 + 1) 0 _ = _
  rw [d3, cell_of b2]
  simp only [List.getElem?_cons_zero, Option.bind_some, asI_int]
  refine (k82 (hs.ext x3) _).trans ?_
  rw [asB_bool, hp]
  rfl
/-- One way more is taken. -/
theorem l481 {n : Nat} {s t : Int} {sl : Value} {l : List Kl} {h0 h1 h2 h5 h8 h9 : H} (hp : pairP n l s t = true) (hs : SlR h9 56 3 sl (l.map Kl.cells)) (hsb : ∀ b, blkOf sl = some b → b ≠ h8.nx) (b0 : h9.blk h0.nx = some (.row [iv n, sl] 31 true)) (b1 : h9.blk h1.nx = some (.row [iv s] 3 true)) (b2 : h9.blk h2.nx = some (.row [iv t] 3 true))
    (b5 : h9.blk h5.nx = some (.row [iv (mcP l s t 0)] 3 true)) (lt0 : h0.nx < h8.nx ∧ h1.nx < h8.nx ∧ h2.nx < h8.nx ∧ h5.nx < h8.nx ∧ h8.nx < h9.nx) {left : Nat} {W : List (List Int)} {ws : List Value} {g : H} (hw : ws = [iv left]) (hn : h9.nx ≤ g.nx) (hf : ∀ b, b < h9.nx → b ≠ h8.nx → g.blk b = h9.blk b)
    {ov : Value} {vs : List Value} (hob : g.blk h8.nx = some (.row [ov] 58 true)) (hov : AqR h9.nx g 25 1 ov (cellsV vs)) (hss : SsR g vs W) (ap : ApI l s t left W) (hlt : W.length < mcP l s t 0) :
    ∃ (left' : Nat) (g' : H) (ov' : Value) (vs' : List Value) (W' : List (List Int)), f48_l1 rn 1000 h0 h1 h2 h5 h8 ws g = some (.normal, [iv left'], g') ∧ h9.nx ≤ g'.nx ∧ (∀ b, b < h9.nx → b ≠ h8.nx → g'.blk b = h9.blk b) ∧ g'.blk h8.nx = some (.row [ov'] 58 true) ∧ AqR h9.nx g' 25 1 ov' (cellsV vs') ∧ SsR g' vs' W' ∧ ApI l s t left' W' ∧ W'.length = W.length + 1 := by
  subst hw
  obtain ⟨hv, hsn, htn, hst⟩ := pairP_parts hp
  have v := vp_iff.1 hv
  have hl24 := v.len
  have hmc := mcP_le (l := l) hst 0
  have a0 := (hf _ (by omega) (by omega)).trans b0
  have a1 := (hf _ (by omega) (by omega)).trans b1
  have a2 := (hf _ (by omega) (by omega)).trans b2
  have a5 := (hf _ (by omega) (by omega)).trans b5
  have slg : SlR g 56 3 sl (l.map Kl.cells) := slR_keep hs hn fun b hb => hf b (slR_bel hs hb) (hsb b hb)
  -- the part that is left
  have y12 := (Ext.refl g).fresh 31 [.int .i64 0, .slice none 0 0] [iv n, .slice none 0 0]
  have p12 := blk_fresh g 31 [.int .i64 0, .slice none 0 0] [iv n, .slice none 0 0]
  have n12 : (g.fresh 31 [.int .i64 0, .slice none 0 0] [iv n, .slice none 0 0]).nx = g.nx + 1 := rfl
  have hfr : ∀ {R : Type} (K : H → Option R), (al g 31 [(.int .i64 0), (.slice none 0 0)] fun h11 => st Try.prog h11 31 (nx g) 0 (.agg #[iv n, .slice none 0 0]) K) = K (g.fresh 31 [.int .i64 0, .slice none 0 0] [iv n, .slice none 0 0]) := fun K => al_st sz31 rfl rfl
  generalize g.fresh 31 [.int .i64 0, .slice none 0 0] [iv n, .slice none 0 0] = h12 at *
  obtain ⟨ix, h21, sv, q482, n21, f21, p21, asv, aix⟩ := l482 (ws0 := [iv left]) (h10 := g) ap.lt rfl (by omega) p12 (slg.ext y12) hl24 1000 (by omega)
  -- the way's own variable
  generalize e22 : h21.new (.row [.slice none 0 0] 25 true) = h22
  have n22 : h22.nx = h21.nx + 1 := by rw [← e22]; rfl
  have x22 : Ext h21 h22 := by rw [← e22]; exact .new _ _
  have w22 : h22.blk h21.nx = some (.row [.slice none 0 0] 25 true) := by rw [← e22, blk_new, if_pos rfl]
  have low : ∀ b, b < g.nx → h22.blk b = g.blk b := fun b hb => by rw [x22.blk b (by omega), f21 b (by omega) (by omega), y12.blk b hb]
  have c0 := (low _ (by omega)).trans a0
  have c1 := (low _ (by omega)).trans a1
  have c2 := (low _ (by omega)).trans a2
  have c5 := (low _ (by omega)).trans a5
  have cob := (low _ (by omega)).trans hob
  have cpb : h22.blk g.nx = some (.row [iv n, sv] 31 true) := (x22.blk _ (by omega)).trans p21
  have asv22 := asv.ext x22
  have hpl : pairP n (partL l left) s t = true := by
    unfold pairP
    rw [vp_iff.2 (v.part left), decide_eq_true hsn, decide_eq_true htn]
    simp [hst]
  have hvs : vs.length = W.length := hss.1
  have hlov : (cellsV vs).length = W.length := by simp [hvs]
  have mc : mcP (partL l left) s t 0 = (mcP l s t 0 - W.length - 1) + 1 := by
    rw [part_mc]; have := ap.gm; omega
  obtain ⟨w, tw, hw, hmw⟩ := take_some (v.part left) hsn hst mc
  have ov22 : AqR h9.nx h22 25 1 ov (cellsV vs) := hov.keep (by omega) fun b hb => low b (hov.blkOf hb).2.1
  have cb := pick_cb (g6 := h22) (wb := h21.nx) (pb := g.nx) (sb := h1.nx) (tb := h2.nx) (cb := h5.nx) (ob := h8.nx) (n := n) (pl := partL l left) (slp := sv) (ov := ov) (ol := cellsV vs) (s := s) (t := t) (cnt := mcP l s t 0) (by omega)
    ⟨by omega, by omega, cpb⟩ ⟨by omega, by omega, c1⟩ ⟨by omega, by omega, c2⟩ ⟨by omega, by omega, c5⟩ ⟨by omega, by omega, cob⟩ ov22.slR asv22.slR (fun b hb => ⟨(asv22.blkOf hb).2.1, by have := (asv.blkOf hb).2.1; omega⟩) hpl (by omega) (by rw [hlov]; exact hlt)
  rw [hlov] at cb
  obtain ⟨h23, D', q85, ⟨⟨i1, i2, wv, i3, i4⟩, _⟩, n23, f23⟩   := s85 (sl := sv) (σ0 := none) cb (by rintro b rfl; omega) (vp_iff.2 (v.part left)) hsn asv22.slR (fun b hb e => by have := (asv.blkOf hb).2.1; omega) ⟨⟨Nat.le_refl _, fun _ _ _ => rfl, .slice none 0 0, w22, rfl, rfl⟩, fun w hw => by cases hw⟩ rfl rfl
    (fun w hw => allWays_ok w hw)
  have tw' : (allWays (partL l left) s t).foldl (pickP (partL l left) s t (mcP l s t 0 - W.length - 1)) none = some w := tw
  rw [tw'] at i4
  obtain ⟨hw0, q, _, q1, q2, ia⟩ := i4
  have f23' : ∀ b, b < h22.nx → b ≠ h21.nx → h23.blk b = h22.blk b := fun b hb hne => f23 b hb hne
  have aix23 : SlR h23 3 1 ix (cellsI (idxZ l left)) := slR_keep aix.slR (by omega) fun b hb => by rw [f23' b (by have := (aix.blkOf hb).2.1; omega) (by have := (aix.blkOf hb).2.1; omega), x22.blk b (aix.blkOf hb).2.1]
  have hokw := allWays_ok w hw
  have hzl : (partL l left).length = (partZ l left).length := by simp [partL]
  obtain ⟨h26, q483, n26, f26, ia26⟩ := l483 (h21 := h21) (h23 := h23) (ix := ix) (wv := wv) (ws2 := [ix, iv l.length]) (l := l) (left := left) (q := q) (w := w) hl24 ap.lt rfl i3 (by omega) aix23 (fun e => by have := (aix.blkOf e).2.1; omega) ia (fun x hx => by have := hokw.2.2 x hx; omega) 1000 hokw.2.1
  -- what was there
  have low26 : ∀ b, b < g.nx → h26.blk b = g.blk b := fun b hb => by rw [f26 b (by omega), f23' b (by omega) (by omega), low b hb]
  have ov26 : AqR h9.nx h26 25 1 ov (cellsV vs) := hov.keep (by omega) fun b hb => low26 b (hov.blkOf hb).2.1
  have ss26 : SsR h26 vs W := hss.keep (by omega) fun u hu b hb => low26 b (hss.bel hu hb)
  have ob26 := (low26 _ (by omega)).trans hob
  have wb26 : h26.blk h21.nx = some (.row [wv] 25 true) := (f26 _ (by omega)).trans i3
  obtain ⟨cw, hcw, _, _⟩ := ia26.val
  obtain ⟨ov', h28, e28, a28, n28, k28, b28, hb28, hb28'⟩ := ov26.push (xv := wv) (x := [wv]) app58 app58 (by rw [hcw]; exact bls58 _ _ _ _) rfl (by rw [hcw]; rfl) (by rw [hlov]; omega) (by omega)
  have ob28 : h28.blk h8.nx = some (.row [ov] 58 true) := (k28 _ (by omega) (fun e => by have := (ov26.blkOf e).2.2; rw [ob26] at this; simp at this)).trans ob26
  have hst' : wrc 1 h28 h8.nx 0 ov' = some (h28.set h8.nx (.row [ov'] 58 true)) := by rw [wrc_one ob28 a28.cells.1 a28.cells.2 (by simp)]; rfl
  have step := ap.step v hsn hst hw (by omega) hlt
  have keep28 : ∀ b c o, b < h26.nx → h26.blk b = some (.row c 3 o) → (h28.set h8.nx (.row [ov'] 58 true)).blk b = h26.blk b := fun b c o hb hr => by
    rw [blk_set_ne _ _ _ (fun e => by rw [e, ob26] at hr; simp at hr), k28 b hb (fun e => by have := (ov26.blkOf e).2.2; rw [hr] at this; simp at this)]
  refine ⟨leftS left (w.map (placeZ l left)), h28.set h8.nx (.row [ov'] 58 true), ov', vs ++ [wv], W ++ [w.map (placeZ l left)], ?_, by rw [nx_set]; omega, fun b hb hne => ?_, blk_set_self _ _ _, ?_, ?_, step, by simp⟩
  · unfold f48_l1
    simp only [nx_eq]
    rw [d58, cell_of hob]
    simp only [List.getElem?_cons_zero, Option.bind_some]
    rw [hov.slR.len, hlov, d3, cell_of a5]
    simp only [List.getElem?_cons_zero, Option.bind_some, asI_int]
    rw [lt_t (by omega), ifB_true, d3, cell_of a0]
    simp only [List.getElem?_cons_zero, Option.bind_some, asI_int]
    rw [show ∀ K : Value → Option (Ex × List Value × H), bld Try.prog 31 [(0, .int .i64 (n : Int))] K = K (.agg #[iv n, .slice none 0 0]) from fun K => bld_some (by kernel_rfl)]
    refine (hfr _).trans ?_
    rw [d29, cell_of ((y12.blk _ (by omega)).trans a0), show ([iv (n : Int), sl] : List Value)[off 0 1]? = some sl from rfl, Option.bind_some, (slg.ext y12).len, List.length_map, lp_eq q482, onE_exit, if_pos rfl, al_eq, e22]
    rw [d31, rd_all (n := 2) cpb rfl, Option.bind_some, d3, cell_of c1]
    simp only [List.getElem?_cons_zero, Option.bind_some, asI_int]
    rw [d3, cell_of c2]
    simp only [List.getElem?_cons_zero, Option.bind_some, asI_int]
    refine (calls_eq (xs := [_, _, _, _]) q85).trans ?_
    rw [d25, cell_of i3]
    simp only [List.getElem?_cons_zero, Option.bind_some]
    rw [ia.len]
    have q483' : lpGo (f48_l3 rn 1000 [ix, iv l.length] h21 wv w.length) 1000 [gv [iv (left : Int)] 0, .int .i64 0] h23 = _ := q483
    rw [lp_eq q483', onE_exit, if_pos rfl, d58, cell_of ob26]
    simp only [List.getElem?_cons_zero, Option.bind_some]
    rw [d25, cell_of wb26]
    simp only [List.getElem?_cons_zero, Option.bind_some]
    rw [e28]
    rw [w58, hst']
    rfl
  · have hgl : b < g.nx := by omega
    rw [blk_set_ne _ _ _ hne, k28 b (by omega) (fun e => by have := (ov26.blkOf e).1; omega), low26 b hgl, hf b hb hne]
  · rw [cellsV, List.map_append]
    exact a28.keep (Nat.le_refl _) fun b hb => blk_set_ne _ _ _ fun e => by rw [hb28] at hb; cases hb; omega
  · refine SsR.snoc (ss26.keep (by rw [nx_set]; exact n28) fun u hu b hb => ?_) ?_
    · obtain ⟨c, o, hr⟩ := ss26.row hu hb
      exact keep28 b c o (ss26.bel hu hb) hr
    · exact slR_keep ia26.slR (by rw [nx_set]; exact n28) fun b hb => by
        have : b = q := by rw [hcw] at hb; cases hb; rfl
        subst this
        exact keep28 b _ _ ia26.lt ia26.row
theorem s48 {n : Nat} {s t : Int} {sl : Value} {l : List Kl} {h : H} (hs : SlR h 56 3 sl (l.map Kl.cells)) (hp : pairP n l s t = true) :
    ∃ v vs W h', rn 48 #[.agg #[iv n, sl], iv s, iv t] h = some (.tuple #[v, iv 0], h') ∧ Ext h h' ∧ SlR h' 25 1 v (cellsV vs) ∧ SsR h' vs W ∧ AprR l s t W := by
  obtain ⟨hv, hsn, htn, hst⟩ := pairP_parts hp
  have hl24 := (validP_ok hv).2.2.1
  have hmc := mcP_le (l := l) hst 0
  generalize e1 : h.new (.row [iv n, sl] 31 true) = h1
  generalize e2 : h1.new (.row [iv s] 3 true) = h2
  generalize e3 : h2.new (.row [iv t] 3 true) = h3
  have n1 : h1.nx = h.nx + 1 := by rw [← e1]; rfl
  have n2 : h2.nx = h.nx + 2 := by rw [← e2]; show h1.nx + 1 = _; omega
  have n3 : h3.nx = h.nx + 3 := by rw [← e3]; show h2.nx + 1 = _; omega
  have x3 : Ext h h3 := by rw [← e3, ← e2, ← e1]; exact (((Ext.refl h).new' _).new' _).new' _
  have b30 : h3.blk h.nx = some (.row [iv n, sl] 31 true) := by rw [← e3, blk_new_ne _ _ (by omega), ← e2, blk_new_ne _ _ (by omega), ← e1, blk_new_self]
  have b31 : h3.blk h1.nx = some (.row [iv s] 3 true) := by rw [← e3, blk_new_ne _ _ (by omega), ← e2, blk_new_self]
  have b32 : h3.blk h2.nx = some (.row [iv t] 3 true) := by rw [← e3, blk_new_self]
  obtain ⟨h5, lo, nb, rb, xb, nxs, r, k, c83, nt, mf, x5, _⟩ := s83 (gone := 0) (hs.ext x3) hv (by decide) hsn htn hst
  have hk : k = mcP l s t 0 := mf.gm
  have y7 := (Ext.refl h5).fresh 3 [iv 0] [iv k]
  have p7 := blk_fresh h5 3 [iv 0] [iv k]
  have n7 : (h5.fresh 3 [iv 0] [iv k]).nx = h5.nx + 1 := rfl
  have hfr : ∀ {R : Type} (K : H → Option R), (al h5 3 [(.int .i64 0)] fun h6 => st Try.prog h6 3 (nx h5) 0 (.int .i64 k) K) = K (h5.fresh 3 [iv 0] [iv k]) := fun K => al_st1 sz3 rfl rfl
  generalize h5.fresh 3 [iv 0] [iv k] = h7 at *
  have x7 := x3.trans (x5.trans y7)
  have c84 := s84 (hs.ext x7) hl24 (nt.ext y7)
  generalize e9 : h7.new (.row [.slice none 0 0] 58 true) = h9
  have n9 : h9.nx = h7.nx + 1 := by rw [← e9]; rfl
  have x9 : Ext h7 h9 := by rw [← e9]; exact .new _ _
  have b9 : h9.blk h7.nx = some (.row [.slice none 0 0] 58 true) := by rw [← e9, blk_new_self]
  have n5 := x5.nx
  have lift : ∀ b, b < h3.nx → h9.blk b = h3.blk b := fun b hb => by rw [x9.blk b (by omega), y7.blk b (by omega), x5.blk b hb]
  have ap0 : ApI l s t (usedN r l.length) [] := ⟨Nat.lt_of_lt_of_le (usedN_lt r _) (Nat.pow_le_pow_right (by decide) hl24), by rw [used_gm hl24 hst (by exact mf), hk]; rfl, by simp, List.Pairwise.nil⟩
  have hsl9 : SlR h9 56 3 sl (l.map Kl.cells) := hs.ext (x7.trans x9)
  have b9' : ∀ b, blkOf sl = some b → b ≠ h7.nx := fun b hb => by have := slR_bel hs hb; omega
  have b59 : h9.blk h5.nx = some (.row [iv (mcP l s t 0)] 3 true) := by rw [x9.blk _ (by omega), p7, hk]
  obtain ⟨e, ws, g', q1, rfl, ov, vs, W, m1, m2, m3, m4, m5, m6, m7, m8⟩ := lp_meas (F := f48_l1 rn 1000 h h1 h2 h5 h7) (σ := Nat × List (List Int))
    (fun σ ws g => ws = [iv σ.1] ∧ h9.nx ≤ g.nx ∧ (∀ b, b < h9.nx → b ≠ h7.nx → g.blk b = h9.blk b) ∧ ∃ ov vs, g.blk h7.nx = some (.row [ov] 58 true) ∧ AqR h9.nx g 25 1 ov (cellsV vs) ∧ SsR g vs σ.2 ∧ ApI l s t σ.1 σ.2)
    (fun σ => mcP l s t 0 - σ.2.length)
    (fun e ws g => e = .exit 0 ∧ ∃ ov vs W, h9.nx ≤ g.nx ∧ (∀ b, b < h9.nx → b ≠ h7.nx → g.blk b = h9.blk b) ∧ g.blk h7.nx = some (.row [ov] 58 true) ∧ AqR h9.nx g 25 1 ov (cellsV vs) ∧ SsR g vs W ∧ W.length = mcP l s t 0 ∧ (∀ w ∈ W, w ∈ allWays l s t) ∧ W.Pairwise fun w u => ∀ i ∈ w, i ∉ u)
    (fun σ ws g hI => by
      obtain ⟨left, W⟩ := σ
      obtain ⟨hw, hn, hf, ov, vs, hob, hov, hss, ap⟩ := hI
      simp only at hw hss ap
      by_cases hlt : W.length < mcP l s t 0
      · obtain ⟨left', g', ov', vs', W', r1, r2, r3, r4, r5, r6, r7, r8⟩ := l481 (h0 := h) (h1 := h1) (h2 := h2) (h5 := h5) (h8 := h7) hp hsl9 b9' ((lift _ (by omega)).trans b30) ((lift _ (by omega)).trans b31) ((lift _ (by omega)).trans b32) b59 (by omega) hw hn hf hob hov hss ap hlt
        exact ⟨_, _, g', r1, .inl ⟨rfl, (left', W'), ⟨rfl, r2, r3, ov', vs', r4, r5, r6, r7⟩, by simp only; omega⟩⟩
      · refine ⟨.exit 0, [gv ws 0], g, ?_, .inr ⟨by simp, rfl, ov, vs, W, hn, hf, hob, hov, hss, by have := ap.gm; omega, fun w hw => (ap.ways w hw).1, ap.dis⟩⟩
        have a5 := (hf h5.nx (by omega) (by omega)).trans b59
        have hlov : (cellsV vs).length = W.length := by simp [hss.1]
        unfold f48_l1
        simp only [nx_eq]
        rw [d58, cell_of hob]
        simp only [List.getElem?_cons_zero, Option.bind_some]
        rw [hov.slR.len, hlov, d3, cell_of a5]
        simp only [List.getElem?_cons_zero, Option.bind_some, asI_int]
        rw [lt_f (by omega), ifB_false]
        rfl) 1000 (usedN r l.length, []) [iv (usedN r l.length)] h9 (by simp only; omega) ⟨rfl, Nat.le_refl _, fun _ _ _ => rfl, _, [], b9, .nil, ⟨rfl, fun j v l hv => by simp at hv⟩, ap0⟩
  have xg : Ext h g' := ⟨by omega, fun b hb => by rw [m2 b (by omega) (by omega), lift b (by omega), x3.blk b hb]⟩
  refine ⟨ov, vs, W, g', x48 (k := 1000) ?_ (by obtain ⟨x, y, z, hz⟩ := m4.isSl; rw [hz]; rfl), xg, m4.slR, m5, m6, m7, m8⟩
  unfold f48
  rw [bx_eq]
  simp only [Value.cells, nx_eq]
  rw [e1, bx_eq]
  simp only [Value.cells]
  rw [e2, bx_eq]
  simp only [Value.cells]
  rw [e3, d31, rd_all (n := 2) b30 rfl, Option.bind_some, d3, cell_of b31]
  simp only [List.getElem?_cons_zero, Option.bind_some, asI_int]
  rw [d3, cell_of b32]
  simp only [List.getElem?_cons_zero, Option.bind_some, asI_int]
  refine (k82 (hs.ext x3) _).trans ?_
  rw [asB_bool, hp, Bool.not_true, ifB_false, d31, rd_all (n := 2) b30 rfl, Option.bind_some, d3, cell_of b31]
  simp only [List.getElem?_cons_zero, Option.bind_some, asI_int]
  rw [d3, cell_of b32]
  simp only [List.getElem?_cons_zero, Option.bind_some, asI_int]
  refine (calls_eq (xs := [_, _, _, _]) c83).trans ?_
  rw [ext20, ext21, asI_int]
  refine (hfr _).trans ?_
  rw [d31, rd_all (n := 2) (((y7.blk _ (by omega)).trans (x5.blk _ (by omega))).trans b30) rfl, Option.bind_some]
  refine (calls_eq (xs := [_, _]) c84).trans ?_
  rw [asI_int, al_eq, e9, lp_eq q1, onE_exit, if_pos rfl, d58, cell_of m3]
  rfl
end Go.AM
end

section
namespace Go.AM
open Go.Proofs
theorem gone_or (g i : Nat) : (goneD (g ||| 2 ^ i)) = fun j => goneD g j || decide (j = i) := by
  funext j
  simp only [goneD, Nat.testBit_or, Nat.testBit_two_pow]
  congr 1
  exact decide_eq_decide.2 ⟨fun h => h.symm, fun h => h.symm⟩
theorem mc_one {l : List Kl} {s t : Int} (hst : s ≠ t) (hl : l.length < 1000) (g i : Nat) : mcP l s t g ≤ mcP l s t (g ||| 2 ^ i) + 1 := by
  refine GM_one (j := i) (fun j hj => ?_) (by simpa using Ne.symm hst) hl
  rw [gone_or]
  simp [hj]
theorem asc_nodup : ∀ (w : List Nat) (m : Nat), Asc m w → w.Nodup := by
  intro w
  induction w with
  | nil => intro _ _; exact List.nodup_nil
  | cons i w ih =>
    intro m h
    rw [List.nodup_cons]
    exact ⟨fun hi => by have := h.2.mem i hi; omega, ih _ h.2⟩
theorem way_nodup {n s t : Int} {l : List Kl} (v : VP n l) (hs : 0 ≤ s ∧ s < n) (hst : s ≠ t) {w : List Int} (hw : w ∈ allWays l s t) : w.Nodup := by
  obtain ⟨_, h2⟩ := way_walk v hs hst (d := fun _ => false) hw (fun _ _ => rfl)
  have := asc_nodup _ _ h2
  rw [List.nodup_iff_pairwise_ne, List.pairwise_map] at this
  rw [List.nodup_iff_pairwise_ne]
  exact this.imp fun h e => h (by rw [e])
end Go.AM
end

section
namespace Go.AM
open Go.Proofs
theorem sumI_upd {j0 : Nat} {f g : Nat → Int} : ∀ {n : Nat}, j0 < n → (∀ j, j ≠ j0 → f j = g j) → sumI n f = sumI n g + (f j0 - g j0) := by
  intro n
  induction n with
  | zero => intro h; omega
  | succ n ih =>
    intro hj h
    rw [sumI_succ, sumI_succ]
    by_cases e : j0 = n
    · subst e
      have : sumI j0 f = sumI j0 g := by
        unfold sumI
        congr 1
        exact List.map_congr_left fun j hj => h j (by have := List.mem_range.1 hj; omega)
      omega
    · have := ih (by omega) h
      have := h n (Ne.symm e)
      omega
theorem sumI_nn {f : Nat → Int} : ∀ {n : Nat}, (∀ i, i < n → 0 ≤ f i) → 0 ≤ sumI n f := by
  intro n
  induction n with
  | zero => intro _; simp [sumI]
  | succ n ih =>
    intro h
    rw [sumI_succ]
    have := ih fun i hi => h i (by omega)
    have := h n (by omega)
    omega
theorem sumI_np {f : Nat → Int} : ∀ {n : Nat}, (∀ i, i < n → f i ≤ 0) → sumI n f ≤ 0 := by
  intro n
  induction n with
  | zero => intro _; simp [sumI]
  | succ n ih =>
    intro h
    rw [sumI_succ]
    have := ih fun i hi => h i (by omega)
    have := h n (by omega)
    omega
theorem sumI_one {f : Nat → Int} {j : Nat} : ∀ {n : Nat}, (∀ i, i < n → 0 ≤ f i) → j < n → f j ≤ sumI n f := by
  intro n
  induction n with
  | zero => intro _ h; omega
  | succ n ih =>
    intro h hj
    rw [sumI_succ]
    by_cases e : j = n
    · subst e
      have := sumI_nn (n := j) (f := f) fun i hi => h i (by omega)
      omega
    · have := ih (fun i hi => h i (by omega)) (by omega)
      have := h n (by omega)
      omega
theorem sumI_two (f : Nat → Int) : ∀ m, sumI (2 * m) f = sumI m fun i => f (2 * i) + f (2 * i + 1) := by
  intro m
  induction m with
  | zero => rfl
  | succ m ih =>
    rw [show 2 * (m + 1) = 2 * m + 1 + 1 by omega, sumI_succ, sumI_succ, sumI_succ, ih]
    omega
theorem sumR_more {f : Nat → Nat} {m : Nat} (h : ∀ i, m ≤ i → f i = 0) : ∀ d, sumR (m + d) f = sumR m f := by
  intro d
  induction d with
  | zero => rfl
  | succ d ih => rw [show m + (d + 1) = m + d + 1 by omega, sumR_succ, ih, h _ (by omega)]; rfl
def omW (χ : Nat → Nat → Int) (j : Nat) : Int := if j % 32 < 31 then χ (j / 32) (j % 32) - χ (j / 32) (j % 32 + 1) else 0
def upU (l : List Kl) (χ : Nat → Nat → Int) (j : Nat) : Int :=
  match l[j / 2]? with
  | some c => if j % 2 = 0 then χ c.a.toNat c.t.toNat - χ c.b.toNat (c.t.toNat + 1) else χ c.b.toNat c.t.toNat - χ c.a.toNat (c.t.toNat + 1)
  | none => 0
def fluxR (l : List Kl) (W : Nat → Int) (U : Nat → Bool) (χ : Nat → Nat → Int) : Int := sumI 224 (fun j => W j * omW χ j) + sumI 48 (fun j => b2 (U j) * upU l χ j)
/-- A flow of k ways, and one more that has come to 'cur'. -/
structure RflOk (l : List Kl) (gone s t : Nat) (W : Nat → Int) (U : Nat → Bool) (k : Nat) (cur : Nat × Nat) : Prop where
  wnn : ∀ j, 0 ≤ W j
  ug : ∀ j, U j = true → gone.testBit (j / 2) = false
  bal : ∀ χ : Nat → Nat → Int, (∀ x, χ t x = 0) → fluxR l W U χ = k * χ s 0 + (χ s 0 - χ cur.1 cur.2)
def updF {α : Type} (f : Nat → α) (i : Nat) (v : α) : Nat → α := fun j => if j = i then v else f j
theorem updF_at {α : Type} (f : Nat → α) (i : Nat) (v : α) : updF f i v i = v := by simp [updF]
theorem updF_ne {α : Type} (f : Nat → α) {i j : Nat} (v : α) (h : j ≠ i) : updF f i v j = f j := by simp [updF, h]
theorem updF_back {α : Type} (f : Nat → α) (i : Nat) (v : α) : updF (updF f i v) i (f i) = f := by
  funext j
  unfold updF
  by_cases h : j = i <;> simp [h]
theorem flux_W {l : List Kl} {W : Nat → Int} {U : Nat → Bool} {χ : Nat → Nat → Int} {j : Nat} (hj : j < 224) (z : Int) : fluxR l (updF W j z) U χ = fluxR l W U χ + (z - W j) * omW χ j := by
  unfold fluxR
  rw [sumI_upd (f := fun i => updF W j z i * omW χ i) (g := fun i => W i * omW χ i) hj (fun i hi => by rw [updF_ne _ _ hi])]
  simp only [updF_at, Int.sub_mul]
  omega
theorem flux_U {l : List Kl} {W : Nat → Int} {U : Nat → Bool} {χ : Nat → Nat → Int} {j : Nat} (hj : j < 48) (z : Bool) : fluxR l W (updF U j z) χ = fluxR l W U χ + (b2 z - b2 (U j)) * upU l χ j := by
  unfold fluxR
  rw [sumI_upd (f := fun i => b2 (updF U j z i) * upU l χ i) (g := fun i => b2 (U i) * upU l χ i) hj (fun i hi => by rw [updF_ne _ _ hi])]
  simp only [updF_at, Int.sub_mul]
  omega
section
variable {l : List Kl} {gone s t k : Nat} {W : Nat → Int} {U : Nat → Bool}
theorem om_at (χ : Nat → Nat → Int) {p x : Nat} (hx : x < 31) : omW χ (32 * p + x) = χ p x - χ p (x + 1) := by
  unfold omW
  rw [show (32 * p + x) % 32 = x by omega, show (32 * p + x) / 32 = p by omega, if_pos hx]
/-- One step of waiting. -/
theorem RflOk.wait {p x : Nat} (f : RflOk l gone s t W U k (p, x)) (hp : p < 7) (hx : x < 31) : RflOk l gone s t (updF W (32 * p + x) (W (32 * p + x) + 1)) U k (p, x + 1) := by
  refine ⟨fun j => ?_, f.ug, fun χ hχ => ?_⟩
  · unfold updF
    have := f.wnn (32 * p + x)
    have := f.wnn j
    split <;> omega
  · rw [flux_W (by omega), f.bal χ hχ, om_at χ hx]
    simp only
    omega
/-- Less waiting: a step back. -/
theorem RflOk.unwait {p x : Nat} (f : RflOk l gone s t W U k (p, x + 1)) (hp : p < 7) (hx : x < 31) (hw : 0 < W (32 * p + x)) : RflOk l gone s t (updF W (32 * p + x) (W (32 * p + x) - 1)) U k (p, x) := by
  refine ⟨fun j => ?_, f.ug, fun χ hχ => ?_⟩
  · unfold updF
    have := f.wnn j
    split <;> omega
  · rw [flux_W (by omega), f.bal χ hχ, om_at χ hx]
    have e : (W (32 * p + x) - 1 - W (32 * p + x)) * (χ p x - χ p (x + 1)) = -(χ p x - χ p (x + 1)) := by
      rw [show W (32 * p + x) - 1 - W (32 * p + x) = -1 by omega]; omega
    rw [e]
    simp only
    omega
/-- The two ends of a call in a direction. -/
def fromU (c : Kl) (kk : Nat) : Nat := if kk = 0 then c.a.toNat else c.b.toNat
def toU (c : Kl) (kk : Nat) : Nat := if kk = 0 then c.b.toNat else c.a.toNat
theorem up_at (χ : Nat → Nat → Int) {i kk : Nat} {c : Kl} (hc : l[i]? = some c) (hk : kk < 2) : upU l χ (2 * i + kk) = χ (fromU c kk) c.t.toNat - χ (toU c kk) (c.t.toNat + 1) := by
  unfold upU fromU toU
  rw [show (2 * i + kk) / 2 = i by omega, hc, show (2 * i + kk) % 2 = kk by omega]
  simp only
  split <;> rfl
/-- A call is made. -/
theorem RflOk.made {i kk : Nat} {c : Kl} (hc : l[i]? = some c) (hk : kk < 2) (hi : i < 24) (f : RflOk l gone s t W U k (fromU c kk, c.t.toNat)) (hg : gone.testBit i = false) (hu : U (2 * i + kk) = false) : RflOk l gone s t W (updF U (2 * i + kk) true) k (toU c kk, c.t.toNat + 1) := by
  refine ⟨f.wnn, fun j hj => ?_, fun χ hχ => ?_⟩
  · unfold updF at hj
    split at hj
    · rename_i e; rw [e, show (2 * i + kk) / 2 = i by omega]; exact hg
    · exact f.ug j hj
  · rw [flux_U (by omega), f.bal χ hχ, up_at χ hc hk, hu]
    simp only [b2]
    simp
    omega
/-- A call is undone. -/
theorem RflOk.unmade {i kk : Nat} {c : Kl} (hc : l[i]? = some c) (hk : kk < 2) (hi : i < 24) (f : RflOk l gone s t W U k (toU c kk, c.t.toNat + 1)) (hu : U (2 * i + kk) = true) : RflOk l gone s t W (updF U (2 * i + kk) false) k (fromU c kk, c.t.toNat) := by
  refine ⟨f.wnn, fun j hj => ?_, fun χ hχ => ?_⟩
  · unfold updF at hj
    split at hj
    · cases hj
    · exact f.ug j hj
  · rw [flux_U (by omega), f.bal χ hχ, up_at χ hc hk, hu]
    simp only [b2]
    simp
    omega
/-- The way has come to t. -/
theorem RflOk.done {x : Nat} (f : RflOk l gone s t W U k (t, x)) : RflOk l gone s t W U (k + 1) (s, 0) := by
  refine ⟨f.wnn, f.ug, fun χ hχ => ?_⟩
  rw [f.bal χ hχ]
  simp only [hχ]
  rw [show (((k + 1 : Nat) : Int) * χ s 0) = k * χ s 0 + χ s 0 by rw [Int.natCast_add, Int.add_mul]; simp]
  omega
theorem ref0 : RflOk l gone s t (fun _ => 0) (fun _ => false) 0 (s, 0) := by
  refine ⟨fun _ => Int.le_refl _, fun j hj => (by cases hj), fun χ _ => ?_⟩
  have e1 : ∀ n, sumI n (fun j => 0 * omW χ j) = 0 := by
    intro n
    induction n with
    | zero => rfl
    | succ n ih => rw [sumI_succ, ih]; simp
  have e2 : ∀ n, sumI n (fun j => b2 false * upU l χ j) = 0 := by
    intro n
    induction n with
    | zero => rfl
    | succ n ih => rw [sumI_succ, ih]; simp [b2]
  unfold fluxR
  rw [e1, e2]
  simp
theorem two_count {l : List Kl} (h : l.Pairwise apartK) (x : Int) : ∀ (i : Nat) (c : Kl), l[i]? = some c → (i < l.countP (fun c => decide (c.t < x)) ↔ c.t < x) := by
  induction l with
  | nil => intro i c hc; simp at hc
  | cons d l ih =>
    rw [List.pairwise_cons] at h
    intro i c hc
    rw [List.countP_cons]
    by_cases hd : d.t < x
    · rw [if_pos (by simpa using hd)]
      cases i with
      | zero => simp at hc; subst hc; simp [hd]
      | succ i =>
        rw [List.getElem?_cons_succ] at hc
        have := ih h.2 i c hc
        omega
    · rw [if_neg (by simpa using hd)]
      have hz : l.countP (fun c => decide (c.t < x)) = 0 := by
        rw [List.countP_eq_zero]
        intro e he
        have := (h.1 e he).1
        simp; omega
      rw [hz]
      cases i with
      | zero => simp at hc; subst hc; omega
      | succ i =>
        rw [List.getElem?_cons_succ] at hc
        have := (h.1 c (List.mem_of_getElem? hc)).1
        omega
theorem ref_le {n : Int} (v : VP n l) (f : RflOk l gone s t W U k (s, 0)) {X : Nat → Int → Bool} (hX : ∀ i, i < l.length → SubX (X i) (X (i + 1))) (h0 : X 0 (s : Int) = true) (h1 : X l.length (t : Int) = false) : k ≤ penS (maskL l (goneD gone)) X := by
  have up : ∀ (d m : Nat), m + d ≤ l.length → SubX (X m) (X (m + d)) := by
    intro d
    induction d with
    | zero => intro m _; exact .refl _
    | succ d ih => intro m h; exact (ih m (by omega)).trans (hX (m + d) (by omega))
  have up' : ∀ m m', m ≤ m' → m' ≤ l.length → SubX (X m) (X m') := fun m m' h h' => by
    have := up (m' - m) m (by omega)
    rwa [show m + (m' - m) = m' by omega] at this
  let kx : Int → Nat := fun x => l.countP fun c => decide (c.t < x)
  have kl : ∀ x, kx x ≤ l.length := fun x => List.countP_le_length
  have km : ∀ x y : Int, x ≤ y → kx x ≤ kx y := fun x y h => List.countP_mono_left fun c _ hc => by simp at hc ⊢; omega
  have k0 : kx 0 = 0 := by
    show l.countP _ = 0
    rw [List.countP_eq_zero]
    intro c hc
    have := (okC_iff.1 (v.ok c hc)).2.2.2.1
    simp; omega
  let χ : Nat → Nat → Int := fun p x => b2 (X (kx (x : Int)) (p : Int))
  have hχt : ∀ x, χ t x = 0 := by
    intro x
    show b2 (X (kx (x : Int)) (t : Int)) = 0
    have : X (kx (x : Int)) (t : Int) = false := by
      rw [Bool.eq_false_iff]
      intro h
      have := up' _ _ (kl x) (Nat.le_refl _) _ h
      rw [h1] at this; cases this
    rw [this]; rfl
  have hb := f.bal χ hχt
  have hχs : χ s 0 = 1 := by
    show b2 (X (kx ((0 : Nat) : Int)) (s : Int)) = 1
    rw [show ((0 : Nat) : Int) = 0 from rfl, k0, h0]; rfl
  simp only [hχs] at hb
  have hW : sumI 224 (fun j => W j * omW χ j) ≤ 0 := by
    refine sumI_np fun j _ => ?_
    refine Int.mul_nonpos_of_nonneg_of_nonpos (f.wnn j) ?_
    unfold omW
    split
    · have : χ (j / 32) (j % 32) ≤ χ (j / 32) (j % 32 + 1) := b2_le fun h => up' _ _ (km _ _ (by omega)) (kl _) _ h
      omega
    · omega
  have hU : sumI 48 (fun j => b2 (U j) * upU l χ j) ≤ (sumR 24 (fun i => match l[i]? with
    | some c => if goneD gone i then 0 else penC c (X i) (X (i + 1))
    | none => 0) : Nat) := by
    rw [show (48 : Nat) = 2 * 24 from rfl, sumI_two]
    refine sumI_le fun i hi => ?_
    cases hc : l[i]? with
    | none =>
      have e : ∀ kk, kk < 2 → upU l χ (2 * i + kk) = 0 := fun kk hk => by
        unfold upU
        rw [show (2 * i + kk) / 2 = i by omega, hc]
      have e0 := e 0 (by omega)
      have e1 := e 1 (by omega)
      rw [Nat.add_zero] at e0
      rw [e0, e1]
      simp
    | some c =>
      have hil := (List.getElem?_eq_some_iff.1 hc).1
      obtain ⟨o1, o2, _, o4, _⟩ := okC_iff.1 (v.ok c (List.mem_of_getElem? hc))
      have e0 := up_at (l := l) χ hc (kk := 0) (by omega)
      have e1 := up_at (l := l) χ hc (kk := 1) (by omega)
      rw [Nat.add_zero] at e0
      rw [e0, e1]
      show b2 (U (2 * i)) * (χ c.a.toNat c.t.toNat - χ c.b.toNat (c.t.toNat + 1)) + b2 (U (2 * i + 1)) * (χ c.b.toNat c.t.toNat - χ c.a.toNat (c.t.toNat + 1)) ≤ _
      by_cases hg : goneD gone i = true
      · have u0 : U (2 * i) = false := by
          rw [Bool.eq_false_iff]; intro h
          have := f.ug _ h
          rw [show 2 * i / 2 = i by omega] at this
          rw [show goneD gone i = gone.testBit i from rfl, this] at hg; cases hg
        have u1 : U (2 * i + 1) = false := by
          rw [Bool.eq_false_iff]; intro h
          have := f.ug _ h
          rw [show (2 * i + 1) / 2 = i by omega] at this
          rw [show goneD gone i = gone.testBit i from rfl, this] at hg; cases hg
        rw [u0, u1]
        simp [b2]
      · simp only [if_neg hg]
        have ca : ((c.a.toNat : Nat) : Int) = c.a := by omega
        have cb : ((c.b.toNat : Nat) : Int) = c.b := by omega
        have ct : ((c.t.toNat : Nat) : Int) = c.t := by omega
        have ct1 : ((c.t.toNat + 1 : Nat) : Int) = c.t + 1 := by omega
        have kT : kx c.t ≤ i := by
          have := two_count v.two c.t i c hc
          show l.countP _ ≤ i
          omega
        have kT1 : i + 1 ≤ kx (c.t + 1) := by
          have := two_count v.two (c.t + 1) i c hc
          show i + 1 ≤ l.countP _
          omega
        have a0 := up' _ _ kT (by omega) c.a
        have b0 := up' _ _ kT (by omega) c.b
        have ai := hX i hil c.a
        have bi := hX i hil c.b
        have a1 := up' _ _ kT1 (kl _) c.a
        have b1 := up' _ _ kT1 (kl _) c.b
        show b2 (U (2 * i)) * (b2 (X (kx ((c.t.toNat : Nat) : Int)) ((c.a.toNat : Nat) : Int)) - b2 (X (kx ((c.t.toNat + 1 : Nat) : Int)) ((c.b.toNat : Nat) : Int))) + b2 (U (2 * i + 1)) * (b2 (X (kx ((c.t.toNat : Nat) : Int)) ((c.b.toNat : Nat) : Int)) - b2 (X (kx ((c.t.toNat + 1 : Nat) : Int)) ((c.a.toNat : Nat) : Int))) ≤ ((penC c (X i) (X (i + 1)) : Nat) : Int)
        rw [ca, cb, ct, ct1]
        unfold penC
        generalize X (kx c.t) c.a = A0 at *
        generalize X (kx c.t) c.b = B0 at *
        generalize X (kx (c.t + 1)) c.a = A1 at *
        generalize X (kx (c.t + 1)) c.b = B1 at *
        generalize X i c.a = Ai at *
        generalize X i c.b = Bi at *
        generalize X (i + 1) c.a = Aj at *
        generalize X (i + 1) c.b = Bj at *
        generalize U (2 * i) = u0 at *
        generalize U (2 * i + 1) = u1 at *
        clear hb hW up up' hχt hχs kl km k0 hX f h0 h1
        cases A0 <;> cases B0 <;> cases A1 <;> cases B1 <;> cases Ai <;> cases Bi <;> cases Aj <;> cases Bj <;> simp at a0 b0 ai bi a1 b1 <;> cases u0 <;> cases u1 <;> simp [b2]
  rw [penS_mask]
  have hm := sumR_more (f := fun i => match l[i]? with
    | some c => if goneD gone i then 0 else penC c (X i) (X (i + 1))
    | none => 0) (m := l.length) (fun i hi => by rw [List.getElem?_eq_none hi]) (24 - l.length)
  rw [show l.length + (24 - l.length) = 24 by have := v.len; omega] at hm
  rw [hm] at hU
  unfold fluxR at hb
  have : (k : Int) ≤ (sumR l.length (fun i => match l[i]? with
    | some c => if goneD gone i then 0 else penC c (X i) (X (i + 1))
    | none => 0) : Nat) := by omega
  exact Int.ofNat_le.1 this
end
end Go.AM
end

section
namespace Go.AM
open Go.Proofs
/-- May one go on from u to v? -/
def ResR (l : List Kl) (gone : Nat) (W : Nat → Int) (U : Nat → Bool) (u v : Nat × Nat) : Prop :=
  (u.2 < 31 ∧ v = (u.1, u.2 + 1)) ∨ (∃ y, u.2 = y + 1 ∧ v = (u.1, y) ∧ 0 < W (32 * u.1 + y)) ∨
  (∃ i c kk, l[i]? = some c ∧ kk < 2 ∧ gone.testBit i = false ∧ ((u = (fromU c kk, c.t.toNat) ∧ U (2 * i + kk) = false ∧ v = (toU c kk, c.t.toNat + 1)) ∨ (u = (toU c kk, c.t.toNat + 1) ∧ U (2 * i + kk) = true ∧ v = (fromU c kk, c.t.toNat))))
/-- What is left out at a call. -/
def penM (l : List Kl) (d : Nat → Bool) (X : Nat → Int → Bool) (i : Nat) : Nat :=
  match l[i]? with
  | some c => if d i then 0 else penC c (X i) (X (i + 1))
  | none => 0
theorem penS_M (l : List Kl) (d : Nat → Bool) (X : Nat → Int → Bool) : penS (maskL l d) X = sumR l.length (penM l d X) := penS_mask l d X
/-- The time from which on a person may have been called. -/
def tauK (l : List Kl) (i : Nat) (p : Int) : Nat := (l.take i).foldl (fun acc c => if c.has p then c.t.toNat + 1 else acc) 0
theorem tau_succ {l : List Kl} {i : Nat} {c : Kl} (hc : l[i]? = some c) (p : Int) : tauK l (i + 1) p = if c.has p then c.t.toNat + 1 else tauK l i p := by
  unfold tauK
  rw [List.take_add_one, hc, List.foldl_append]
  rfl
theorem tau_le {n : Int} {l : List Kl} (v : VP n l) {p : Int} {T : Int} (hT : 1 ≤ T) : ∀ i, i ≤ l.length → (∀ (j : Nat) (d : Kl), j < i → l[j]? = some d → d.has p = true → d.t < T) → (tauK l i p : Int) ≤ T := by
  intro i
  induction i with
  | zero => intro _ _; show ((0 : Nat) : Int) ≤ T; omega
  | succ i ih =>
    intro hi h
    have hil : i < l.length := hi
    obtain ⟨c, hc⟩ : ∃ c, l[i]? = some c := ⟨_, List.getElem?_eq_getElem hil⟩
    rw [tau_succ hc]
    split
    · rename_i hh
      have := h i c (by omega) hc hh
      have := (okC_iff.1 (v.ok c (List.mem_of_getElem? hc))).2.2.2.1
      omega
    · exact ih (by omega) fun j d hj => h j d (by omega)
section
variable {l : List Kl} {gone s t k : Nat} {W : Nat → Int} {U : Nat → Bool}
theorem has_two {c d : Kl} {p : Int} (h : apartK c d) (hc : c.has p = true) (hd : d.has p = true) : c.t < d.t := by
  rcases Int.lt_or_eq_of_le h.1 with h3 | h3
  · exact h3
  · exfalso
    obtain ⟨h4, h5, h6, h7⟩ := h.2 h3
    unfold Kl.has at hc hd
    simp only [Bool.or_eq_true, beq_iff_eq] at hc hd
    rcases hc with h | h <;> rcases hd with h' | h'
    · exact h4 (by rw [h, h'])
    · exact h5 (by rw [h, h'])
    · exact h6 (by rw [h, h'])
    · exact h7 (by rw [h, h'])
theorem ref_ge {n : Nat} (v : VP n l) (f : RflOk l gone s t W U k (s, 0)) (hs : s < n) (ht : t < n) {R : Nat → Nat → Bool} (h0 : R s 0 = true) (h1 : ∀ x, R t x = false)
    (hcl : ∀ p x, p < 7 → x ≤ 31 → R p x = true → ∀ u, ResR l gone W U (p, x) u → R u.1 u.2 = true) : k = GM 1000 (t : Int) (maskL l (goneD gone)) (fun p => p == (s : Int)) := by
  have n7 := v.n7
  have hst : (s : Int) ≠ t := by
    intro e
    have : s = t := by omega
    rw [this, h1] at h0; cases h0
  have hX0 : (fun p => p == (s : Int)) (t : Int) = false := by simpa using Ne.symm hst
  have hlen := GM_len (K := 1000) (t := (t : Int)) (cs := maskL l (goneD gone)) (X := fun p => p == (s : Int)) hX0
  rw [maskL_len] at hlen
  have l24 := v.len
  obtain ⟨Xs, e0, hs', he, hpn⟩ := GM_seq (K := 1000) (t := (t : Int)) (maskL l (goneD gone)) (fun p => p == (s : Int)) (by omega)
  have hm := seq_mono hs'
  rw [maskL_len] at he hm
  have k1 := ref_le v f hm (by rw [e0]; simp) he
  rw [hpn] at k1
  refine Nat.le_antisymm k1 ?_
  -- what is reached, person by person
  have hb := f.bal (fun p x => b2 (R p x)) (fun x => by rw [h1]; rfl)
  have hs1 : b2 (R s 0) = 1 := by rw [h0]; rfl
  simp only [hs1] at hb
  have stay : ∀ p x, p < 7 → x < 31 → R p x = true → R p (x + 1) = true := fun p x hp hx h => hcl p x hp (by omega) h (p, x + 1) (.inl ⟨hx, rfl⟩)
  have stays : ∀ (d p x : Nat), p < 7 → x + d ≤ 31 → R p x = true → R p (x + d) = true := by
    intro d
    induction d with
    | zero => intro p x _ _ h; exact h
    | succ d ih => intro p x hp hx h; exact stay p (x + d) hp (by omega) (ih p x hp (by omega) h)
  have stays' : ∀ p x y, p < 7 → x ≤ y → y ≤ 31 → R p x = true → R p y = true := fun p x y hp hxy hy h => by
    have := stays (y - x) p x hp (by omega) h
    rwa [show x + (y - x) = y by omega] at this
  have hW : sumI 224 (fun j => W j * omW (fun p x => b2 (R p x)) j) = 0 := by
    have : ∀ m, m ≤ 224 → sumI m (fun j => W j * omW (fun p x => b2 (R p x)) j) = 0 := by
      intro m
      induction m with
      | zero => intro _; rfl
      | succ m ih =>
        intro hm
        rw [sumI_succ, ih (by omega)]
        unfold omW
        split
        · rename_i hx
          have hp7 : m / 32 < 7 := by omega
          show 0 + W m * (b2 (R (m / 32) (m % 32)) - b2 (R (m / 32) (m % 32 + 1))) = 0
          cases hu : R (m / 32) (m % 32) with
          | true => rw [stay _ _ hp7 hx hu]; simp [b2]
          | false =>
            cases hv : R (m / 32) (m % 32 + 1) with
            | false => simp [b2]
            | true =>
              have hw : W m = 0 := by
                have hnn := f.wnn m
                refine Classical.byContradiction fun hne => ?_
                have := hcl _ _ hp7 (by omega) hv (m / 32, m % 32) (.inr (.inl ⟨m % 32, rfl, rfl, by
                  show 0 < W (32 * (m / 32) + m % 32)
                  rw [show 32 * (m / 32) + m % 32 = m by omega]; omega⟩))
                simp only at this
                rw [hu] at this; cases this
              rw [hw]; simp
        · simp
    exact this 224 (by omega)
  let X : Nat → Int → Bool := fun i p => decide (0 ≤ p ∧ p < n) && R p.toNat (tauK l i p)
  have tau31 : ∀ i p, i ≤ l.length → tauK l i p ≤ 31 := fun i p hi => by
    have := tau_le v (p := p) (T := 31) (by omega) i hi fun j d hj hd _ => by
      have := (okC_iff.1 (v.ok d (List.mem_of_getElem? hd))).2.2.2.2
      omega
    omega
  have tauT : ∀ (i : Nat) (c : Kl) (p : Int), l[i]? = some c → c.has p = true → tauK l i p ≤ c.t.toNat := fun i c p hc hp => by
    have hok := okC_iff.1 (v.ok c (List.mem_of_getElem? hc))
    have := tau_le v (p := p) (T := c.t) hok.2.2.2.1 i (by have := (List.getElem?_eq_some_iff.1 hc).1; omega) fun j d hj hd hdp => has_two (two_get v.two hd hc hj) hdp hp
    omega
  have hXm : ∀ i, i < l.length → SubX (X i) (X (i + 1)) := by
    intro i hi p h
    obtain ⟨c, hc⟩ : ∃ c, l[i]? = some c := ⟨_, List.getElem?_eq_getElem hi⟩
    simp only [X, Bool.and_eq_true, decide_eq_true_eq] at h ⊢
    refine ⟨h.1, ?_⟩
    have h31 := tau31 (i + 1) p hi
    rw [tau_succ hc] at h31 ⊢
    split
    · rename_i hh
      rw [if_pos hh] at h31
      exact stays' _ _ _ (by omega) (by have := tauT i c p hc hh; omega) h31 h.2
    · exact h.2
  have hG := GM_penS (K := 1000) (t := (t : Int)) (maskL l (goneD gone)) X (fun i hi => hXm i (by rwa [maskL_len] at hi)) (by
    rw [maskL_len]
    show (decide (0 ≤ (t : Int) ∧ (t : Int) < n) && R (t : Int).toNat _) = false
    rw [Int.toNat_natCast, h1]; simp)
  have hG0 := GM_mono (K := 1000) (t := (t : Int)) (maskL l (goneD gone)) (X := fun p => p == (s : Int)) (Y := X 0) (fun p hp => by
    rw [beq_iff_eq] at hp
    subst hp
    show (decide (0 ≤ (s : Int) ∧ (s : Int) < n) && R (s : Int).toNat 0) = true
    rw [Int.toNat_natCast, h0, decide_eq_true ⟨by omega, by omega⟩]; rfl)
  refine Nat.le_trans hG0 (Nat.le_trans hG ?_)
  rw [penS_M]
  have hmm := sumR_more (f := penM l (goneD gone) X) (m := l.length) (fun i hi => by unfold penM; rw [List.getElem?_eq_none hi]) (24 - l.length)
  rw [show l.length + (24 - l.length) = 24 by omega] at hmm
  rw [← hmm]
  have hU : ((sumR 24 (penM l (goneD gone) X) : Nat) : Int) ≤ sumI 48 (fun j => b2 (U j) * upU l (fun p x => b2 (R p x)) j) := by
    rw [show (48 : Nat) = 2 * 24 from rfl, sumI_two]
    refine sumI_ge fun i hi => ?_
    unfold penM
    cases hc : l[i]? with
    | none =>
      have e : ∀ kk, kk < 2 → upU l (fun p x => b2 (R p x)) (2 * i + kk) = 0 := fun kk hk => by
        unfold upU
        rw [show (2 * i + kk) / 2 = i by omega, hc]
      have e0 := e 0 (by omega)
      have e1 := e 1 (by omega)
      rw [Nat.add_zero] at e0
      rw [e0, e1]
      simp
    | some c =>
      have hil := (List.getElem?_eq_some_iff.1 hc).1
      obtain ⟨o1, o2, o3, o4, o5⟩ := okC_iff.1 (v.ok c (List.mem_of_getElem? hc))
      have hTl : c.t.toNat < 31 := by omega
      have e0 := up_at (l := l) (fun p x => b2 (R p x)) hc (kk := 0) (by omega)
      have e1 := up_at (l := l) (fun p x => b2 (R p x)) hc (kk := 1) (by omega)
      rw [Nat.add_zero] at e0
      -- what is undone is reached
      have term : ∀ kk, kk < 2 → 0 ≤ b2 (U (2 * i + kk)) * (b2 (R (fromU c kk) c.t.toNat) - b2 (R (toU c kk) (c.t.toNat + 1))) := by
        intro kk hk
        cases hu : U (2 * i + kk) with
        | false => simp [b2]
        | true =>
          have hg := f.ug _ hu
          rw [show (2 * i + kk) / 2 = i by omega] at hg
          cases hv : R (toU c kk) (c.t.toNat + 1) with
          | false => have := b2_01 (R (fromU c kk) c.t.toNat); simp [b2]; split <;> omega
          | true =>
            have ht7 : toU c kk < 7 := by unfold toU; split <;> omega
            have := hcl _ _ ht7 (by omega) hv (fromU c kk, c.t.toNat) (.inr (.inr ⟨i, c, kk, hc, hk, hg, .inr ⟨rfl, hu, rfl⟩⟩))
            simp only at this
            rw [this]; simp [b2]
      have t0 := term 0 (by omega)
      have t1 := term 1 (by omega)
      rw [Nat.add_zero] at t0
      rw [e0, e1]
      by_cases hg : goneD gone i = true
      · simp only [if_pos hg]
        show ((0 : Nat) : Int) ≤ _
        omega
      · simp only [if_neg hg]
        have hg' : gone.testBit i = false := by simpa using hg
        -- who is reached at the time of the call
        have full : ∀ kk, kk < 2 → R (fromU c kk) c.t.toNat = true → R (toU c kk) (c.t.toNat + 1) = false → (1 : Int) ≤ b2 (U (2 * i + kk)) * (b2 (R (fromU c kk) c.t.toNat) - b2 (R (toU c kk) (c.t.toNat + 1))) := by
          intro kk hk hx hy
          have hf7 : fromU c kk < 7 := by unfold fromU; split <;> omega
          cases hu : U (2 * i + kk) with
          | true => rw [hx, hy]; simp [b2]
          | false =>
            have := hcl _ _ hf7 (by omega) hx (toU c kk, c.t.toNat + 1) (.inr (.inr ⟨i, c, kk, hc, hk, hg', .inl ⟨rfl, hu, rfl⟩⟩))
            simp only at this
            rw [hy] at this; cases this
        unfold penC
        split
        · rename_i hc1
          show (1 : Int) ≤ _
          have hasA : c.has c.a = true := by simp [Kl.has]
          have hasB : c.has c.b = true := by simp [Kl.has]
          have da : decide (0 ≤ c.a ∧ c.a < (n : Int)) = true := decide_eq_true o1
          have db : decide (0 ≤ c.b ∧ c.b < (n : Int)) = true := decide_eq_true o2
          have xa : X i c.a = R c.a.toNat (tauK l i c.a) := by simp only [X, da, Bool.true_and]
          have xb : X i c.b = R c.b.toNat (tauK l i c.b) := by simp only [X, db, Bool.true_and]
          have ya : X (i + 1) c.a = R c.a.toNat (c.t.toNat + 1) := by simp only [X, da, Bool.true_and, tau_succ hc, hasA, if_true]
          have yb : X (i + 1) c.b = R c.b.toNat (c.t.toNat + 1) := by simp only [X, db, Bool.true_and, tau_succ hc, hasB, if_true]
          rw [xa, xb, ya, yb] at hc1
          simp only [Bool.and_eq_true, Bool.or_eq_true, Bool.not_eq_true'] at hc1
          obtain ⟨hin, hout⟩ := hc1
          rcases hin with h | h
          · have h2 := stays' _ _ _ (by omega) (tauT i c c.a hc hasA) (by omega) h
            have h3 := stay _ _ (by omega) hTl h2
            rw [h3] at hout
            simp only [Bool.true_and] at hout
            have := full 0 (by omega) h2 hout
            rw [Nat.add_zero] at this
            omega
          · have h2 := stays' _ _ _ (by omega) (tauT i c c.b hc hasB) (by omega) h
            have h3 := stay _ _ (by omega) hTl h2
            rw [h3] at hout
            simp only [Bool.and_true] at hout
            have := full 1 (by omega) h2 hout
            omega
        · show ((0 : Nat) : Int) ≤ _
          omega
  unfold fluxR at hb
  rw [hW] at hb
  have : ((sumR 24 (penM l (goneD gone) X) : Nat) : Int) ≤ k := by omega
  exact Int.ofNat_le.1 this
/-- Not more wait than there are ways. -/
theorem RflOk.w_le {n : Int} (v : VP n l) {cur : Nat × Nat} (f : RflOk l gone s t W U k cur) {p x : Nat} (hp : p < 7) (hx : x < 31) (hpt : p ≠ t) : W (32 * p + x) ≤ k + 49 := by
  have hb := f.bal (fun q y => b2 (decide (q ≠ t) && decide (y ≤ x))) (fun y => by simp [b2])
  have hnn : ∀ a b : Bool, (b = true → a = true) → 0 ≤ b2 a - b2 b := fun a b h => by have := b2_le h; omega
  have hW : W (32 * p + x) ≤ sumI 224 (fun j => W j * omW (fun q y => b2 (decide (q ≠ t) && decide (y ≤ x))) j) := by
    have := sumI_one (f := fun j => W j * omW (fun q y => b2 (decide (q ≠ t) && decide (y ≤ x))) j) (j := 32 * p + x) (n := 224) (fun j _ => by
      refine Int.mul_nonneg (f.wnn j) ?_
      unfold omW
      split
      · exact hnn _ _ fun h => by simp at h ⊢; omega
      · exact Int.le_refl _) (by omega)
    rw [om_at _ hx] at this
    have e : b2 (decide (p ≠ t) && decide (x ≤ x)) - b2 (decide (p ≠ t) && decide (x + 1 ≤ x)) = 1 := by rw [decide_eq_false (show ¬ x + 1 ≤ x by omega)]; simp [hpt, b2]
    rw [e, Int.mul_one] at this
    exact this
  have hU : -48 ≤ sumI 48 (fun j => b2 (U j) * upU l (fun q y => b2 (decide (q ≠ t) && decide (y ≤ x))) j) := by
    have key : ∀ m : Nat, -(m : Int) ≤ sumI m (fun j => b2 (U j) * upU l (fun q y => b2 (decide (q ≠ t) && decide (y ≤ x))) j) := by
      intro m
      induction m with
      | zero => simp [sumI]
      | succ m ih =>
        rw [sumI_succ]
        have h2 : ∀ a b : Bool, -1 ≤ b2 a - b2 b := fun a b => by cases a <;> cases b <;> simp [b2]
        have h3 : -1 ≤ upU l (fun q y => b2 (decide (q ≠ t) && decide (y ≤ x))) m := by
          unfold upU
          split
          · split
            · exact h2 _ _
            · exact h2 _ _
          · omega
        have h4 : -1 ≤ b2 (U m) * upU l (fun q y => b2 (decide (q ≠ t) && decide (y ≤ x))) m := by
          rcases b2_01 (U m) with h | h <;> rw [h] <;> omega
        omega
    exact key 48
  unfold fluxR at hb
  have h1 := b2_01 (decide (s ≠ t) && decide (0 ≤ x))
  have h2 := b2_01 (decide (cur.1 ≠ t) && decide (cur.2 ≤ x))
  rcases h1 with h1 | h1 <;> rw [h1] at hb <;> rcases h2 with h2 | h2 <;> rw [h2] at hb <;> omega
end
end Go.AM
end
