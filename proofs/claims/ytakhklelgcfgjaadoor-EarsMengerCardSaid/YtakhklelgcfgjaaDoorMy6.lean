/- Parts of the proof, put together: the abstract machine, what the functions of the program answer, and plain laws. -/
import Derived.Test.YtakhklelgcfgjaaDoorRows
import Derived.LaidMore
import Derived.Stop.Joined
import Derived.ProofKit
import Derived.OpenShut
import Derived.Test.YtakhklelgcfgjaaDoorMy5

section
namespace Go.AM
open Go.Proofs
variable {R : Type}
theorem under127 : Tryd.prog.underlying 127 = some (.map 129 129) := by kernel_rfl
theorem under145 : Tryd.prog.underlying 145 = some (.map 144 4) := by kernel_rfl
theorem zero129 : zero? Tryd.prog 129 = some (spV (0, false)) := by kernel_rfl
theorem eqV129 (x y : Int) (p q : Bool) : eqV Tryd.prog 10 129 (.agg #[.int .i64 x, .bool p]) (.agg #[.int .i64 y, .bool q]) = (if (x == y) = true then (if (p == q) = true then some true else some false) else some false) := by kernel_rfl
theorem eqV144 (x y p q : Int) : eqV Tryd.prog 10 144 (.agg #[.int .i64 x, .int .i64 p]) (.agg #[.int .i64 y, .int .i64 q]) = (if (x == y) = true then (if (p == q) = true then some true else some false) else some false) := by kernel_rfl
theorem castEq {a b : Nat} : (((a : Int) == (b : Int)) : Bool) = decide (a = b) := by
  by_cases h : a = b
  · rw [decide_eq_true h]; subst h; exact beq_self_eq_true _
  · rw [decide_eq_false h]; exact beq_eq_false_iff_ne.2 (by omega)
theorem eqSp (a b : Spot) : eqV Tryd.prog 10 129 (spV a) (spV b) = some (decide (a = b)) := by
  unfold spV
  rw [eqV129, castEq]
  obtain ⟨a1, a2⟩ := a
  obtain ⟨b1, b2⟩ := b
  by_cases h : a1 = b1
  · subst h
    cases a2 <;> cases b2 <;> simp
  · simp [h]
theorem eqArc (a b : Nat × Nat) : eqV Tryd.prog 10 144 (arcV a) (arcV b) = some (decide (a = b)) := by
  unfold arcV
  rw [eqV144, castEq, castEq]
  obtain ⟨a1, a2⟩ := a
  obtain ⟨b1, b2⟩ := b
  by_cases h : a1 = b1
  · subst h
    by_cases h2 : a2 = b2 <;> simp [h2]
  · simp [h]
theorem key129 : Key Tryd.prog 129 spV := ⟨eqSp, fun _ => rfl, by kernel_rfl, fun a => by simp [spV, Instr.sameBits]⟩
theorem key144 : Key Tryd.prog 144 arcV := ⟨eqArc, fun _ => rfl, by kernel_rfl, fun a => by simp [arcV, Instr.sameBits]⟩
theorem eqvSp (a b : Spot) (K : Bool → Option R) : eqv Tryd.prog 129 (spV a) (spV b) K = K (decide (a = b)) := by
  have : binOp Tryd.prog .eql 129 (spV a) (spV b) = (eqV Tryd.prog 10 129 (spV a) (spV b)).map Value.bool := by kernel_rfl
  unfold eqv
  rw [this, eqSp]
  rfl
/-- Where an arc lies. -/
def findA : List ((Nat × Nat) × Nat) → Nat × Nat → Nat → Option Nat
  | [], _, _ => none
  | x :: L, a, i => if a = x.1 then some i else findA L a (i + 1)
theorem findK_arc (a : Nat × Nat) : ∀ (L : List ((Nat × Nat) × Nat)) (i : Nat), findK Tryd.prog 144 (arcV a) (L.map arcE) i = some ((findA L a i).map fun j => (j, .bool true)) := by
  intro L
  induction L with
  | nil => intro i; rfl
  | cons x L ih =>
    intro i
    rw [List.map_cons]
    unfold findK findA
    rw [show (arcE x).key = arcV x.1 from rfl, eqArc, Option.bind_some]
    by_cases h : a = x.1
    · rw [decide_eq_true h, if_pos rfl, if_pos h]; rfl
    · rw [decide_eq_false h, if_neg h]
      simp only [Bool.false_eq_true, if_false]
      exact ih (i + 1)
theorem findA_some {a : Nat × Nat} : ∀ (L : List ((Nat × Nat) × Nat)) (i j : Nat), findA L a i = some j → ∃ k x, j = i + k ∧ L[k]? = some x ∧ x.1 = a := by
  intro L
  induction L with
  | nil => intro i j h; cases h
  | cons x L ih =>
    intro i j h
    unfold findA at h
    split at h
    · rename_i e
      cases h
      exact ⟨0, x, rfl, rfl, e.symm⟩
    · obtain ⟨k, y, h1, h2, h3⟩ := ih (i + 1) j h
      exact ⟨k + 1, y, by omega, by simpa using h2, h3⟩
theorem findA_none {a : Nat × Nat} : ∀ (L : List ((Nat × Nat) × Nat)) (i : Nat), findA L a i = none → a ∉ L.map (·.1) := by
  intro L
  induction L with
  | nil => intro i _ h; cases h
  | cons x L ih =>
    intro i h
    unfold findA at h
    split at h
    · cases h
    · rename_i e
      rw [List.map_cons, List.mem_cons, not_or]
      exact ⟨e, ih (i + 1) h⟩
theorem map_erase {α β : Type} (f : α → β) : ∀ (l : List α) (i : Nat), (l.eraseIdx i).map f = (l.map f).eraseIdx i := by
  intro l
  induction l with
  | nil => intro i; rfl
  | cons x l ih =>
    intro i
    cases i with
    | zero => rfl
    | succ i => simp only [List.eraseIdx_cons_succ, List.map_cons, ih]
/-- A map of these arcs. -/
structure ArM (h : H) (mb n : Nat) (S : Nat → Nat → Prop) : Prop where
  ex : ∃ (L : List ((Nat × Nat) × Nat)) (clk : Nat), h.blk mb = some (.mp (L.map arcE) clk) ∧ (∀ x ∈ L, x.2 < clk) ∧ (L.map (·.2)).Nodup ∧ (L.map (·.1)).Nodup ∧ ∀ v u, S v u ↔ (v, u) ∈ L.map (·.1)
  lt : mb < h.nx
  bd : ∀ v u, S v u → v < n ∧ u < n
variable {h : H} {mb n : Nat} {S : Nat → Nat → Prop}
theorem ArM.keep (m : ArM h mb n S) {h' : H} (hn : h.nx ≤ h'.nx) (hb : h'.blk mb = h.blk mb) : ArM h' mb n S := by
  obtain ⟨L, clk, h1, h2⟩ := m.ex
  exact ⟨⟨L, clk, hb.trans h1, h2⟩, Nat.lt_of_lt_of_le m.lt hn, m.bd⟩
theorem ArM.put (m : ArM h mb n S) {v u : Nat} (hv : v < n) (hu : u < n) : ∃ h', (∀ (K : H → Option R), mup Tryd.prog h 145 (.map (some mb)) (arcV (v, u)) (.bool true) K = K h') ∧ ArM h' mb n (orArc S v u) ∧ h'.nx = h.nx ∧ ∀ b, b ≠ mb → h'.blk b = h.blk b := by
  obtain ⟨L, clk, h1, h2, h3, h4, h5⟩ := m.ex
  have hbd : ∀ a b, orArc S v u a b → a < n ∧ b < n := fun a b h => h.elim (m.bd a b) fun e => ⟨by omega, by omega⟩
  cases hf : findA L (v, u) 0 with
  | some i =>
    obtain ⟨k, x, hk, hx, hxe⟩ := findA_some L 0 i hf
    rw [Nat.zero_add] at hk
    subst hk
    have hmod : (L.map arcE).modify i (fun e => { e with key := arcV (v, u), val := .bool true }) = L.map arcE := by
      refine List.ext_getElem? fun j => ?_
      rw [List.getElem?_modify, List.getElem?_map]
      by_cases e : i = j
      · subst e
        rw [hx]
        obtain ⟨x1, x2⟩ := x
        simp only at hxe
        subst hxe
        simp [arcE]
      · cases L[j]? <;> simp [e]
    have hke : (((L.map arcE)[i]?).map (·.key)).getD (arcV (v, u)) = arcV (v, u) := by
      rw [List.getElem?_map, hx]
      simp [arcE, hxe]
    refine ⟨h.set mb (.mp (L.map arcE) clk), fun K => ?_, ⟨⟨L, clk, blk_set_self _ _ _, h2, h3, h4, fun a b => ?_⟩, m.lt, hbd⟩, rfl, fun b hb => blk_set_ne _ _ _ hb⟩
    · unfold mup mapUpdate
      simp only [under145, key144.isKey, if_true, mapOf, h1, Option.bind_some, findK_arc, hf, Option.map_some, hke, key144.bits, key144.plain, Bool.and_self, hmod]
    · rw [← h5]
      unfold orArc
      exact ⟨fun h => h.elim id fun e => (h5 _ _).2 (e.1 ▸ e.2 ▸ List.mem_map.2 ⟨x, List.mem_of_getElem? hx, hxe⟩), .inl⟩
  | none =>
    have hn := findA_none L 0 hf
    refine ⟨h.set mb (.mp (L.map arcE ++ [{ key := arcV (v, u), val := .bool true, born := clk }]) (clk + 1)), fun K => ?_, ⟨⟨L ++ [((v, u), clk)], clk + 1, ?_, fun x hx => ?_, ?_, ?_, fun a b => ?_⟩, m.lt, hbd⟩, rfl, fun b hb => blk_set_ne _ _ _ hb⟩
    · unfold mup mapUpdate
      simp only [under145, key144.isKey, if_true, mapOf, h1, Option.bind_some, findK_arc, hf, Option.map_none]
    · rw [blk_set_self, List.map_append]; rfl
    · rcases List.mem_append.1 hx with hx | hx
      · have := h2 x hx; omega
      · rw [List.mem_singleton.1 hx]; exact Nat.lt_succ_self _
    · rw [List.map_append, List.nodup_append]
      refine ⟨h3, by simp, fun a ha b hb e => ?_⟩
      obtain ⟨x, hx, rfl⟩ := List.mem_map.1 ha
      have := h2 x hx
      simp at hb
      omega
    · rw [List.map_append, List.nodup_append]
      refine ⟨h4, by simp, fun a ha b hb e => ?_⟩
      simp at hb
      rw [e, hb] at ha
      exact hn ha
    · rw [List.map_append, List.mem_append, ← h5]
      unfold orArc
      simp
theorem ArM.del (m : ArM h mb n S) (v u : Nat) : ∃ h', (∀ (K : H → Option R), AM.del Tryd.prog h 145 (.map (some mb)) (arcV (v, u)) K = K h') ∧ ArM h' mb n (fun a b => S a b ∧ (a, b) ≠ (v, u)) ∧ h'.nx = h.nx ∧ ∀ b, b ≠ mb → h'.blk b = h.blk b := by
  obtain ⟨L, clk, h1, h2, h3, h4, h5⟩ := m.ex
  cases hf : findA L (v, u) 0 with
  | some i =>
    obtain ⟨k, x, hk, hx, hxe⟩ := findA_some L 0 i hf
    rw [Nat.zero_add] at hk
    subst hk
    have hlt := (List.getElem?_eq_some_iff.1 hx).1
    refine ⟨h.set mb (.mp ((L.map arcE).eraseIdx i) clk), fun K => ?_, ⟨⟨L.eraseIdx i, clk, ?_, fun y hy => h2 y (List.mem_of_mem_eraseIdx hy), ?_, ?_, fun a b => ?_⟩, m.lt, fun a b h => m.bd a b h.1⟩, rfl, fun b hb => blk_set_ne _ _ _ hb⟩
    · unfold AM.del deleteM
      simp only [List.getElem?_cons_zero, Option.bind_some, under145, key144.isKey, if_true, mapOf, h1, findK_arc, hf, Option.map_some]
    · rw [blk_set_self, map_erase]
    · rw [map_erase]; exact h3.sublist (List.eraseIdx_sublist ..)
    · rw [map_erase]; exact h4.sublist (List.eraseIdx_sublist ..)
    · rw [h5, map_erase]
      have hget : (L.map (·.1))[i]? = some (v, u) := by rw [List.getElem?_map, hx, ← hxe]; rfl
      rw [List.mem_eraseIdx_iff_getElem?]
      constructor
      · rintro ⟨hm, hne⟩
        obtain ⟨j, hj⟩ := List.mem_iff_getElem?.1 hm
        refine ⟨j, fun e => ?_, hj⟩
        subst e
        rw [hget] at hj
        exact hne (Option.some.inj hj).symm
      · rintro ⟨j, hji, hj⟩
        refine ⟨List.mem_of_getElem? hj, fun e => hji ?_⟩
        rw [e] at hj
        obtain ⟨a1, a2⟩ := List.getElem?_eq_some_iff.1 hj
        obtain ⟨b1, b2⟩ := List.getElem?_eq_some_iff.1 hget
        exact (List.getElem_inj (h₀ := a1) (h₁ := b1) h4).1 (by rw [a2, b2])
  | none =>
    have hn := findA_none L 0 hf
    refine ⟨h.set mb (.mp (L.map arcE) clk), fun K => ?_, ⟨⟨L, clk, blk_set_self _ _ _, h2, h3, h4, fun a b => ?_⟩, m.lt, fun a b h => m.bd a b h.1⟩, rfl, fun b hb => blk_set_ne _ _ _ hb⟩
    · unfold AM.del deleteM
      simp only [List.getElem?_cons_zero, Option.bind_some, under145, key144.isKey, if_true, mapOf, h1, findK_arc, hf, Option.map_none, Option.map_some]
    · rw [h5]
      exact ⟨And.left, fun h => ⟨h, fun e => hn (e ▸ h)⟩⟩
end Go.AM
end

section
namespace Go.AM
open Go.Proofs
variable {R : Type}
theorem app142 : okApp Tryd.prog 142 144 2 = true := by kernel_rfl
def arcC (a : Nat × Nat) : List Value := [iv (a.1 : Nat), iv (a.2 : Nat)]
theorem bls142 (a : Nat × Nat) (h : H) : buildSlice Tryd.prog 142 1 [(0, arcV a)] h = some (.slice (some ⟨h.nx, 0, none⟩) 1 1, h.new (.row (arcC a) 144 true)) := by kernel_rfl
theorem kbld144 (a b : Nat) (K : Value → Option R) : bld Tryd.prog 144 [(0, .int .i64 (a : Int)), (1, .int .i64 (b : Int))] K = K (arcV (a, b)) := bld_some (by kernel_rfl)
/-- What a search has come from, as_ the map holds it. -/
def kvV (kv : List (Spot × Spot)) : List (Spot × Value) := kv.map fun p => (p.1, spV p.2)
theorem valK_mem {kv : List (Spot × Spot)} (hnd : (kv.map (·.1)).Nodup) {y x : Spot} (h : (y, x) ∈ kv) : valK (kvV kv) y = some (spV x) := by
  have key : ∀ (kv : List (Spot × Spot)) (i : Nat), (kv.map (·.1)).Nodup → (y, x) ∈ kv → (lookK (kvV kv) y i).map (·.2) = some (spV x) := by
    intro kv
    induction kv with
    | nil => intro i _ h; cases h
    | cons p kv ih =>
      intro i hn hm
      rw [List.map_cons, List.nodup_cons] at hn
      show (if y = p.1 then some (i, spV p.2) else lookK (kvV kv) y (i + 1)).map (·.2) = _
      rcases List.mem_cons.1 hm with e | hm
      · subst e
        rw [if_pos rfl]; rfl
      · rw [if_neg (fun (e : y = p.1) => hn.1 (e ▸ List.mem_map.2 ⟨_, hm, rfl⟩))]
        exact ih (i + 1) hn.2 hm
  exact key kv 0 hnd h
theorem ldS {h : H} {b : Nat} {w : Bool} {x : Spot} (hb : h.blk b = some (.row (spC x) 129 w)) (K : Value → Option R) : ld Tryd.prog h 129 b 0 K = K (spV x) := by
  rw [d129, rd_two hb, Option.bind_some]; rfl
theorem ldS0 {h : H} {b : Nat} {w : Bool} {x : Spot} (hb : h.blk b = some (.row (spC x) 129 w)) (K : Value → Option R) : ld Tryd.prog h 3 b 0 K = K (iv x.1) := by
  rw [d3, cell_of hb]; rfl
theorem ldS1 {h : H} {b : Nat} {w : Bool} {x : Spot} (hb : h.blk b = some (.row (spC x) 129 w)) (K : Value → Option R) : ld Tryd.prog h 4 b (off 0 1) K = K (.bool x.2) := by
  rw [d4, cell_of hb]; rfl
theorem alS {h : H} {a0 a1 : Value} {x : Spot} (K : H → Option R) : (al h 129 [a0, a1] fun h1 => st Tryd.prog h1 129 (nx h) 0 (spV x) K) = K (h.var (.row (spC x) 129 true)) := al_two sz129 rfl rfl K
theorem stS {h : H} {b : Nat} {y x : Spot} (hb : h.blk b = some (.row (spC y) 129 true)) (K : H → Option R) : st Tryd.prog h 129 b 0 (spV x) K = K (h.set b (.row (spC x) 129 true)) := by
  rw [w129]
  unfold spV
  rw [wrc_two hb rfl rfl, Option.bind_some]; rfl
theorem gv30 (a b c : Value) : AM.gv [a, b, c] 0 = a := rfl
theorem gv31 (a b c : Value) : AM.gv [a, b, c] 1 = b := rfl
theorem gv32 (a b c : Value) : AM.gv [a, b, c] 2 = c := rfl
set_option maxHeartbeats 1000000 in
theorem ap_l1 {kv : List (Spot × Spot)} {s m0 lo : Nat} {h0 : H} (hnd : (kv.map (·.1)).Nodup) (hks : ∀ p ∈ kv, p.1 ≠ (s, true)) (hm0 : m0 < lo) (ha0 : h0.nx < lo) : ∀ {y : Spot} {L : List Spot}, PK s kv y L → ∀ (h5 : H) (cv av : Value) (cs as_ : List (List Value)) (b m : Nat), L.length < m → cs.length + L.length < 2 ^ 20 → as_.length + L.length < 2 ^ 20 →
    h5.blk m0 = some (mpOf spV (kvV kv)) → h5.blk h0.nx = some (.row (spC (s, true)) 129 true) → h5.blk b = some (.row (spC y) 129 true) → b < h5.nx → lo ≤ h5.nx → AqR lo h5 144 2 cv cs → AqR lo h5 144 2 av as_ → (∀ q, blkOf cv = some q → blkOf av ≠ some q) →
    ∃ cv' av' yv h', lpGo (f114H_l1 rn 100 (.map (some m0)) h0) m [cv, av, pt b 0] h5 = some (.exit 0, [cv', av', yv], h') ∧ Fr lo h5 h' ∧ AqR lo h' 144 2 cv' (cs ++ (cutL y L).map arcC) ∧ AqR lo h' 144 2 av' (as_ ++ (addL y L).map arcC) := by
  intro y L hp
  induction hp with
  | start =>
    intro h5 cv av cs as_ b m hm _ _ b0 b1 b2 hb hlo hc ha hne
    obtain ⟨m, rfl⟩ : ∃ k, m = k + 1 := ⟨m - 1, by omega⟩
    refine ⟨cv, av, pt b 0, h5, lpGo_exit ?_, .refl _ _, ?_, ?_⟩
    · unfold f114H_l1
      rw [gv32, asP_ptr, ldS b2, nx_eq, ldS b1, eqvSp, decide_eq_true rfl, Bool.not_true, ifB_false, gv30, gv31]
      rfl
    · simpa [cutL] using hc
    · simpa [addL] using ha
  | @step y x L hyx _ ih =>
    intro h5 cv av cs as_ b m hm hcl hal b0 b1 b2 hb hlo hc ha hne
    rw [List.length_cons] at hm hcl hal
    obtain ⟨m, rfl⟩ : ∃ k, m = k + 1 := ⟨m - 1, by omega⟩
    have hys := hks _ hyx
    have hval := valK_mem hnd hyx
    have lk : ∀ {T : Type} {h : H}, h.blk m0 = some (mpOf spV (kvV kv)) → ∀ (K : Value → Option T), lok Tryd.prog h 127 (.map (some m0)) (spV y) false K = K (spV x) := fun hb K => by
      rw [lok_of0 key129 under127 zero129 hb, hval]; rfl
    obtain ⟨h7, hh7⟩ : ∃ h7, h7 = h5.var (.row (spC x) 129 true) := ⟨_, rfl⟩
    have x7 : Ext h5 h7 := hh7 ▸ .var _ _
    have n7 : h7.nx = h5.nx + 1 := by rw [hh7]; rfl
    have b7 : h7.blk h5.nx = some (.row (spC x) 129 true) := by rw [hh7]; exact var_at _ _
    have y7 := (x7.blk b hb).trans b2
    have start : ∀ {r : Option (Ex × List Value × H)}, (∀ q : Unit, ifB y.2 (
        ld Tryd.prog h7 3 b 0 fun v10 => asI .i64 v10 fun n0 => ld Tryd.prog h7 3 (nx h5) 0 fun v11 => asI .i64 v11 fun n1 =>
        bld Tryd.prog 144 [(0, (.int .i64 n0)), (1, (.int .i64 n1))] fun v12 => bls Tryd.prog h7 142 1 [(0, v12)] fun v13 h8 => app Tryd.prog h8 142 142 cv v13 fun v14 h9 =>
        ld Tryd.prog h9 129 b 0 fun v15 => al h9 129 [(.int .i64 0), (.bool false)] fun h10 => st Tryd.prog h10 129 (nx h9) 0 v15 fun h11 => ld Tryd.prog h11 129 (nx h9) 0 fun v16 =>
        lok Tryd.prog h11 127 (.map (some m0)) v16 false fun v17 => st Tryd.prog h11 129 (nx h9) 0 v17 fun h12 => out .normal [v14, av, (pt (nx h9) 0)] h12) (
        ld Tryd.prog h7 3 (nx h5) 0 fun v18 => asI .i64 v18 fun n2 => ld Tryd.prog h7 3 b 0 fun v19 => asI .i64 v19 fun n3 =>
        bld Tryd.prog 144 [(0, (.int .i64 n2)), (1, (.int .i64 n3))] fun v20 => bls Tryd.prog h7 142 1 [(0, v20)] fun v21 h13 => app Tryd.prog h13 142 142 av v21 fun v22 h14 =>
        ld Tryd.prog h14 129 b 0 fun v23 => al h14 129 [(.int .i64 0), (.bool false)] fun h15 => st Tryd.prog h15 129 (nx h14) 0 v23 fun h16 => ld Tryd.prog h16 129 (nx h14) 0 fun v24 =>
        lok Tryd.prog h16 127 (.map (some m0)) v24 false fun v25 => st Tryd.prog h16 129 (nx h14) 0 v25 fun h17 => out .normal [cv, v22, (pt (nx h14) 0)] h17) = r) → f114H_l1 rn 100 (.map (some m0)) h0 [cv, av, pt b 0] h5 = r := by
      intro r hr
      unfold f114H_l1
      rewrite [gv32, asP_ptr, ldS b2, nx_eq, ldS b1, eqvSp, decide_eq_false hys, Bool.not_false, ifB_true, asP_ptr, ldS b2, lk b0, alS, ← hh7, asP_ptr, ldS1 y7, asB_bool, gv30, gv31]
      simp only [asP_ptr]
      exact hr ()
    have hcb : ∀ q, blkOf cv = some q → q ≠ b ∧ lo ≤ q := fun q hq => by
      obtain ⟨q1, _, q3⟩ := hc.blkOf hq
      refine ⟨fun e => ?_, q1⟩
      rw [e, b2] at q3
      simp at q3
    have hab : ∀ q, blkOf av = some q → q ≠ b ∧ lo ≤ q := fun q hq => by
      obtain ⟨q1, _, q3⟩ := ha.blkOf hq
      refine ⟨fun e => ?_, q1⟩
      rw [e, b2] at q3
      simp at q3
    -- behind the push
    have back : ∀ (h9 : H), h7.nx ≤ h9.nx → h9.blk b = some (.row (spC y) 129 true) → h9.blk m0 = some (mpOf spV (kvV kv)) → ∃ h12, (∀ (K : H → Option (Ex × List Value × H)),
        (ld Tryd.prog h9 129 b 0 fun v15 => al h9 129 [(.int .i64 0), (.bool false)] fun h10 => st Tryd.prog h10 129 (nx h9) 0 v15 fun h11 => ld Tryd.prog h11 129 (nx h9) 0 fun v16 =>
        lok Tryd.prog h11 127 (.map (some m0)) v16 false fun v17 => st Tryd.prog h11 129 (nx h9) 0 v17 K) = K h12) ∧ h12.nx = h9.nx + 1 ∧ h12.blk h9.nx = some (.row (spC x) 129 true) ∧ ∀ q, q < h9.nx → h12.blk q = h9.blk q := by
      intro h9 n9 hb9 hm9
      obtain ⟨h11, hh11⟩ : ∃ h11, h11 = h9.var (.row (spC y) 129 true) := ⟨_, rfl⟩
      have x11 : Ext h9 h11 := hh11 ▸ .var _ _
      have b11 : h11.blk h9.nx = some (.row (spC y) 129 true) := by rw [hh11]; exact var_at _ _
      have n11 : h11.nx = h9.nx + 1 := by rw [hh11]; rfl
      refine ⟨h11.set h9.nx (.row (spC x) 129 true), fun K => ?_, n11, blk_set_self _ _ _, fun q hq => ?_⟩
      · rw [ldS hb9, alS, ← hh11, nx_eq, ldS b11, lk ((x11.blk _ (by omega)).trans hm9), stS b11]
      · rw [blk_set_ne _ _ _ (by omega)]; exact x11.blk q hq
    by_cases hy2 : y.2 = true
    · obtain ⟨cv', h9, e9, a9, n9, k9, b', hb', hb''⟩ := (hc.ext x7).push app142 app142 (bls142 (y.1, x.1)) rfl rfl (by omega) (by omega)
      have hb9 := (k9 b (by omega) (fun e => (hcb b e).1 rfl)).trans y7
      have hm9 := (k9 m0 (by omega) (fun e => by have := (hcb m0 e).2; omega)).trans ((x7.blk _ (by omega)).trans b0)
      obtain ⟨h12, e12, n12, b12, f12⟩ := back h9 n9 hb9 hm9
      have hav9 : AqR lo h9 144 2 av as_ := (ha.ext x7).keep n9 fun q hq => k9 q (by have := ((ha.ext x7).blkOf hq).2.1; omega) (fun e => hne q e hq)
      have hd : ∀ q, q < lo → h12.blk q = h5.blk q := fun q hq => by rw [f12 q (by omega), k9 q (by omega) (fun e => by have := (hcb q e).2; omega), x7.blk q (by omega)]
      obtain ⟨cv2, av2, yv, h', i1, i2, i3, i4⟩ := ih h12 cv' av (cs ++ [arcC (y.1, x.1)]) as_ h9.nx m (by omega) (by simp; omega) (by omega) ((hd _ hm0).trans b0) ((hd _ ha0).trans b1) b12 (by omega) (by omega)
        (a9.keep (by omega) fun q hq => f12 q (a9.blkOf hq).2.1) (hav9.keep (by omega) fun q hq => f12 q (hav9.blkOf hq).2.1) (fun q hq e => by
          rw [hb'] at hq; cases hq
          have := ((ha.ext x7).blkOf e).2.1
          omega)
      refine ⟨cv2, av2, yv, h', ?_, ⟨by have := i2.nx; omega, fun q hq => (i2.blk q hq).trans (hd q hq)⟩, ?_, ?_⟩
      · rw [lpGo_next (start fun _ => ?_)]
        · exact i1
        · rw [hy2, ifB_true, ldS0 y7, asI_int, nx_eq h5, ldS0 b7, asI_int, kbld144, e9, e12]
          rfl
      · rw [cutL_cons, if_pos hy2]
        simpa [List.append_assoc] using i3
      · rw [addL_cons, if_pos hy2]; exact i4
    · have hy2' : y.2 = false := by simpa using hy2
      obtain ⟨av', h9, e9, a9, n9, k9, b', hb', hb''⟩ := (ha.ext x7).push app142 app142 (bls142 (x.1, y.1)) rfl rfl (by omega) (by omega)
      have hb9 := (k9 b (by omega) (fun e => (hab b e).1 rfl)).trans y7
      have hm9 := (k9 m0 (by omega) (fun e => by have := (hab m0 e).2; omega)).trans ((x7.blk _ (by omega)).trans b0)
      obtain ⟨h12, e12, n12, b12, f12⟩ := back h9 n9 hb9 hm9
      have hcv9 : AqR lo h9 144 2 cv cs := (hc.ext x7).keep n9 fun q hq => k9 q (by have := ((hc.ext x7).blkOf hq).2.1; omega) (fun e => hne q hq e)
      have hd : ∀ q, q < lo → h12.blk q = h5.blk q := fun q hq => by rw [f12 q (by omega), k9 q (by omega) (fun e => by have := (hab q e).2; omega), x7.blk q (by omega)]
      obtain ⟨cv2, av2, yv, h', i1, i2, i3, i4⟩ := ih h12 cv av' cs (as_ ++ [arcC (x.1, y.1)]) h9.nx m (by omega) (by omega) (by simp; omega) ((hd _ hm0).trans b0) ((hd _ ha0).trans b1) b12 (by omega) (by omega)
        (hcv9.keep (by omega) fun q hq => f12 q (hcv9.blkOf hq).2.1) (a9.keep (by omega) fun q hq => f12 q (a9.blkOf hq).2.1) (fun q hq e => by
          rw [hb'] at e; cases e
          have := ((hc.ext x7).blkOf hq).2.1
          omega)
      refine ⟨cv2, av2, yv, h', ?_, ⟨by have := i2.nx; omega, fun q hq => (i2.blk q hq).trans (hd q hq)⟩, ?_, ?_⟩
      · rw [lpGo_next (start fun _ => ?_)]
        · exact i1
        · rw [hy2', ifB_false, nx_eq h5, ldS0 b7, asI_int, ldS0 y7, asI_int, kbld144, e9, e12]
          rfl
      · rw [cutL_cons, if_neg hy2]; exact i3
      · rw [addL_cons, if_neg hy2]
        simpa [List.append_assoc] using i4
end Go.AM
end

section
namespace Go.AM
open Go.Proofs
variable {R : Type}
/-- All that was there is as_ it was, but one block. -/
structure Exo (o : Option Nat) (h h' : H) : Prop where
  nx : h.nx ≤ h'.nx
  blk : ∀ b, b < h.nx → o ≠ some b → h'.blk b = h.blk b
theorem Exo.refl (o : Option Nat) (h : H) : Exo o h h := ⟨Nat.le_refl _, fun _ _ _ => rfl⟩
theorem lp_app {α : Type} {e t t2 : TypeId} {sz lo : Nat} (ht : okApp Tryd.prog t e sz = true) {F : List Value → H → Option (Ex × List Value × H)} {k : Nat} {l : List α} (p : α → Bool) (xv : α → Value) (cell : α → List Value)
    (hb : ∀ x (h : H), buildSlice Tryd.prog t2 1 [(0, xv x)] h = some (.slice (some ⟨h.nx, 0, none⟩) 1 1, h.new (.row (cell x) e true))) (hc : ∀ x, (cell x).length = sz ∧ (cell x).all scal = true) (jv : Nat → Value) (oj : Nat) (hk : l.length < k)
    {acc : List (List Value)} {sv0 : Value} {h : H}
    (fin : ∀ sv g, Exo (blkOf sv0) h g → F [sv, jv l.length] g = some (.exit oj, [sv, jv l.length], g))
    (step : ∀ i x sv g, l[i]? = some x → Exo (blkOf sv0) h g → F [sv, jv i] g = if p x = true then (bls Tryd.prog g t2 1 [(0, xv x)] fun v5 h5 => app Tryd.prog h5 t t sv v5 fun v6 h6 => some (.normal, [v6, jv (i + 1)], h6)) else some (.normal, [sv, jv (i + 1)], g))
    (hap : AqR lo h e sz sv0 acc) (hlo : lo ≤ h.nx) (hl : acc.length + l.length < 2 ^ 25) :
    ∃ sv' h', lpGo F k [sv0, jv 0] h = some (.exit oj, [sv', jv l.length], h') ∧ Exo (blkOf sv0) h h' ∧ AqR lo h' e sz sv' (acc ++ (l.filter p).map cell) := by
  obtain ⟨ws', h', hl', xg, hll, sv', hbs, hap', rfl⟩ := lp_for (F := F) (k := k) (l := l) (fun _ x acc => if p x = true then acc ++ [cell x] else acc)
    (fun i acc' ws h' => Exo (blkOf sv0) h h' ∧ acc'.length ≤ acc.length + i ∧ ∃ sv, (blkOf sv = blkOf sv0 ∨ ∀ b, blkOf sv = some b → h.nx ≤ b) ∧ AqR lo h' e sz sv acc' ∧ ws = [sv, jv i]) oj (ws := [sv0, jv 0]) (h := h) (s0 := acc)
    ⟨.refl _ _, by omega, sv0, .inl rfl, hap, rfl⟩ hk
    (by
      rintro acc' ws g ⟨xg, _, sv, _, _, rfl⟩
      exact fin sv g xg)
    (by
      rintro i x acc' ws g hx ⟨xg, hal, sv, hbs, hap1, rfl⟩
      have hi := (List.getElem?_eq_some_iff.1 hx).1
      have hF := step i x sv g hx xg
      by_cases hp : p x = true
      · rw [if_pos hp] at hF ⊢
        obtain ⟨sv', h2, e2, a2, n2, k2, b2, hb2, hb2'⟩ := hap1.push ht ht (hb x) (hc x).1 (hc x).2 (by omega) (Nat.le_trans hlo xg.nx)
        rw [hF, e2]
        have := xg.nx
        refine ⟨_, _, rfl, ⟨by omega, fun b hb hne => ?_⟩, by simp; omega, sv', .inr fun b hb => by rw [hb2] at hb; cases hb; omega, a2, rfl⟩
        rw [k2 b (by omega) (fun e => ?_)]
        · exact xg.blk b hb hne
        · rcases hbs with h1 | h1
          · exact hne (h1 ▸ e)
          · have := h1 b e; omega
      · rw [if_neg hp] at hF ⊢
        rw [hF]
        exact ⟨_, _, rfl, xg, by omega, sv, hbs, hap1, rfl⟩)
  rw [foldI_filter] at hap'
  exact ⟨sv', h', hl', xg, hap'⟩
section
variable {g : List Nat} {s t lo fb nb bb first : Nat} {tv : Value} {nxt : List Int} {bf : List Value} {h : H}
/-- Is the edge one that the search takes? -/
def fwdQ (s first : Nat) (nxt : List Int) (v u : Nat) : Bool := decide (u ≠ s) && !usedW s first nxt v u
theorem fwd_cells {v : Nat} : ((elts (AM.nb g v)).filter (fwdQ s first nxt v)).map (fun u => spC (u, false)) = cellsS (fwdL g s first nxt v) := by
  unfold fwdL fwdQ cellsS
  rw [List.map_map]
  rfl
/-- What the three loops have in common. -/
structure AhC (g : List Nat) (s t lo : Nat) (tv : Value) (fb nb bb first : Nat) (nxt : List Int) (bf : List Value) (v : Nat) (w : Bool) (h : H) : Prop where
  a : FlH g s t lo tv fb nb bb first nxt bf h
  st : StW g s t first nxt bf
  hg : GrN g
  hs : s < g.length
  hv : v < g.length
theorem FlH.exo (a : FlH g s t lo tv fb nb bb first nxt bf h) {o : Option Nat} {h' : H} (x : Exo o h h') (ho : ∀ b, o = some b → b ≠ fb ∧ b ≠ nb ∧ b ≠ bb ∧ blkOf tv ≠ some b) : FlH g s t lo tv fb nb bb first nxt bf h' :=
  ⟨a.tvs.keepB x.nx fun b hb => x.blk b (a.tvs.blkR hb).1 fun e => (ho b e).2.2.2 hb, a.tvlo, (x.blk _ a.lt.1 fun e => (ho _ e).1 rfl).trans a.f, (x.blk _ a.lt.2.1 fun e => (ho _ e).2.1 rfl).trans a.n, (x.blk _ a.lt.2.2 fun e => (ho _ e).2.2.1 rfl).trans a.b, a.ne, a.lo, Nat.lt_of_lt_of_le a.lt.1 x.nx, Nat.lt_of_lt_of_le a.lt.2.1 x.nx, Nat.lt_of_lt_of_le a.lt.2.2 x.nx⟩
theorem ah_loop {v : Nat} {b : Bool} {v115 : Value} {F : List Value → H → Option (Ex × List Value × H)} {h h2 : H} {sv : Value} {acc : List (List Value)} (c : AhC g s t lo tv fb nb bb first nxt bf v b h)
    (x1 : Ext (h.new (.row (spC (v, b)) 129 true)) h2) (hs2 : SlR h2 3 1 v115 (cellsN (elts (AM.nb g v)))) (hap : AqR (h.nx + 1) h2 129 2 sv acc) (hne : ∀ b, blkOf sv = some b → blkOf v115 ≠ some b) (hacc : acc.length ≤ 10)
    (oj : Nat) (fin : ∀ sv g', F [sv, iv ((elts (AM.nb g v)).length : Nat)] g' = some (.exit oj, [sv, iv ((elts (AM.nb g v)).length : Nat)], g'))
    (step : ∀ (i u : Nat) (sv : Value) (g' : H), i < 20 → u < g.length → FlH g s t lo tv fb nb bb first nxt bf g' → (∀ (K : Value → Option (Ex × List Value × H)), (six v115 (i : Int) 1 fun b o => ld Tryd.prog g' 3 b o K) = K (iv (u : Int))) → (∀ (K : Value → Option (Ex × List Value × H)), ld Tryd.prog g' 3 h.nx 0 K = K (iv (v : Int))) → AM.lt (i : Int) ((elts (AM.nb g v)).length : Nat) = true →
      F [sv, iv (i : Nat)] g' = if fwdQ s first nxt v u = true then (bls Tryd.prog g' 130 1 [(0, spV (u, false))] fun v5 h5 => app Tryd.prog h5 130 130 sv v5 fun v6 h6 => some (.normal, [v6, iv ((i + 1 : Nat) : Int)], h6)) else some (.normal, [sv, iv ((i + 1 : Nat) : Int)], g')) :
    ∃ sv' h', lpGo F 100 [sv, iv 0] h2 = some (.exit oj, [sv', iv ((elts (AM.nb g v)).length : Nat)], h') ∧ Ext h h' ∧ AqR (h.nx + 1) h' 129 2 sv' (acc ++ cellsS (fwdL g s first nxt v)) := by
  have hlen := c.hg.len
  have hnb : AM.nb g v < 1024 := Nat.lt_of_lt_of_le (c.hg.nb_lt v) c.hg.pow
  have hel : (elts (AM.nb g v)).length ≤ 10 := by unfold elts; exact Nat.le_trans (List.length_filter_le ..) (by simp)
  have x0 : Ext h (h.new (.row (spC (v, b)) 129 true)) := .new _ _
  have hsv := blk_new_self h (.row (spC (v, b)) 129 true)
  have hn1 : (h.new (.row (spC (v, b)) 129 true)).nx = h.nx + 1 := rfl
  have hx1 := x1.nx
  have a2 := c.a.ext (x0.trans x1)
  have hso : ∀ q, blkOf sv = some q → h.nx + 1 ≤ q := fun q hq => (hap.blkOf hq).1
  have htv := c.a.tvs
  obtain ⟨sv', h', e1, x2, a2⟩ := lp_app app130 (lo := h.nx + 1) (F := F) (k := 100) (l := elts (AM.nb g v)) (h := h2) (sv0 := sv) (acc := acc) (fwdQ s first nxt v) (fun u => spV (u, false)) (fun u => spC (u, false)) (fun u h => bls130 (u, false) h) (fun u => ⟨rfl, rfl⟩) (fun i => iv (i : Nat)) oj (by omega)
    (fun sv g' _ => fin _ g')
    (fun i u sv g' hu xg => by
      have hi := (List.getElem?_eq_some_iff.1 hu).1
      have hub := (mem_elts hnb).1 (List.mem_of_getElem? hu)
      refine step i u sv g' (by omega) (bit_lt (c.hg.nb_lt v) hub) (a2.exo xg fun q hq => ?_) (fun K => (hs2.keepB xg.nx fun q hq => xg.blk q (hs2.blkR hq).1 fun e => hne q e hq).ld0 ag3 (by omega) (x := [iv (u : Int)]) (by simp [hu]) rfl K) (fun K => ?_) (by simp only [AM.lt, decide_eq_true_eq]; omega)
      · have h1 := hso q hq
        have := c.a.lt
        exact ⟨by omega, by omega, by omega, fun e => by have := (htv.blkR e).1; omega⟩
      · have hb : g'.blk h.nx = some (.row (spC (v, b)) 129 true) := by
          rw [xg.blk _ (by omega) (fun e => by have := hso _ e; omega), x1.blk _ (by omega)]; exact hsv
        rw [d3, cell_of hb]; rfl)
    hap (by omega) (by omega)
  rw [fwd_cells] at a2
  refine ⟨sv', h', e1, ⟨by have := x2.nx; omega, fun q hq => ?_⟩, a2⟩
  rw [x2.blk q (by omega) (fun e => by have := hso _ e; omega), x1.blk q (by omega)]
  exact x0.blk q hq
end
end Go.AM
end

section
namespace Go.AM
open Go.Proofs
variable {R : Type}
/-- A loop that counts up. -/
theorem lp_up {F : List Value → H → Option (Ex × List Value × H)} {k n oj : Nat} (I : Nat → H → Prop) {h : H} (h0 : I 0 h) (hk : n < k) (fin : ∀ h, I n h → F [iv (n : Nat)] h = some (.exit oj, [iv (n : Nat)], h))
    (step : ∀ i h, i < n → I i h → ∃ h', F [iv (i : Nat)] h = some (.normal, [iv ((i + 1 : Nat) : Int)], h') ∧ I (i + 1) h') : ∃ h', lpGo F k [iv 0] h = some (.exit oj, [iv (n : Nat)], h') ∧ I n h' := by
  have key : ∀ (d i m : Nat) (h : H), i + d = n → d < m → I i h → ∃ h', lpGo F m [iv (i : Nat)] h = some (.exit oj, [iv (n : Nat)], h') ∧ I n h' := by
    intro d
    induction d with
    | zero =>
      intro i m h hi hm hI
      obtain ⟨m, rfl⟩ : ∃ k, m = k + 1 := ⟨m - 1, by omega⟩
      have : i = n := by omega
      subst this
      exact ⟨h, lpGo_exit (fin h hI), hI⟩
    | succ d ih =>
      intro i m h hi hm hI
      obtain ⟨m, rfl⟩ : ∃ k, m = k + 1 := ⟨m - 1, by omega⟩
      obtain ⟨h1, e1, I1⟩ := step i h (by omega) hI
      obtain ⟨h2, e2, I2⟩ := ih (i + 1) m h1 (by omega) (by omega) I1
      exact ⟨h2, (lpGo_next e1).trans e2, I2⟩
  exact key n 0 k h (by omega) hk h0
theorem gv10 (a : Value) : AM.gv [a] 0 = a := rfl
theorem add1 {i : Nat} (hi : i < 2 ^ 20) : add .i64 (i : Int) 1 = ((i + 1 : Nat) : Int) := by rw [add64 (by omega) (by omega)]; omega
theorem lt_self (n : Nat) : AM.lt (n : Int) (n : Int) = false := by simp [AM.lt]
theorem lt_nat {a b : Nat} (h : a < b) : AM.lt (a : Int) (b : Int) = true := by simp only [AM.lt, decide_eq_true_eq]; omega
theorem Exo.trans {o : Option Nat} {a b c : H} (x : Exo o a b) (y : Exo o b c) : Exo o a c := ⟨Nat.le_trans x.nx y.nx, fun q hq hne => (y.blk q (Nat.lt_of_lt_of_le hq x.nx) hne).trans (x.blk q hq hne)⟩
theorem Ext.exo {o : Option Nat} {a b : H} (x : Ext a b) : Exo o a b := ⟨x.nx, fun q hq _ => x.blk q hq⟩
theorem ArM.congr {h : H} {mb n : Nat} {S S' : Nat → Nat → Prop} (m : ArM h mb n S) (e : ∀ a b, S a b ↔ S' a b) : ArM h mb n S' := by
  have : S = S' := by funext a b; exact propext (e a b)
  rw [← this]; exact m
theorem ArM.exo {h h' : H} {mb n : Nat} {S : Nat → Nat → Prop} (m : ArM h mb n S) (x : Ext h h') : ArM h' mb n S := m.keep x.nx (x.blk _ m.lt)
section
variable {s t fb nb bb first : Nat} {tv : Value} {nxt : List Int} {bf : List Value}
theorem FlB.exo {h h' : H} (a : FlB s t tv fb nb bb first nxt bf h) {o : Option Nat} (x : Exo o h h') (ho : ∀ b, o = some b → b ≠ fb ∧ b ≠ nb ∧ b ≠ bb) : FlB s t tv fb nb bb first nxt bf h' :=
  ⟨(x.blk _ a.lt.1 fun e => (ho _ e).1 rfl).trans a.f, (x.blk _ a.lt.2.1 fun e => (ho _ e).2.1 rfl).trans a.n, (x.blk _ a.lt.2.2 fun e => (ho _ e).2.2 rfl).trans a.b, a.ne, Nat.lt_of_lt_of_le a.lt.1 x.nx, Nat.lt_of_lt_of_le a.lt.2.1 x.nx, Nat.lt_of_lt_of_le a.lt.2.2 x.nx⟩
/-- The arcs out of s. -/
theorem ap_l2 {h18 h : H} {v27 : Value} {l : List Nat} {n : Nat} {S : Nat → Nat → Prop} (a : FlB s t tv fb nb bb first nxt bf h) (hl : SlR h 3 1 v27 (cellsN l)) (hll : l.length < 50) (hln : ∀ u ∈ l, u < n) (hs : s < n) (m : ArM h h18.nx n S) (hne : h18.nx ≠ fb ∧ h18.nx ≠ nb ∧ h18.nx ≠ bb) (hv : blkOf v27 ≠ some h18.nx) :
    ∃ h', lpGo (f114H_l2 rn 100 (pt fb 0) h18 v27 (l.length : Nat)) 100 [iv 0] h = some (.exit 2, [iv (l.length : Nat)], h') ∧ Exo (some h18.nx) h h' ∧ ArM h' h18.nx n (fun a b => S a b ∨ (a = s ∧ b ∈ l)) := by
  obtain ⟨h', e, x, m'⟩ := lp_up (F := f114H_l2 rn 100 (pt fb 0) h18 v27 (l.length : Nat)) (k := 100) (n := l.length) (oj := 2) (fun i h' => Exo (some h18.nx) h h' ∧ ArM h' h18.nx n (fun a b => S a b ∨ (a = s ∧ b ∈ l.take i))) (h := h)
    ⟨.refl _ _, m.congr fun a b => by simp⟩ (by omega)
    (fun h' _ => by
      unfold f114H_l2
      rw [gv10, asI_int, lt_self]; rfl)
    (by
      rintro i h' hi ⟨x, m'⟩
      have hu := List.getElem?_eq_getElem hi
      generalize l[i] = u at hu
      have hun := hln u (List.mem_of_getElem? hu)
      have a' := a.exo x fun b e => by cases e; exact hne
      have e1 : ∀ {T : Type} (K : Value → Option T), (six v27 (i : Int) 1 fun b o => ld Tryd.prog h' 3 b o K) = K (iv (u : Int)) := fun K => (hl.keepB x.nx fun b hb => x.blk b (hl.blkR hb).1 fun e => hv (by rw [hb, e])).ld0 ag3 (by omega) (x := [iv (u : Int)]) (by simp [hu]) rfl K
      obtain ⟨h2, e2, m2, n2, f2⟩ := m'.put (R := Ex × List Value × H) hs hun
      refine ⟨h2, ?_, x.trans ⟨by omega, fun b hb hn => f2 b fun e => hn (by rw [e])⟩, m2.congr fun a b => ?_⟩
      · unfold f114H_l2
        rw [gv10, asI_int, lt_nat hi, ifB_true, asK_int, e1, asI_int, nilp, asP_ptr, a'.lds, asI_int, kbld144, nx_eq, e2, asI_int, add1 (by omega)]
        rfl
      · unfold orArc
        rw [List.take_add_one, hu, List.mem_append]
        simp only [Option.toList_some, List.mem_singleton]
        constructor
        · rintro ((h | ⟨rfl, h⟩) | ⟨rfl, rfl⟩)
          · exact .inl h
          · exact .inr ⟨rfl, .inl h⟩
          · exact .inr ⟨rfl, .inr rfl⟩
        · rintro (h | ⟨rfl, h | rfl⟩)
          · exact .inl (.inl h)
          · exact .inl (.inr ⟨rfl, h⟩)
          · exact .inr ⟨rfl, rfl⟩)
  rw [List.take_length] at m'
  exact ⟨h', e, x, m'⟩
/-- The arcs out of others. -/
theorem ap_l3 {h18 h : H} {n : Nat} {S : Nat → Nat → Prop} (a : FlB s t tv fb nb bb first nxt bf h) (hll : nxt.length = n) (hn : n < 50) (hln : ∀ (v u : Nat), nxt[v]? = some (u : Int) → u < n) (m : ArM h h18.nx n S) (hne : h18.nx ≠ fb ∧ h18.nx ≠ nb ∧ h18.nx ≠ bb) :
    ∃ h', lpGo (f114H_l3 rn 100 h18 (.slice (some ⟨nb, 0, none⟩) nxt.length nxt.length) (n : Nat)) 100 [iv 0] h = some (.exit 4, [iv (n : Nat)], h') ∧ Exo (some h18.nx) h h' ∧ ArM h' h18.nx n (fun a b => S a b ∨ nxt[a]? = some (b : Int)) := by
  obtain ⟨h', e, x, m'⟩ := lp_up (F := f114H_l3 rn 100 h18 (.slice (some ⟨nb, 0, none⟩) nxt.length nxt.length) (n : Nat)) (k := 100) (n := n) (oj := 4) (fun i h' => Exo (some h18.nx) h h' ∧ ArM h' h18.nx n (fun a b => S a b ∨ (a < i ∧ nxt[a]? = some (b : Int)))) (h := h)
    ⟨.refl _ _, m.congr fun a b => by simp⟩ (by omega)
    (fun h' _ => by
      unfold f114H_l3
      rw [gv10, asI_int, lt_self]; rfl)
    (by
      rintro i h' hi ⟨x, m'⟩
      have hu : nxt[i]? = some (nxt[i]'(by omega)) := List.getElem?_eq_getElem (by omega)
      generalize nxt[i]'(by omega) = z at hu
      have a' := a.exo x fun b e => by cases e; exact hne
      have e1 : ∀ {T : Type} (K : Value → Option T), (six (.slice (some ⟨nb, 0, none⟩) nxt.length nxt.length) (i : Int) 1 fun b o => ld Tryd.prog h' 3 b o K) = K (iv z) := fun K => by
        rw [six_at (by omega), d3, cell_of a'.n, List.getElem?_map, hu]; rfl
      by_cases hz : 0 ≤ z
      · obtain ⟨u, rfl⟩ : ∃ u : Nat, z = (u : Int) := ⟨z.toNat, by omega⟩
        obtain ⟨h2, e2, m2, n2, f2⟩ := m'.put (R := Ex × List Value × H) hi (hln i u hu)
        refine ⟨h2, ?_, x.trans ⟨by omega, fun b hb hn => f2 b fun e => hn (by rw [e])⟩, m2.congr fun a b => ?_⟩
        · unfold f114H_l3
          rw [gv10, asI_int, lt_nat hi, ifB_true, asK_int, e1, asI_int, show AM.le 0 (u : Int) = true by simp [AM.le], ifB_true, kbld144, nx_eq, e2, asI_int, add1 (by omega)]
          rfl
        · unfold orArc
          constructor
          · rintro ((h | ⟨h1, h2⟩) | ⟨rfl, rfl⟩)
            · exact .inl h
            · exact .inr ⟨by omega, h2⟩
            · exact .inr ⟨by omega, hu⟩
          · rintro (h | ⟨h1, h2⟩)
            · exact .inl (.inl h)
            · by_cases e : a = i
              · subst e
                rw [hu, Option.some.injEq] at h2
                exact .inr ⟨rfl, by omega⟩
              · exact .inl (.inr ⟨by omega, h2⟩)
      · refine ⟨h', ?_, x, m'.congr fun a b => ?_⟩
        · unfold f114H_l3
          rw [gv10, asI_int, lt_nat hi, ifB_true, asK_int, e1, asI_int, show AM.le 0 z = false by simp [AM.le]; omega, ifB_false, asI_int, add1 (by omega)]
          rfl
        · constructor
          · rintro (h | ⟨h1, h2⟩)
            · exact .inl h
            · exact .inr ⟨by omega, h2⟩
          · rintro (h | ⟨h1, h2⟩)
            · exact .inl h
            · by_cases e : a = i
              · subst e
                rw [hu, Option.some.injEq] at h2
                omega
              · exact .inr ⟨by omega, h2⟩)
  refine ⟨h', e, x, m'.congr fun a b => ?_⟩
  constructor
  · rintro (h | h)
    · exact .inl h
    · exact .inr h.2
  · rintro (h | h)
    · exact .inl h
    · exact .inr ⟨by have := (List.getElem?_eq_some_iff.1 h).1; omega, h⟩
/-- Arcs are left out. -/
theorem ap_l4 {h18 h : H} {n : Nat} {S : Nat → Nat → Prop} {ws1 : List Value} {l : List (Nat × Nat)} (hl : SlR h 144 2 (AM.gv ws1 0) (l.map arcC)) (hll : l.length < 50) (m : ArM h h18.nx n S) (hv : blkOf (AM.gv ws1 0) ≠ some h18.nx) :
    ∃ h', lpGo (f114H_l4 rn 100 ws1 h18 (l.length : Nat)) 100 [iv 0] h = some (.exit 6, [iv (l.length : Nat)], h') ∧ Exo (some h18.nx) h h' ∧ ArM h' h18.nx n (fun a b => S a b ∧ (a, b) ∉ l) := by
  obtain ⟨h', e, x, m'⟩ := lp_up (F := f114H_l4 rn 100 ws1 h18 (l.length : Nat)) (k := 100) (n := l.length) (oj := 6) (fun i h' => Exo (some h18.nx) h h' ∧ ArM h' h18.nx n (fun a b => S a b ∧ (a, b) ∉ l.take i)) (h := h)
    ⟨.refl _ _, m.congr fun a b => by simp⟩ (by omega)
    (fun h' _ => by
      unfold f114H_l4
      rw [gv10, asI_int, lt_self]; rfl)
    (by
      rintro i h' hi ⟨x, m'⟩
      have hu := List.getElem?_eq_getElem hi
      generalize l[i] = u at hu
      have e1 : ∀ {T : Type} (K : Value → Option T), (six (AM.gv ws1 0) (i : Int) 2 fun b o => ld Tryd.prog h' 144 b o K) = K (arcV u) := fun K => (hl.keepB x.nx fun b hb => x.blk b (hl.blkR hb).1 fun e => hv (by rw [hb, e])).ldA ag144 sz144 (by omega) (x := arcC u) (by simp [hu]) K
      obtain ⟨h1, hh1⟩ : ∃ h1, h1 = h'.var (.row (arcC u) 144 true) := ⟨_, rfl⟩
      have x1 : Ext h' h1 := hh1 ▸ .var _ _
      have b1 : h1.blk h'.nx = some (.row (arcC u) 144 true) := by rw [hh1]; exact var_at _ _
      obtain ⟨h2, e2, m2, n2, f2⟩ := (m'.exo x1).del (R := Ex × List Value × H) u.1 u.2
      refine ⟨h2, ?_, x.trans (x1.exo.trans ⟨by omega, fun b hb hn => f2 b fun e => hn (by rw [e])⟩), m2.congr fun a b => ?_⟩
      · unfold f114H_l4
        rw [gv10, asI_int, lt_nat hi, ifB_true, asK_int, e1]
        unfold arcV
        rw [al_two sz144 rfl rfl, show [iv (u.1 : Nat), iv (u.2 : Nat)] = arcC u from rfl, ← hh1, nx_eq, d144, show h1.rd h'.nx 0 2 = some (arcC u) from rd_two b1, Option.bind_some, show (Value.agg (arcC u).toArray) = arcV (u.1, u.2) from rfl, nx_eq, e2, asI_int, add1 (by omega)]
        rfl
      · rw [List.take_add_one, hu, List.mem_append]
        simp only [Option.toList_some, List.mem_singleton, not_or]
        exact ⟨fun h => ⟨h.1.1, h.1.2, h.2⟩, fun h => ⟨⟨h.1, h.2.1⟩, h.2.2⟩⟩)
  rw [List.take_length] at m'
  exact ⟨h', e, x, m'⟩
/-- Arcs are added. -/
theorem ap_l5 {h18 h : H} {n : Nat} {S : Nat → Nat → Prop} {ws1 : List Value} {l : List (Nat × Nat)} (hl : SlR h 144 2 (AM.gv ws1 1) (l.map arcC)) (hll : l.length < 50) (hln : ∀ v u, (v, u) ∈ l → v < n ∧ u < n) (m : ArM h h18.nx n S) (hv : blkOf (AM.gv ws1 1) ≠ some h18.nx) :
    ∃ h', lpGo (f114H_l5 rn 100 ws1 h18 (l.length : Nat)) 100 [iv 0] h = some (.exit 8, [iv (l.length : Nat)], h') ∧ Exo (some h18.nx) h h' ∧ ArM h' h18.nx n (fun a b => S a b ∨ (a, b) ∈ l) := by
  obtain ⟨h', e, x, m'⟩ := lp_up (F := f114H_l5 rn 100 ws1 h18 (l.length : Nat)) (k := 100) (n := l.length) (oj := 8) (fun i h' => Exo (some h18.nx) h h' ∧ ArM h' h18.nx n (fun a b => S a b ∨ (a, b) ∈ l.take i)) (h := h)
    ⟨.refl _ _, m.congr fun a b => by simp⟩ (by omega)
    (fun h' _ => by
      unfold f114H_l5
      rw [gv10, asI_int, lt_self]; rfl)
    (by
      rintro i h' hi ⟨x, m'⟩
      have hu := List.getElem?_eq_getElem hi
      generalize l[i] = u at hu
      obtain ⟨q1, q2⟩ := hln u.1 u.2 (List.mem_of_getElem? hu)
      have e1 : ∀ {T : Type} (K : Value → Option T), (six (AM.gv ws1 1) (i : Int) 2 fun b o => ld Tryd.prog h' 144 b o K) = K (arcV u) := fun K => (hl.keepB x.nx fun b hb => x.blk b (hl.blkR hb).1 fun e => hv (by rw [hb, e])).ldA ag144 sz144 (by omega) (x := arcC u) (by simp [hu]) K
      obtain ⟨h1, hh1⟩ : ∃ h1, h1 = h'.var (.row (arcC u) 144 true) := ⟨_, rfl⟩
      have x1 : Ext h' h1 := hh1 ▸ .var _ _
      have b1 : h1.blk h'.nx = some (.row (arcC u) 144 true) := by rw [hh1]; exact var_at _ _
      obtain ⟨h2, e2, m2, n2, f2⟩ := (m'.exo x1).put (R := Ex × List Value × H) q1 q2
      refine ⟨h2, ?_, x.trans (x1.exo.trans ⟨by omega, fun b hb hn => f2 b fun e => hn (by rw [e])⟩), m2.congr fun a b => ?_⟩
      · unfold f114H_l5
        rw [gv10, asI_int, lt_nat hi, ifB_true, asK_int, e1]
        unfold arcV
        rw [al_two sz144 rfl rfl, show [iv (u.1 : Nat), iv (u.2 : Nat)] = arcC u from rfl, ← hh1, nx_eq, d144, show h1.rd h'.nx 0 2 = some (arcC u) from rd_two b1, Option.bind_some, show (Value.agg (arcC u).toArray) = arcV (u.1, u.2) from rfl, nx_eq, e2, asI_int, add1 (by omega)]
        rfl
      · unfold orArc
        rw [List.take_add_one, hu, List.mem_append]
        simp only [Option.toList_some, List.mem_singleton]
        constructor
        · rintro ((h | h) | ⟨rfl, rfl⟩)
          · exact .inl h
          · exact .inr (.inl h)
          · exact .inr (.inr rfl)
        · rintro (h | h | h)
          · exact .inl (.inl h)
          · exact .inl (.inr h)
          · exact .inr ⟨by rw [← h], by rw [← h]⟩)
  rw [List.take_length] at m'
  exact ⟨h', e, x, m'⟩
theorem rep_set {α : Type} {x : α} {l : List α} {i : Nat} (hi : i < l.length) : (List.replicate i x ++ l.drop i).set i x = List.replicate (i + 1) x ++ l.drop (i + 1) := by
  rw [List.set_append_right _ _ (by simp), List.length_replicate, Nat.sub_self, List.drop_eq_getElem_cons hi, List.set_cons_zero, List.replicate_succ', List.append_assoc]
  rfl
/-- The rows are cleared. -/
theorem ap_l6 {h : H} {n : Nat} (a : FlB s t tv fb nb bb first nxt bf h) (hl1 : nxt.length = n) (hl2 : bf.length = n) (hn : n < 50) :
    ∃ h', lpGo (f114H_l6 rn 100 (pt fb 0) (n : Nat)) 100 [iv 0] h = some (.exit 10, [iv (n : Nat)], h') ∧ FlB s t tv fb nb bb first (List.replicate n (-1)) (List.replicate n (iv (-1))) h' ∧ h'.nx = h.nx ∧ ∀ b, b ≠ nb → b ≠ bb → h'.blk b = h.blk b := by
  obtain ⟨h', e, a', n', f'⟩ := lp_up (F := f114H_l6 rn 100 (pt fb 0) (n : Nat)) (k := 100) (n := n) (oj := 10) (fun i h' => FlB s t tv fb nb bb first (List.replicate i (-1) ++ nxt.drop i) (List.replicate i (iv (-1)) ++ bf.drop i) h' ∧ h'.nx = h.nx ∧ ∀ b, b ≠ nb → b ≠ bb → h'.blk b = h.blk b) (h := h)
    ⟨by simpa using a, rfl, fun _ _ _ => rfl⟩ (by omega)
    (fun h' _ => by
      unfold f114H_l6
      rw [gv10, asI_int, lt_self]; rfl)
    (by
      rintro i h' hi ⟨a', n', f'⟩
      have hlen1 : (List.replicate i (-1 : Int) ++ nxt.drop i).length = n := by simp; omega
      have hlen2 : (List.replicate i (iv (-1)) ++ bf.drop i).length = n := by simp; omega
      obtain ⟨h1, e1, a1, n1, f1⟩ := a'.stN (R := Ex × List Value × H) (v := i) (by omega) (-1)
      obtain ⟨h2, e2, a2, n2, f2⟩ := a1.stB (R := Ex × List Value × H) (u := i) (by omega) (-1)
      refine ⟨h2, ?_, ?_, by omega, fun b b1 b2 => by rw [f2 b b2, f1 b b1, f' b b1 b2]⟩
      · unfold f114H_l6
        rw [gv10, asI_int, lt_nat hi, ifB_true, nilp, asP_ptr, a'.ldn, nilp, asP_ptr, a'.ldb, asK_int, e1, asK_int, e2, asI_int, add1 (by omega)]
        rfl
      · rw [rep_set (by omega), rep_set (by omega)] at a2
        exact a2)
  refine ⟨h', e, ?_, n', f'⟩
  rw [List.drop_of_length_le (by omega), List.drop_of_length_le (by omega), List.append_nil, List.append_nil] at a'
  exact a'
end
end Go.AM
end

section
namespace Go.AM
open Go.Proofs
variable {R : Type}
section
variable {s t n : Nat} {p : Nat → Nat → Prop}
theorem firstOf_none (h : ∀ v u, ¬ p v u) : firstOf n s p = 0 := by
  refine set_ext (n := n) (mkS_lt _ _) (Nat.two_pow_pos _) fun i hi => ?_
  rw [Nat.zero_testBit, Bool.eq_false_iff]
  exact fun hb => h _ _ (firstOf_bit.1 hb).2
theorem nxOf_none (h : ∀ v u, ¬ p v u) : nxOf n s p = List.replicate n (-1) := by
  refine List.eq_replicate_iff.2 ⟨nxOf_len, fun x hx => ?_⟩
  obtain ⟨v, _, rfl⟩ := List.mem_map.1 hx
  exact nxAt_none (.inr fun u => h v u)
theorem bfOf_none (h : ∀ v u, ¬ p v u) : bfOf n t p (iv (-1)) = List.replicate n (iv (-1)) := by
  refine List.eq_replicate_iff.2 ⟨bfOf_len, fun x hx => ?_⟩
  obtain ⟨u, _, rfl⟩ := List.mem_map.1 hx
  by_cases hu : u = t
  · rw [hu, bfAt_t]
  · exact bfAt_none hu fun v => h v u
theorem bfOf_x {x y : Value} : (bfOf n t p x).set t y = bfOf n t p y := by
  refine List.ext_getElem? fun i => ?_
  rw [List.getElem?_set]
  by_cases hi : i < n
  · rw [bfOf_get hi]
    by_cases e : t = i
    · subst e
      rw [if_pos rfl, if_pos (by rw [bfOf_len]; exact hi), bfOf_get hi, bfAt_t]
    · rw [if_neg e, bfOf_get hi]
      unfold bfAt
      rw [if_neg (fun h => e h.symm), if_neg (fun h => e h.symm)]
  · have h1 : ∀ y : Value, (bfOf n t p y)[i]? = none := fun y => List.getElem?_eq_none (by rw [bfOf_len]; omega)
    rw [h1, h1]
    split
    · rw [if_neg (by rw [bfOf_len]; omega)]
    · rfl
end
theorem natbeq_ne {a b : Nat} (h : a ≠ b) : Nat.beq a b = false := by
  cases e : Nat.beq a b with
  | false => rfl
  | true => exact absurd (Nat.eq_of_beq_eq_true e) h
/-- The arcs that have been. -/
def pD (L : List ((Nat × Nat) × Nat)) (D : List Nat) (v u : Nat) : Prop := ∃ i, i ∈ D ∧ ((v, u), i) ∈ L
def pA (L : List ((Nat × Nat) × Nat)) (v u : Nat) : Prop := (v, u) ∈ L.map (·.1)
theorem pD_cons {L : List ((Nat × Nat) × Nat)} {D : List Nat} {v u i : Nat} (hnd : (L.map (·.2)).Nodup) (h : ((v, u), i) ∈ L) : pD L (i :: D) = orArc (pD L D) v u := by
  funext a b
  unfold pD orArc
  refine propext ⟨?_, ?_⟩
  · rintro ⟨j, hj, hm⟩
    rcases List.mem_cons.1 hj with rfl | hj
    · right
      obtain ⟨k, hk⟩ := List.mem_iff_getElem?.1 h
      obtain ⟨l, hl⟩ := List.mem_iff_getElem?.1 hm
      obtain ⟨k1, k2⟩ := List.getElem?_eq_some_iff.1 hk
      obtain ⟨l1, l2⟩ := List.getElem?_eq_some_iff.1 hl
      have := (List.getElem_inj (xs := L.map (·.2)) (i := k) (j := l) (h₀ := by simpa using k1) (h₁ := by simpa using l1) hnd).1 (by rw [List.getElem_map, List.getElem_map, k2, l2])
      subst this
      rw [k2] at l2
      cases l2
      exact ⟨rfl, rfl⟩
    · exact .inl ⟨j, hj, hm⟩
  · rintro (⟨j, hj, hm⟩ | ⟨rfl, rfl⟩)
    · exact ⟨j, List.mem_cons_of_mem _ hj, hm⟩
    · exact ⟨i, List.mem_cons_self, h⟩
theorem pD_sub {L : List ((Nat × Nat) × Nat)} {D : List Nat} {v u : Nat} (h : pD L D v u) : pA L v u := by
  obtain ⟨i, _, h⟩ := h
  exact List.mem_map.2 ⟨_, h, rfl⟩
theorem pD_all {L : List ((Nat × Nat) × Nat)} {D : List Nat} (h : ∀ x ∈ L, x.2 ∈ D) : pD L D = pA L := by
  funext v u
  refine propext ⟨pD_sub, fun hm => ?_⟩
  obtain ⟨x, hx, e⟩ := List.mem_map.1 hm
  obtain ⟨⟨a, b⟩, i⟩ := x
  cases e
  exact ⟨i, h _ hx, hx⟩
theorem OneW.sub {s t : Nat} {p q : Nat → Nat → Prop} (o : OneW s t p) (h : ∀ v u, q v u → p v u) : OneW s t q := ⟨fun v u u' hv h1 h2 => o.out1 v u u' hv (h _ _ h1) (h _ _ h2), fun v v' u hu h1 h2 => o.in1 v v' u hu (h _ _ h1) (h _ _ h2)⟩
/-- The heap behind apply's loop. -/
noncomputable def apH (h : H) (s t : Nat) (tv : Value) (fb nb bb n : Nat) (p : Nat → Nat → Prop) (k wr cut : Nat) : H :=
  ⟨fun i => if i = fb then some (.row [tv, iv s, iv t, iv (firstOf n s p : Nat), .slice (some ⟨nb, 0, none⟩) n n, .slice (some ⟨bb, 0, none⟩) n n] 115 true) else
    if i = nb then some (.row ((nxOf n s p).map iv) 3 true) else if i = bb then some (.row (bfOf n t p (.chan none)) 3 true) else if i < cut then h.blk i else none, h.nx + 1 + k, wr⟩
set_option maxHeartbeats 1000000 in
theorem rg114 (hmix : Tryd.prog.follows .mixedOrders = true) {sr : RqS} (hsr : rqOf Tryd.prog 114 39 = some (sr, 171)) (hqt : sr.qt = 131) (hd : sr.d1 = 132 ∧ sr.d2 = 133 ∧ sr.d3 = 134 ∧ sr.d4 = 135) (w0 : 0 ∉ AM.writ sr.code) (w12 : 12 ∉ AM.writ sr.code) (wq : 131 ∉ AM.writ sr.bd) (ho : sr.o1.op = .move (.tmp 12)) (hT : Tryd.prog.underlying sr.T = some (.map 144 4))
    {s t fb nb bb mb n clk : Nat} {tv : Value} {h : H} {L : List ((Nat × Nat) × Nat)} (a : FlB s t tv fb nb bb 0 (List.replicate n (-1)) (List.replicate n (iv (-1))) h) (hm : h.blk mb = some (.mp (L.map arcE) clk)) (hne : mb ≠ fb ∧ mb ≠ nb ∧ mb ≠ bb) (hmb : mb < h.nx)
    (hb : ∀ x ∈ L, x.2 < clk) (hnd : (L.map (·.2)).Nodup) (hin : ∀ x ∈ L, x.1.1 < n ∧ x.1.2 < n) (o : OneW s t (pA L)) (ht : t < n) (hn : n ≤ 10) (wr cut : Nat) (hcut : 2 ≤ cut) (hcut' : cut ≤ h.nx) :
    RgOk Tryd.prog E0 171 39 [0, 12] (onePt [pt fb 0, .map (some mb)] h (apH h s t tv fb nb bb n (pA L) L.length wr cut)) sr.code := by
  obtain ⟨ok, _⟩ := rqOf_some hsr
  obtain ⟨hd1, hd2, hd3, hd4⟩ := hd
  have hrec : SoundR Tryd.prog E0 rn := run_sound hmix
  have hdraw := draw_ok hmix hrec
  intro tt h0 h' e ws' hsz hrg
  obtain ⟨hws, rfl, rfl, rfl⟩ := onePt_some hrg
  refine ⟨rfl, ?_⟩
  simp only [List.map_cons, List.map_nil, List.cons.injEq, and_true] at hws
  obtain ⟨t0, t12⟩ := hws
  intro ι w act Q rl har hQ
  have hdom : ∀ b, h0.nx ≤ b → h0.blk b = none := fun b hb => by
    cases hk : h0.blk b with
    | none => rfl
    | some k => have := rl.dom b k hk; omega
  let I : List Nat → Array Value → H → Prop := fun D t' h' => ∃ x : Int, FlB s t tv fb nb bb (firstOf n s (pD L D)) (nxOf n s (pD L D)) (bfOf n t (pD L D) (iv x)) h' ∧ h'.nx = h0.nx + 1 + D.length ∧ D.Nodup ∧ (∀ i ∈ D, i ∈ L.map (·.2)) ∧
    (∀ b, b < h0.nx → b ≠ fb → b ≠ nb → b ≠ bb → h'.blk b = h0.blk b) ∧ (∀ b k, h0.nx ≤ b → h'.blk b = some k → k.own = true) ∧ t'.size = 171 ∧ t'.getD sr.qt undef = .pointer (some ⟨h0.nx, 0, none⟩) ∧ ∀ i, i ∉ AM.writ sr.code → t'.getD i undef = tt.getD i undef
  have hop : op Tryd.prog E0 rn tt sr.o1 h0 = some (.map (some mb), h0) := by
    unfold op
    rw [ho]
    have c : (Op.move (.tmp 12)).operands.toList.all (okOperand E0) = true := by kernel_rfl
    rw [c]
    show some (tt.getD 12 undef, h0) = _
    rw [t12]
  have hes : ∀ e ∈ L.map arcE, ∃ v u i, ((v, u), i) ∈ L ∧ e = arcE ((v, u), i) := fun e he => by
    obtain ⟨⟨⟨v, u⟩, i⟩, hx, rfl⟩ := List.mem_map.1 he
    exact ⟨v, u, i, hx, rfl⟩
  have hborns : (L.map arcE).map (·.born) = L.map (·.2) := by rw [List.map_map]; rfl
  have hnone : ∀ v u, ¬ pD L [] v u := fun v u ⟨i, hi, _⟩ => by cases hi
  refine (Sd.weak (K := fun e t' h1 => e = .normal ∧ (∃ x : Int, FlB s t tv fb nb bb (firstOf n s (pA L)) (nxOf n s (pA L)) (bfOf n t (pA L) (iv x)) h1) ∧ h1.nx = h0.nx + 1 + L.length ∧ (∀ b, b < h0.nx → b ≠ fb → b ≠ nb → b ≠ bb → h1.blk b = h0.blk b) ∧ (∀ b k, h0.nx ≤ b → h1.blk b = some k → k.own = true) ∧ t'.size = 171 ∧ ∀ i, i ∉ AM.writ sr.code → t'.getD i undef = tt.getD i undef)
    (rangeq_sd (s := sr) (N := 171) (k := 0) (I := I) (es := L.map arcE) (clk := clk) (mb := mb) (h1 := h0) (kt := 144) (vt := 4) hrec hdraw ok hsz hop hT hm (fun e he => ?_) (by rw [hborns]; exact hnd) ?_ ?_ ?_ ?_) ?_) ι w act Q rl har hQ
  · obtain ⟨v, u, i, hx, rfl⟩ := hes e he
    exact hb _ hx
  · rintro D t' h' ⟨x, a1, n1, d1, d2, f1, f2, q1, q2, q3⟩
    exact ⟨(f1 mb hmb hne.1 hne.2.1 hne.2.2).trans hm, q1, q2⟩
  · refine ⟨-1, ?_, rfl, List.nodup_nil, (fun i hi => by cases hi), fun b _ _ _ _ => rfl, fun b k hb hk => ?_, by simp only [put_size]; exact hsz, put_at (by simp only [put_size]; rw [hsz]; exact ok.lt.2.1), fun i hi => ?_⟩
    · rw [firstOf_none hnone, nxOf_none hnone, bfOf_none hnone]
      exact a.keep (h' := h0.skip) (Nat.le_succ _) fun b _ => rfl
    · have : h0.skip.blk b = h0.blk b := rfl
      rw [this, hdom b hb] at hk
      cases hk
    · obtain ⟨h1, h2, _⟩ := ok.writ hi
      rw [put_other h2, put_other h1]
  · rintro D t' h' e ⟨x, a1, n1, d1, d2, f1, f2, q1, q2, q3⟩ he hD
    obtain ⟨v, u, i, hx, rfl⟩ := hes e he
    have hD' : i ∉ D := hD
    obtain ⟨hvn, hun⟩ := hin _ hx
    obtain ⟨h2, hrun, a2, n2, g2, g3⟩ := p114H_run a1 hn ⟨nxOf_len, bfOf_len⟩ (mkS_lt _ _) hvn hun
    rw [← ep114H rn 0] at hrun
    obtain ⟨t2, c1, c2, c3⟩ := pieceQ_some (t := entQ sr t' (arcE ((v, u), i))) hsr hrun (by rw [entQ_size]; exact q1) (fun i' j hj => by
      have e0 := (entQ_other ok (t := t') (e := arcE ((v, u), i)) w0).trans ((q3 0 w0).trans t0)
      have e135 := entQ_key ok (t := t') q1 (e := arcE ((v, u), i))
      rw [hd4] at e135
      unfold posn at hj
      by_cases h1 : 0 = i'
      · subst h1; cases hj; exact e0
      · rw [show Nat.beq 0 i' = false from natbeq_ne h1, cond_false] at hj
        unfold posn at hj
        by_cases h2 : 135 = i'
        · subst h2; cases hj; exact e135
        · rw [show Nat.beq 135 i' = false from natbeq_ne h2, cond_false] at hj
          cases hj)
    have hpc := pD_cons (D := D) hnd hx
    have o1 : OneW s t (orArc (pD L D) v u) := by rw [← hpc]; exact o.sub fun v u => pD_sub
    have hall := a1.lt
    refine ⟨t2, h2, c1, if u = t then (v : Int) else x, ?_, by rw [n2, n1]; simp only [List.length_cons]; omega, List.nodup_cons.2 ⟨hD', d1⟩, fun j hj => ?_, fun b hb b1 b2 b3 => ?_, fun b k hb hk => ?_, c2, ?_, fun j hj => ?_⟩
    · show FlB s t tv fb nb bb (firstOf n s (pD L (i :: D))) (nxOf n s (pD L (i :: D))) (bfOf n t (pD L (i :: D)) _) h2
      rw [hpc, show iv (if u = t then (v : Int) else x) = if u = t then iv (v : Nat) else iv x by split <;> rfl, bfOf_set o1]
      by_cases hvs : v = s
      · rw [if_pos hvs, if_pos hvs] at a2
        subst hvs
        rw [first_or hun, nx_same (o.sub fun v u => pD_sub)]
        exact a2
      · rw [if_neg hvs, if_neg hvs] at a2
        rw [first_same hvs, nxOf_set hvs o1]
        exact a2
    · rcases List.mem_cons.1 hj with rfl | hj
      · exact List.mem_map.2 ⟨_, hx, rfl⟩
      · exact d2 j hj
    · rw [g2 b b1 b2 b3 (by omega)]; exact f1 b hb b1 b2 b3
    · by_cases e1 : b = h'.nx
      · rw [e1, g3] at hk; cases hk; rfl
      · by_cases e2 : b = fb
        · have := a2.f; rw [e2] at hk; rw [this] at hk; cases hk; rfl
        · by_cases e3 : b = nb
          · have := a2.n; rw [e3] at hk; rw [this] at hk; cases hk; rfl
          · by_cases e4 : b = bb
            · have := a2.b; rw [e4] at hk; rw [this] at hk; cases hk; rfl
            · rw [g2 b e2 e3 e4 e1] at hk
              exact f2 b k hb hk
    · have hq : sr.qt ∉ AM.writ sr.bd := by rw [hqt]; exact wq
      rw [c3 _ hq]
      unfold entQ
      rw [put_other (by rw [hqt, hd4]; decide), put_other (by rw [hqt, hd3]; decide), put_other ok.sep.2, put_other ok.sep.1]
      exact q2
    · rw [c3 _ (ok.writ hj).2.2.2.2.2.2, entQ_other ok hj]
      exact q3 j hj
  · rintro D t' h' ⟨x, a1, n1, d1, d2, f1, f2, q1, q2, q3⟩ hall
    have hall' : ∀ y ∈ L, y.2 ∈ D := fun y hy => hall _ (List.mem_map.2 ⟨y, hy, rfl⟩)
    have hlen : D.length = L.length := by
      have h1 := nodup_leN d1 d2
      have h2 := nodup_leN hnd (m := D) fun i hi => by
        obtain ⟨y, hy, rfl⟩ := List.mem_map.1 hi
        exact hall' y hy
      rw [List.length_map] at h1 h2
      omega
    rw [pD_all hall'] at a1
    exact ⟨rfl, ⟨x, a1⟩, by rw [n1, hlen], f1, f2, by rw [endQ_size]; exact q1, fun i hi => by rw [endQ_other ok hi]; exact q3 i hi⟩
  · rintro e t' h1 ⟨rfl, ⟨x, a1⟩, n1, f1, f2, q1, q2⟩
    have hall := a.lt
    have hnef := a.ne
    have hbf : (bfOf n t (pA L) (iv x))[t]? = some (iv x) := by rw [bfOf_get ht, bfAt_t]
    refine ⟨_, ⟨n1.symm, fun b k' hk => ?_, fun b => ?_⟩, rfl, rfl, q1, q2⟩
    · simp only [apH] at hk
      split at hk
      · rename_i e1
        left
        rw [e1, a1.f, nxOf_len, bfOf_len]; exact hk
      · split at hk
        · rename_i e2
          left
          rw [e2, a1.n]; exact hk
        · split at hk
          · rename_i e3
            right
            refine ⟨_, t, .i64, x, 3, by rw [e3]; exact a1.b, hbf, ?_⟩
            rw [bfOf_x]
            cases hk; rfl
          · split at hk
            · rename_i e1 e2 e3 e4
              left
              rw [f1 b (by omega) e1 e2 e3]; exact hk
            · cases hk
    · simp only [apH]
      split
      · rename_i e1
        exact .inr (.inl ⟨_, by rw [e1]; exact a1.f, rfl⟩)
      · split
        · rename_i e2
          exact .inr (.inl ⟨_, by rw [e2]; exact a1.n, rfl⟩)
        · split
          · rename_i e3
            exact .inr (.inl ⟨_, by rw [e3]; exact a1.b, rfl⟩)
          · split
            · rename_i e1 e2 e3 e4
              left
              rw [f1 b (by omega) e1 e2 e3]
            · rename_i e4
              exact .inr (.inr (show 2 ≤ b by omega))
end Go.AM
end

section
namespace Go.AM
open Go.Proofs
variable {R : Type}
theorem len_addL : ∀ (L : List Spot) (y : Spot), (addL y L).length ≤ L.length := by
  intro L
  induction L with
  | nil => intro y; exact Nat.le_refl _
  | cons x L ih =>
    intro y
    rw [addL_cons]
    split
    · have := ih x; simp only [List.length_cons]; omega
    · have := ih x; simp only [List.length_cons]; omega
theorem len_cutL : ∀ (L : List Spot) (y : Spot), (cutL y L).length ≤ L.length := by
  intro L
  induction L with
  | nil => intro y; exact Nat.le_refl _
  | cons x L ih =>
    intro y
    rw [cutL_cons]
    split
    · have := ih x; simp only [List.length_cons]; omega
    · have := ih x; simp only [List.length_cons]; omega
theorem mp_ne {h : H} {e : TypeId} {sz : Nat} {v : Value} {l : List (List Value)} {mb : Nat} {es : List MapEntry} {c : Nat} (a : SlR h e sz v l) (hm : h.blk mb = some (.mp es c)) : blkOf v ≠ some mb := by
  intro hb
  obtain ⟨_, cs, own, h1⟩ := a.blkR hb
  rw [hm] at h1
  cases h1
section
variable {g : List Nat} {s t lo fb nb bb first : Nat} {tv : Value} {nxt : List Int} {bf : List Value} {h : H}
set_option maxHeartbeats 1000000 in
/-- Apply, up to its last loop. -/
theorem ap_walk {kv : List (Spot × Spot)} {m0 : Nat} {L0 : List Spot} (a : FlH g s t lo tv fb nb bb first nxt bf h) (w : StW g s t first nxt bf) (hg : GrN g) (hs : s < g.length) (hst : s ≠ t)
    (hm0 : h.blk m0 = some (mpOf spV (kvV kv))) (hml : m0 < h.nx) (r : SrI (adjP g) s (flS s first nxt) kv) (hp : PK s kv (t, false) L0) (hL : L0.length ≤ 40) (f' : FlW (adjP g) s t (turnL (flS s first nxt) (t, false) L0)) :
    ∃ (h41 : H) (mb clk : Nat) (L : List ((Nat × Nat) × Nat)), (∀ RG, f114H RG rn 100 (pt fb 0) (.map (some m0)) (spV (s, true)) (spV (t, false)) h = lp 100 RG [pt fb 0, .map (some mb)] h41 fun _ _ h42 => some (undef, h42)) ∧
      FlB s t tv fb nb bb 0 (List.replicate g.length (-1)) (List.replicate g.length (iv (-1))) h41 ∧ h41.blk mb = some (.mp (L.map arcE) clk) ∧ (mb ≠ fb ∧ mb ≠ nb ∧ mb ≠ bb) ∧ mb < h41.nx ∧ (∀ x ∈ L, x.2 < clk) ∧ (L.map (·.2)).Nodup ∧ (∀ x ∈ L, x.1.1 < g.length ∧ x.1.2 < g.length) ∧ pA L = turnL (flS s first nxt) (t, false) L0 ∧
      h.nx ≤ h41.nx ∧ ∀ b, b < h.nx → b ≠ fb → b ≠ nb → b ≠ bb → h41.blk b = h.blk b := by
  have hlen := hg.len
  have hf10 : first < 1024 := Nat.lt_of_lt_of_le w.fb hg.pow
  have halt := a.lt
  have hks : ∀ p ∈ kv, p.1 ≠ (s, true) := fun p hp e => (r.mem (y := p.1) (x := p.2) hp).2 (by rw [e])
  -- the two variables
  obtain ⟨h1, hh1⟩ : ∃ h1, h1 = h.new (.row (spC (s, true)) 129 true) := ⟨_, rfl⟩
  have x1 : Ext h h1 := hh1 ▸ .new _ _
  have n1 : h1.nx = h.nx + 1 := by rw [hh1]; rfl
  have b1 : h1.blk h.nx = some (.row (spC (s, true)) 129 true) := by rw [hh1]; exact blk_new_self _ _
  obtain ⟨h2, hh2⟩ : ∃ h2, h2 = h1.new (.row (spC (t, false)) 129 true) := ⟨_, rfl⟩
  have x2 : Ext h1 h2 := hh2 ▸ .new _ _
  have n2 : h2.nx = h1.nx + 1 := by rw [hh2]; rfl
  have b2 : h2.blk h1.nx = some (.row (spC (t, false)) 129 true) := by rw [hh2]; exact blk_new_self _ _
  obtain ⟨h4, hh4⟩ : ∃ h4, h4 = h2.var (.row (spC (t, false)) 129 true) := ⟨_, rfl⟩
  have x4 : Ext h2 h4 := hh4 ▸ .var _ _
  have n4 : h4.nx = h2.nx + 1 := by rw [hh4]; rfl
  have b4 : h4.blk h2.nx = some (.row (spC (t, false)) 129 true) := by rw [hh4]; exact var_at _ _
  have x04 := (x1.trans x2).trans x4
  -- the path
  obtain ⟨cv, av, yv, h18, e18, f18, c18, a18⟩ := ap_l1 (lo := h2.nx) (h0 := h) r.nd hks (by omega) (by omega) hp h4 (.slice none 0 0) (.slice none 0 0) [] [] h2.nx 100 (by omega) (by simp; omega) (by simp; omega) ((x04.blk _ hml).trans hm0) ((x4.blk _ (by omega)).trans ((x2.blk _ (by omega)).trans b1)) b4 (by omega) (by omega) .nil .nil (fun q hq => by cases hq)
  rw [List.nil_append] at c18 a18
  have n18 := f18.nx
  -- the map
  obtain ⟨h19, hh19⟩ : ∃ h19, h19 = h18.new (.mp [] 0) := ⟨_, rfl⟩
  have x19 : Ext h18 h19 := hh19 ▸ .new _ _
  have n19 : h19.nx = h18.nx + 1 := by rw [hh19]; rfl
  have b19 : h19.blk h18.nx = some (.mp [] 0) := by rw [hh19]; exact blk_new_self _ _
  have f019 : ∀ b, b < h.nx → h19.blk b = h.blk b := fun b hb => by rw [x19.blk b (by omega), f18.blk b (by omega), x04.blk b hb]
  have a19 : FlB s t tv fb nb bb first nxt bf h19 := a.toB.keep (by omega) f019
  have m19 : ArM h19 h18.nx g.length (fun _ _ => False) := ⟨⟨[], 0, b19, (fun x hx => by cases hx), List.nodup_nil, List.nodup_nil, fun v u => by simp⟩, by omega, fun v u h => h.elim⟩
  have hne : h18.nx ≠ fb ∧ h18.nx ≠ nb ∧ h18.nx ≠ bb := ⟨by omega, by omega, by omega⟩
  obtain ⟨v27, h20, e76, x20, s27⟩ := s76 hf10 h19
  have x20' := x20.toExt
  have n20 := x20'.nx
  have c76 := fun (K : Value → H → Option (Value × H)) => calls_eq (K := K) (xs := [iv (first : Nat)]) e76
  have hlen27 : ∀ {T : Type} (K : Int → Option T), len v27 K = K ((elts first).length : Nat) := fun K => by rw [s27.len]; simp
  have a20 := a19.keep n20 fun b hb => x20'.blk b hb
  have m20 := m19.exo x20'
  have b20 := (x20'.blk _ (by omega)).trans b19
  obtain ⟨h23, e23, x23, m23⟩ := ap_l2 (h18 := h18) (S := fun _ _ => False) a20 s27 (by have := elts_len first; have := pop_le_n (n := 10) (Nat.le_refl _) hf10; omega) (fun u hu => bit_lt w.fb ((mem_elts hf10).1 hu)) hs m20 hne (mp_ne s27 b20)
  have a23 := a20.exo x23 fun b e => by cases e; exact hne
  have n23 := x23.nx
  obtain ⟨h26, e26, x26, m26⟩ := ap_l3 (h18 := h18) a23 w.nxl (by omega) (fun v u hu => by
    have hvs : v ≠ s := fun e => by
      rw [e, w.nxs, Option.some.injEq] at hu
      omega
    exact (hg.toGrB.adj_lt (w.fl.sub v u (.inr ⟨hvs, hu⟩))).2) m23 hne
  have n26 := x26.nx
  have x2326 : Exo (some h18.nx) h20 h26 := x23.trans x26
  have keepS : ∀ {v : Value} {l : List (List Value)} {h' : H}, AqR h2.nx h18 144 2 v l → Exo (some h18.nx) h20 h' → SlR h' 144 2 v l := fun {v l h'} q x => by
    have hx : Ext h18 h20 := x19.trans x20'
    refine (q.slR.ext hx).keepB x.nx fun b hb => x.blk b ((q.slR.ext hx).blkR hb).1 fun e => ?_
    have := (q.blkOf hb).2.1
    cases e
    omega
  obtain ⟨L26, c26, bm26, _⟩ := m26.ex
  obtain ⟨h31, e31, x31, m31⟩ := ap_l4 (h18 := h18) (ws1 := [cv, av, yv]) (l := cutL (t, false) L0) (keepS c18 x2326) (by have := len_cutL L0 (t, false); omega) m26 (mp_ne (keepS c18 x2326) bm26)
  have n31 := x31.nx
  obtain ⟨L31, c31, bm31, _⟩ := m31.ex
  have x2031 := x2326.trans x31
  obtain ⟨h36, e36, x36, m36⟩ := ap_l5 (h18 := h18) (ws1 := [cv, av, yv]) (l := addL (t, false) L0) (keepS a18 x2031) (by have := len_addL L0 (t, false); omega) (fun v u h => hg.toGrB.adj_lt (f'.sub v u (.inr h))) m31 (mp_ne (keepS a18 x2031) bm31)
  have n36 := x36.nx
  have x2036 := x2031.trans x36
  have a36 := a20.exo x2036 fun b e => by cases e; exact hne
  obtain ⟨h37, e37, a37, n37, f37⟩ := a36.stF (R := Value × H) 0
  have e37' : ∀ (K : H → Option (Value × H)), st Tryd.prog h36 3 fb (off 0 3) (.int .i64 0) K = K h37 := e37
  obtain ⟨h41, e41, a41, n41, f41⟩ := ap_l6 a37 w.nxl w.bfl (by omega)
  obtain ⟨L, clk, q1, q2, q3, q4, q5⟩ := m36.ex
  have hS : ∀ v u, pA L v u ↔ turnL (flS s first nxt) (t, false) L0 v u := by
    intro v u
    unfold pA
    rw [← q5]
    unfold turnL
    have hF : ((False ∨ (v = s ∧ u ∈ elts first)) ∨ nxt[v]? = some (u : Int)) ↔ flS s first nxt v u := by
      rw [mem_elts hf10]
      unfold flS
      constructor
      · rintro ((h | h) | h)
        · exact h.elim
        · exact .inl h
        · refine .inr ⟨fun e => ?_, h⟩
          rw [e, w.nxs, Option.some.injEq] at h
          omega
      · rintro (h | h)
        · exact .inl (.inr h)
        · exact .inr h.2
    rw [hF]
  refine ⟨h41, h18.nx, clk, L, fun RG => ?_, a41, ?_, hne, by omega, q2, q3, fun x hx => ?_, ?_, by omega, fun b hb c1 c2 c3 => ?_⟩
  · unfold f114H
    rw [bx_eq, show (spV (s, true)).cells.toList = spC (s, true) from rfl, ← hh1, bx_eq, show (spV (t, false)).cells.toList = spC (t, false) from rfl, ← hh2, nx_eq, ldS b2, alS, ← hh4, nx_eq, lp_eq e18, onE_exit, if_pos rfl, mkm_eq, ← hh19, nilp, asP_ptr, a19.ldf, asI_int, c76, hlen27, lp_eq e23, onE_exit, if_pos rfl, nilp, asP_ptr, a23.ldn, len_slice, w.nxl]
    rw [w.nxl] at e26
    rw [lp_eq e26, onE_exit, if_pos rfl, gv30, gv31, (keepS c18 x2326).len, List.length_map, lp_eq e31, onE_exit, if_pos rfl, (keepS a18 x2031).len, List.length_map, lp_eq e36, onE_exit, if_pos rfl, nilp, asP_ptr, e37', nilp, asP_ptr, a37.ldn, len_slice, w.nxl, lp_eq e41, onE_exit, if_pos rfl, nx_eq]
  · rw [f41 _ hne.2.1 hne.2.2, f37 _ hne.1]; exact q1
  · exact m36.bd x.1.1 x.1.2 ((q5 _ _).2 (List.mem_map.2 ⟨x, hx, rfl⟩))
  · funext v u; exact propext (hS v u)
  · rw [f41 b c2 c3, f37 b c1, x2036.blk b (by omega) (fun e => by cases e; omega), x20'.blk b (by omega)]
    exact f019 b hb
end
end Go.AM
end

section
namespace Go.AM
open Go.Proofs
section
variable {g : List Nat} {s t lo fb nb bb first : Nat} {tv : Value} {nxt : List Int} {bf : List Value} {h : H}
theorem ap_sure (hmix : Tryd.prog.follows .mixedOrders = true) {kv : List (Spot × Spot)} {m0 : Nat} {L0 : List Spot} (a : FlH g s t lo tv fb nb bb first nxt bf h) (w : StW g s t first nxt bf) (hg : GrN g) (hs : s < g.length) (ht : t < g.length) (hst : s ≠ t)
    (hm0 : h.blk m0 = some (mpOf spV (kvV kv))) (hml : m0 < h.nx) (r : SrI (adjP g) s (flS s first nxt) kv) (hp : PK s kv (t, false) L0) (hL : L0.length ≤ 40) (f' : FlW (adjP g) s t (turnL (flS s first nxt) (t, false) L0)) :
    ∃ h', Sure Tryd.prog E0 114 #[pt fb 0, .map (some m0), spV (s, true), spV (t, false)] h undef h' ∧
      FlH g s t lo tv fb nb bb (firstOf g.length s (turnL (flS s first nxt) (t, false) L0)) (nxOf g.length s (turnL (flS s first nxt) (t, false) L0)) (bfOf g.length t (turnL (flS s first nxt) (t, false) L0) (.chan none)) h' ∧
      h.nx ≤ h'.nx ∧ ∀ b, b < h.nx → b ≠ fb → b ≠ nb → b ≠ bb → h'.blk b = h.blk b := by
  have hlen := hg.len
  have halt := a.lt
  have hane := a.ne
  have hlo := a.lo
  obtain ⟨h41, mb, clk, L, e, a41, q1, q2, q3, q4, q5, q6, q7, q8, q9⟩ := ap_walk a w hg hs hst hm0 hml r hp hL f'
  obtain ⟨sr, hsr, i1, i2, i3, i4, i5, i6, i7⟩ := rq114_is
  have o : OneW s t (pA L) := by rw [q7]; exact ⟨f'.out1, f'.in1⟩
  have hrg := rg114 hmix hsr i1 i2 i3 i4 i5 i6 i7 a41 q1 q2 q3 q4 q5 q6 o ht hlen (h.wr + 1) h.nx (by omega) q8
  obtain ⟨h', hh'⟩ : ∃ h', h' = apH h41 s t tv fb nb bb g.length (pA L) L.length (h.wr + 1) h.nx := ⟨_, rfl⟩
  rw [← hh'] at hrg
  have hrun : f114H (onePt [pt fb 0, .map (some mb)] h41 h') rn 100 (pt fb 0) (.map (some m0)) (spV (s, true)) (spV (t, false)) h = some (undef, h') := by
    rw [e]
    exact lp_eq (lpGo_ret (onePt_at _ _ _))
  rw [← e114H] at hrun
  have hrec : SoundR Tryd.prog E0 rn := run_sound hmix
  have b := bodyQ_calls hrec (draw_ok hmix hrec) hsr hrg hrun
  have hn' : h'.nx = h41.nx + 1 + L.length := by rw [hh']; rfl
  have fr : ∀ b, b < h.nx → b ≠ fb → b ≠ nb → b ≠ bb → h'.blk b = h.blk b := fun b hb c1 c2 c3 => by
    rw [hh', ← q9 b hb c1 c2 c3]
    simp only [apH]
    rw [if_neg c1, if_neg c2, if_neg c3, if_pos hb]
  have bfe : h'.blk fb = some (.row [tv, iv s, iv t, iv (firstOf g.length s (pA L) : Nat), .slice (some ⟨nb, 0, none⟩) g.length g.length, .slice (some ⟨bb, 0, none⟩) g.length g.length] 115 true) := by
    rw [hh']; exact if_pos rfl
  have bne : h'.blk nb = some (.row ((nxOf g.length s (pA L)).map iv) 3 true) := by
    rw [hh']; exact (if_neg (Ne.symm hane.1)).trans (if_pos rfl)
  have bbe : h'.blk bb = some (.row (bfOf g.length t (pA L) (.chan none)) 3 true) := by
    rw [hh']; exact ((if_neg (Ne.symm hane.2.1)).trans (if_neg (Ne.symm hane.2.2))).trans (if_pos rfl)
  have htvb : ∀ q, blkOf tv = some q → h'.blk q = h.blk q := fun q hq => by
    have := a.tvlo q hq
    exact fr q (a.tvs.blkR hq).1 (by omega) (by omega) (by omega)
  refine ⟨h', ⟨b.1, ⟨by omega, by rw [hh']; exact Nat.le_succ _, fun e => ?_, fun q k hk ho => ?_⟩, b.2⟩, ?_, by omega, fr⟩
  · exfalso
    rw [hh'] at e
    have : h.wr + 1 = h.wr := e
    omega
  · by_cases c1 : q = fb
    · rw [c1, bfe] at hk; cases hk; cases ho
    · by_cases c2 : q = nb
      · rw [c2, bne] at hk; cases hk; cases ho
      · by_cases c3 : q = bb
        · rw [c3, bbe] at hk; cases hk; cases ho
        · by_cases c4 : q < h.nx
          · rw [← fr q c4 c1 c2 c3]; exact hk
          · rw [hh'] at hk
            simp only [apH] at hk
            rw [if_neg c1, if_neg c2, if_neg c3, if_neg c4] at hk
            cases hk
  · rw [← q7]
    refine ⟨a.tvs.keepB (by omega) htvb, a.tvlo, ?_, bne, bbe, a.ne, a.lo, by omega, by omega, by omega⟩
    rw [nxOf_len, bfOf_len]; exact bfe
end
end Go.AM
end

section
namespace Go.AM
open Go.Proofs
theorem mapIv_inj {l l' : List Int} (h : l.map iv = l'.map iv) : l = l' := by
  refine List.map_inj_right (f := iv) ?_ |>.1 h
  intro a b e
  injection e
theorem slN_inj {h : H} {v : Value} {g g' : List Nat} (a : SlR h 3 1 v (cellsN g)) (b : SlR h 3 1 v (cellsN g')) : g = g' := by
  have h1 := (a.srcAll (by decide)).symm.trans (b.srcAll (by decide))
  simp only [Option.some.injEq] at h1
  have h2 : ∀ g : List Nat, (cellsN g).flatten = (g.map Int.ofNat).map iv := by
    intro g
    induction g with
    | nil => rfl
    | cons x g ih =>
      show iv (x : Int) :: (cellsN g).flatten = _
      rw [ih]; rfl
  rw [h2, h2] at h1
  have h3 := mapIv_inj h1
  exact (List.map_inj_right fun a b e => Int.ofNat.inj e).1 h3
/-- What apply leaves. -/
def PostA (g : List Nat) (s t lo : Nat) (tv : Value) (fb nb bb first : Nat) (h h' : H) : Prop :=
  ∃ first' nxt' bf', FlH g s t lo tv fb nb bb first' nxt' bf' h' ∧ StW g s t first' nxt' bf' ∧ pop first' = pop first + 1 ∧ h.nx ≤ h'.nx ∧ ∀ b, b < h.nx → b ≠ fb → b ≠ nb → b ≠ bb → h'.blk b = h.blk b
def GoodA (args : Array Value) (h : H) (r : Value × H) : Prop :=
  Sure Tryd.prog E0 114 args h r.1 r.2 ∧ ∀ g s t lo tv fb nb bb first nxt bf, args[0]? = some (pt fb 0) → FlH g s t lo tv fb nb bb first nxt bf h → StW g s t first nxt bf → PostA g s t lo tv fb nb bb first h r.2
open Classical in
/-- Apply, told. -/
noncomputable def g114 (args : Array Value) (h : H) : Option (Value × H) := if hx : ∃ r, GoodA args h r then some hx.choose else none
theorem g114_some {args : Array Value} {h h' : H} {v : Value} (e : g114 args h = some (v, h')) : GoodA args h (v, h') := by
  unfold g114 at e
  split at e
  · rename_i hx
    have := hx.choose_spec
    simp only [Option.some.injEq] at e
    rw [e] at this
    exact this
  · cases e
theorem g114_of {args : Array Value} {h : H} {r : Value × H} (x : GoodA args h r) : ∃ v h', g114 args h = some (v, h') ∧ GoodA args h (v, h') := by
  unfold g114
  have hx : ∃ r, GoodA args h r := ⟨r, x⟩
  rw [dif_pos hx]
  exact ⟨_, _, rfl, hx.choose_spec⟩
section
variable {g : List Nat} {s t lo fb nb bb first : Nat} {tv : Value} {nxt : List Int} {bf : List Value} {h : H}
theorem FlH.uniq {g' : List Nat} {s' t' lo' nb' bb' first' : Nat} {tv' : Value} {nxt' : List Int} {bf' : List Value} (a : FlH g s t lo tv fb nb bb first nxt bf h) (b : FlH g' s' t' lo' tv' fb nb' bb' first' nxt' bf' h) :
    g' = g ∧ s' = s ∧ t' = t ∧ tv' = tv ∧ nb' = nb ∧ bb' = bb ∧ first' = first ∧ nxt' = nxt ∧ bf' = bf := by
  have h1 := a.f.symm.trans b.f
  simp only [Option.some.injEq, Blk.row.injEq, List.cons.injEq, Value.int.injEq, Value.slice.injEq, Addr.mk.injEq, and_true, true_and] at h1
  obtain ⟨e1, e2, e3, e4, ⟨e5, _⟩, e6, _⟩ := h1
  subst e1
  subst e5
  subst e6
  have h2 := a.n.symm.trans b.n
  have h3 := a.b.symm.trans b.b
  simp only [Option.some.injEq, Blk.row.injEq, and_true] at h2 h3
  have := mapIv_inj h2
  exact ⟨(slN_inj a.tvs b.tvs).symm, by omega, by omega, rfl, rfl, rfl, by omega, this.symm, h3.symm⟩
theorem FlH.relo {lo' first' : Nat} {nxt' : List Int} {bf' : List Value} {h' : H} (a : FlH g s t lo tv fb nb bb first' nxt' bf' h') (b : FlH g s t lo' tv fb nb bb first nxt bf h) : FlH g s t lo' tv fb nb bb first' nxt' bf' h' :=
  ⟨a.tvs, b.tvlo, a.f, a.n, a.b, a.ne, b.lo, a.lt⟩
theorem cnt_more {n : Nat} {p q : Nat → Prop} {u : Nat} (hu : u < n) (hp : ¬ p u) (hq : ∀ i, q i ↔ p i ∨ i = u) : cntN n q = cntN n p + 1 := by
  rw [cnt_split n q (fun i => i = u), cnt_one hu ((hq u).2 (.inr rfl))]
  have : cntN n (fun i => q i ∧ ¬ i = u) = cntN n p := cnt_congr fun i _ => ⟨fun h => ((hq i).1 h.1).resolve_right h.2, fun h => ⟨(hq i).2 (.inl h), fun e => hp (e ▸ h)⟩⟩
  rw [this]; omega
theorem ap_g (hmix : Tryd.prog.follows .mixedOrders = true) {kv : List (Spot × Spot)} {m0 : Nat} {x : Spot} (a : FlH g s t lo tv fb nb bb first nxt bf h) (w : StW g s t first nxt bf) (hg : GrN g) (hs : s < g.length) (ht : t < g.length) (hst : s ≠ t)
    (hm0 : h.blk m0 = some (mpOf spV (kvV kv))) (hml : m0 < h.nx) (r : SrI (adjP g) s (flS s first nxt) kv) (hkt : ∀ p ∈ kv, p.1.1 = t → p.1 = (t, false)) (hx : ((t, false), x) ∈ kv) (hk : kv.length ≤ 40) :
    ∃ v h', g114 #[pt fb 0, .map (some m0), spV (s, true), spV (t, false)] h = some (v, h') ∧ PostA g s t lo tv fb nb bb first h h' := by
  obtain ⟨L, p1, p2, p3, u0, p4, p5, p6, p7⟩ := r.turn w.fl hst hkt hx
  obtain ⟨h', q1, q2, q3, q4⟩ := ap_sure hmix a w hg hs ht hst hm0 hml r p1 (by omega) p3
  have hgood : GoodA #[pt fb 0, .map (some m0), spV (s, true), spV (t, false)] h (undef, h') := by
    refine ⟨q1, ?_⟩
    intro g1 s1 t1 lo1 tv1 fb1 nb1 bb1 first1 nxt1 bf1 hfb a1 w1
    have e : fb1 = fb := by
      simp [pt] at hfb
      omega
    subst e
    obtain ⟨rfl, rfl, rfl, rfl, rfl, rfl, rfl, rfl, rfl⟩ := a.uniq a1
    obtain ⟨w2, w3⟩ := StW.of p3 hg.toGrB hs (.chan none)
    refine ⟨_, _, _, q2.relo a1, w2, ?_, q3, q4⟩
    rw [← w2.count hg.toGrB, ← w1.count hg.toGrB]
    refine cnt_more (u := u0) (hg.toGrB.adj_lt p5).2 p4 fun i => ?_
    rw [w3]
    exact p7 i
  obtain ⟨v, h2, e, gd⟩ := g114_of hgood
  exact ⟨v, h2, e, gd.2 _ _ _ _ _ _ _ _ _ _ _ rfl a w⟩
end
end Go.AM
end

section
namespace Go.AM
open Go.Proofs
variable {R : Type}
section
variable {g : List Nat} {s t lo fb nb bb first : Nat} {tv : Value} {nxt : List Int} {bf : List Value} {h : H}
theorem gv20 (a b : Value) : AM.gv [a, b] 0 = a := rfl
theorem gv21 (a b : Value) : AM.gv [a, b] 1 = b := rfl
theorem kbldS (a : Nat) (q : Bool) (K : Value → Option R) : bld Tryd.prog 129 [(0, .int .i64 (a : Int)), (1, .bool q)] K = K (spV (a, q)) := kbld129 _ _ _
theorem st5 {u i : Nat} {n : Int} {v115 sv : Value} {g' : H} {k : Nat} (w : StW g s t first nxt bf) (hi : i < 20) (hu : u < 10) (hf : first < 1024) (a : FlH g s t lo tv fb nb bb first nxt bf g') (e1 : ∀ (K : Value → Option (Ex × List Value × H)), (six v115 (i : Int) 1 fun b o => ld Tryd.prog g' 3 b o K) = K (iv (u : Int))) (e2 : ∀ (K : Value → Option (Ex × List Value × H)), ld Tryd.prog g' 3 h.nx 0 K = K (iv (s : Int))) (hlt : AM.lt (i : Int) n = true) :
    f113_l5 rn k (pt fb 0) h v115 n [sv, iv (i : Nat)] g' = if fwdQ s first nxt s u = true then (bls Tryd.prog g' 130 1 [(0, spV (u, false))] fun v5 h5 => app Tryd.prog h5 130 130 sv v5 fun v6 h6 => some (.normal, [v6, iv ((i + 1 : Nat) : Int)], h6)) else some (.normal, [sv, iv ((i + 1 : Nat) : Int)], g') := by
  have hadd : add .i64 (i : Int) 1 = ((i + 1 : Nat) : Int) := by rw [add64 (by omega) (by omega)]; omega
  have hq : fwdQ s first nxt s u = (decide (u ≠ s) && !first.testBit u) := by
    unfold fwdQ usedW onW
    simp
  unfold f113_l5
  rw [gv20, gv21, asI_int, hlt, ifB_true, asK_int, e1, asI_int, nx_eq, e2, asI_int, nilp, asP_ptr, a.lds, asI_int, eqN', decide_eq_true rfl, ifB_true, nilp, asP_ptr, a.ldf, asI_int, nn_ge (by omega), hq]
  have hb : AM.eq (AM.and .i64 (shr .i64 (first : Int) (u : Int)) 1) 1 = first.testBit u := by
    have := bit_eq1 (a := first) (p := u) (by omega) (by omega)
    rw [Bool.eq_iff_iff, ← this]
    simp [AM.eq]
  rw [hb]
  cases hc : first.testBit u with
  | true =>
    rw [ifB_true, nilp, asP_ptr, a.lds, asI_int, asI_int, hadd]
    cases (!AM.eq (u : Int) (s : Int)) <;> simp [AM.ifB, out]
  | false =>
    rw [ifB_false, nilp, asP_ptr, a.lds, asI_int, eqN']
    by_cases hs : u = s
    · rw [decide_eq_true hs, Bool.not_true, ifB_false, asI_int, hadd]
      simp [hs, out]
    · rw [decide_eq_false hs, Bool.not_false, ifB_true, kbldS]
      simp only [asI_int, hadd, out]
      simp [hs]
theorem st4 {u i v : Nat} {n n3 : Int} {v115 sv : Value} {g' : H} {k : Nat} (hvs : v ≠ s) (h3 : n3 < 0) (ho : onW s nxt v = false) (hi : i < 20) (a : FlH g s t lo tv fb nb bb first nxt bf g') (e1 : ∀ (K : Value → Option (Ex × List Value × H)), (six v115 (i : Int) 1 fun b o => ld Tryd.prog g' 3 b o K) = K (iv (u : Int))) (e2 : ∀ (K : Value → Option (Ex × List Value × H)), ld Tryd.prog g' 3 h.nx 0 K = K (iv (v : Int))) (hlt : AM.lt (i : Int) n = true) :
    f113_l4 rn k (pt fb 0) h n3 v115 n [sv, iv (i : Nat)] g' = if fwdQ s first nxt v u = true then (bls Tryd.prog g' 130 1 [(0, spV (u, false))] fun v5 h5 => app Tryd.prog h5 130 130 sv v5 fun v6 h6 => some (.normal, [v6, iv ((i + 1 : Nat) : Int)], h6)) else some (.normal, [sv, iv ((i + 1 : Nat) : Int)], g') := by
  have hadd : add .i64 (i : Int) 1 = ((i + 1 : Nat) : Int) := by rw [add64 (by omega) (by omega)]; omega
  have hq : fwdQ s first nxt v u = decide (u ≠ s) := by
    unfold fwdQ usedW
    rw [decide_eq_false hvs, ho]
    simp
  unfold f113_l4
  rw [gv20, gv21, asI_int, hlt, ifB_true, asK_int, e1, asI_int, nx_eq, e2, asI_int, nilp, asP_ptr, a.lds, asI_int, eqN', decide_eq_false hvs, ifB_false, show AM.le 0 n3 = false by simp [AM.le]; omega, ifB_false, nilp, asP_ptr, a.lds, asI_int, eqN', hq]
  by_cases hs : u = s
  · rw [decide_eq_true hs, Bool.not_true, ifB_false, asI_int, hadd]
    simp [hs, out]
  · rw [decide_eq_false hs, Bool.not_false, ifB_true, kbldS]
    simp only [asI_int, hadd, out]
    simp [hs]
theorem st1 {u i v : Nat} {n n3 : Int} {v115 sv : Value} {g' : H} {k : Nat} (hvs : v ≠ s) (h3 : nxt[v]? = some n3) (h30 : 0 ≤ n3) (ho : onW s nxt v = true) (hi : i < 20) (a : FlH g s t lo tv fb nb bb first nxt bf g') (e1 : ∀ (K : Value → Option (Ex × List Value × H)), (six v115 (i : Int) 1 fun b o => ld Tryd.prog g' 3 b o K) = K (iv (u : Int))) (e2 : ∀ (K : Value → Option (Ex × List Value × H)), ld Tryd.prog g' 3 h.nx 0 K = K (iv (v : Int))) (hlt : AM.lt (i : Int) n = true) :
    f113_l1 rn k (pt fb 0) h n3 v115 n [sv, iv (i : Nat)] g' = if fwdQ s first nxt v u = true then (bls Tryd.prog g' 130 1 [(0, spV (u, false))] fun v5 h5 => app Tryd.prog h5 130 130 sv v5 fun v6 h6 => some (.normal, [v6, iv ((i + 1 : Nat) : Int)], h6)) else some (.normal, [sv, iv ((i + 1 : Nat) : Int)], g') := by
  have hadd : add .i64 (i : Int) 1 = ((i + 1 : Nat) : Int) := by rw [add64 (by omega) (by omega)]; omega
  have hq : fwdQ s first nxt v u = (decide (u ≠ s) && !decide (n3 = (u : Int))) := by
    unfold fwdQ usedW
    rw [decide_eq_false hvs, ho, List.getD_eq_getElem?_getD, h3]
    simp
  unfold f113_l1
  rw [gv20, gv21, asI_int, hlt, ifB_true, asK_int, e1, asI_int, nx_eq, e2, asI_int, nilp, asP_ptr, a.lds, asI_int, eqN', decide_eq_false hvs, ifB_false, show AM.le 0 n3 = true by simp [AM.le]; omega, ifB_true, nilp, asP_ptr, a.ldn, e2, asI_int, a.getn h3, asI_int, nilp, asP_ptr, a.lds, asI_int, eqN', hq, show AM.eq n3 (u : Int) = decide (n3 = (u : Int)) from rfl]
  by_cases hs : u = s
  · rw [decide_eq_true hs, Bool.not_true, ifB_false, asI_int, hadd]
    simp [hs, out]
  · rw [decide_eq_false hs, Bool.not_false, ifB_true]
    by_cases hn : n3 = (u : Int)
    · rw [decide_eq_true hn, Bool.not_true, ifB_false, asI_int, hadd]
      simp [hs, out]
    · rw [decide_eq_false hn, Bool.not_false, ifB_true, kbldS]
      simp only [asI_int, hadd, out]
      simp [hs]
theorem s113 {v : Nat} {b : Bool} (c : AhC g s t lo tv fb nb bb first nxt bf v b h) : ∃ v' h', rn 113 #[pt fb 0, spV (v, b)] h = some (v', h') ∧ Exw h h' ∧ SlR h' 129 2 v' (cellsS (aheadL g s first nxt (v, b))) ∧ ∀ q, blkOf v' = some q → h.nx < q := by
  have hlen := c.hg.len
  have hnb : AM.nb g v < 1024 := Nat.lt_of_lt_of_le (c.hg.nb_lt v) c.hg.pow
  have hf : first < 1024 := Nat.lt_of_lt_of_le c.st.fb c.hg.pow
  obtain ⟨h1, hh1⟩ : ∃ h1, h1 = h.new (.row (spC (v, b)) 129 true) := ⟨_, rfl⟩
  have x0 : Ext h h1 := hh1 ▸ .new _ _
  have n1 : h1.nx = h.nx + 1 := by rw [hh1]; rfl
  have b1 : h1.blk h.nx = some (.row (spC (v, b)) 129 true) := by rw [hh1]; exact blk_new_self _ _
  have a1 := c.a.ext x0
  have l1 : ∀ {T : Type} {g' : H}, Ext h1 g' → ∀ (K : Value → Option T), ld Tryd.prog g' 3 h.nx 0 K = K (iv (v : Int)) := fun x K => by rw [d3, cell_of ((x.blk _ (by omega)).trans b1)]; rfl
  have lq : ∀ {T : Type} (K : Value → Option T), ld Tryd.prog h1 4 h.nx (off 0 1) K = K (.bool b) := fun K => by rw [d4, cell_of b1]; rfl
  have gT : ∀ {T : Type} {g' : H} (_ : FlH g s t lo tv fb nb bb first nxt bf g') (K : Value → Option T), (six tv (v : Int) 1 fun b o => ld Tryd.prog g' 3 b o K) = K (iv (AM.nb g v : Nat)) := fun a K => by
    simp only [d3]; exact getN a.tvs c.hv K
  have fin5 : ∀ (v115 : Value) (n : Nat) (sv : Value) (g' : H), f113_l5 rn 100 (pt fb 0) h v115 n [sv, iv (n : Nat)] g' = some (.exit 0, [sv, iv (n : Nat)], g') := fun v115 n sv g' => by
    unfold f113_l5
    rw [gv21, asI_int, show AM.lt (n : Int) (n : Int) = false by simp [AM.lt]]
    rfl
  have fin4 : ∀ (n3 : Int) (v115 : Value) (n : Nat) (sv : Value) (g' : H), f113_l4 rn 100 (pt fb 0) h n3 v115 n [sv, iv (n : Nat)] g' = some (.exit 0, [sv, iv (n : Nat)], g') := fun n3 v115 n sv g' => by
    unfold f113_l4
    rw [gv21, asI_int, show AM.lt (n : Int) (n : Int) = false by simp [AM.lt]]
    rfl
  have fin1 : ∀ (n3 : Int) (v115 : Value) (n : Nat) (sv : Value) (g' : H), f113_l1 rn 100 (pt fb 0) h n3 v115 n [sv, iv (n : Nat)] g' = some (.exit 0, [sv, iv (n : Nat)], g') := fun n3 v115 n sv g' => by
    unfold f113_l1
    rw [gv21, asI_int, show AM.lt (n : Int) (n : Int) = false by simp [AM.lt]]
    rfl
  have key : (∃ v' h', f113 rn 100 (pt fb 0) (spV (v, b)) h = some (v', h') ∧ Ext h h' ∧ SlR h' 129 2 v' (cellsS (aheadL g s first nxt (v, b))) ∧ ∀ q, blkOf v' = some q → h.nx < q) → ∃ v' h', rn 113 #[pt fb 0, spV (v, b)] h = some (v', h') ∧ Exw h h' ∧ SlR h' 129 2 v' (cellsS (aheadL g s first nxt (v, b))) ∧ ∀ q, blkOf v' = some q → h.nx < q := by
    rintro ⟨v', h', e, x, sl, fq⟩
    obtain ⟨h2, e2, m2, w2⟩ := x113 e sl.notR
    exact ⟨v', h2, e2, w2 x, sl.ext m2.ext, fq⟩
  refine key ?_
  obtain ⟨vE, h2, e76, x76, s76r⟩ := s76 hnb h1
  have c76 := fun (K : Value → H → Option (Value × H)) => calls_eq (K := K) (xs := [iv (AM.nb g v : Nat)]) e76
  have hlenE : ∀ {T : Type} (K : Int → Option T), len vE K = K ((elts (AM.nb g v)).length : Nat) := fun K => by rw [s76r.len]; simp
  unfold f113
  rw [bx_eq, show (spV (v, b)).cells.toList = spC (v, b) from rfl, ← hh1]
  by_cases hvs : v = s
  · have ho : onW s nxt v = false := by unfold onW; rw [decide_eq_false (fun h => h hvs)]; rfl
    obtain ⟨sv', h', el, xl, al⟩ := ah_loop c (hh1 ▸ x76.toExt) s76r (sv := .slice none 0 0) (acc := []) .nil (fun b hb => by cases hb) (by simp) 0 (F := f113_l5 rn 100 (pt fb 0) h vE ((elts (AM.nb g v)).length : Nat))
      (fun sv g' => fin5 _ _ _ _)
      (fun i u sv g' hi hu a e1 e2 hlt => by subst hvs; exact st5 c.st hi (by omega) hf a e1 e2 hlt)
    refine ⟨sv', h', ?_, xl, ?_, fun q hq => (al.blkOf hq).1⟩
    · rw [nx_eq, l1 (.refl _), asI_int, nilp, asP_ptr, a1.lds, asI_int, eqN', decide_eq_true hvs, Bool.not_true, ifB_false, nilp, asP_ptr, a1.ldT, l1 (.refl _), asI_int, gT a1, asI_int, c76, hlenE, lp_eq el, onE_exit, if_pos rfl]
      rfl
    · unfold aheadL
      rw [ho]
      simp only [Bool.false_eq_true, if_false]
      rw [List.nil_append] at al
      exact al.slR
  · obtain ⟨n3, h3⟩ : ∃ n3, nxt[v]? = some n3 := ⟨_, List.getElem?_eq_getElem (by rw [c.st.nxl]; exact c.hv)⟩
    by_cases h30 : 0 ≤ n3
    · have ho : onW s nxt v = true := by
        unfold onW
        rw [decide_eq_true hvs, List.getD_eq_getElem?_getD, h3]
        simp [h30]
      have c120 := fun {g' : H} (a : FlH g s t lo tv fb nb bb first nxt bf g') (K : Value → H → Option (Value × H)) => calls_eq (K := K) (xs := [pt fb 0, iv v]) (s120 a c.st ho)
      have hle : AM.le 0 n3 = true := by simp [AM.le]; omega
      cases b with
      | false =>
        have hsl : SlR (h1.new (.row (spC (predW s first nxt v, true)) 129 true)) 129 2 (.slice (some ⟨h1.nx, 0, none⟩) 1 1) [spC (predW s first nxt v, true)] := (AqR.lit (lo := h1.nx) (l := [spC (predW s first nxt v, true)]) (Nat.le_refl _) rfl (by simp [spC]) (by simp)).slR
        refine ⟨.slice (some ⟨h1.nx, 0, none⟩) 1 1, h1.new (.row (spC (predW s first nxt v, true)) 129 true), ?_, x0.trans (.new _ _), ?_, fun q hq => by cases hq; omega⟩
        · rw [nx_eq, l1 (.refl _), asI_int, nilp, asP_ptr, a1.lds, asI_int, eqN', decide_eq_false hvs, Bool.not_false, ifB_true, nilp, asP_ptr, a1.ldn, l1 (.refl _), asI_int, a1.getn h3, asI_int, hle, ifB_true, lq, asB_bool, Bool.not_false, ifB_true, l1 (.refl _), asI_int, c120 a1, bls_some (bls130 _ _)]
        · unfold aheadL
          simp only [ho, if_true, Bool.false_eq_true, if_false]
          exact hsl
      | true =>
        obtain ⟨sv1, h2', e2', a2, n2, k2, b2, hb2, hb2'⟩ := (AqR.nil (lo := h.nx + 1) (h := h1) (e := 129) (s := 2)).push app130 app130 (bls130 (predW s first nxt v, true)) rfl rfl (by simp) (by omega)
        have x1 : Ext h1 h2' := ⟨n2, fun q hq => k2 q hq (by simp [blkOf])⟩
        have a2' := a1.ext x1
        obtain ⟨vE2, h3', e76', x76', s76r'⟩ := s76 hnb h2'
        have c76' := fun (K : Value → H → Option (Value × H)) => calls_eq (K := K) (xs := [iv (AM.nb g v : Nat)]) e76'
        have hlenE' : ∀ {T : Type} (K : Int → Option T), len vE2 K = K ((elts (AM.nb g v)).length : Nat) := fun K => by rw [s76r'.len]; simp
        obtain ⟨sv', h', el, xl, al⟩ := ah_loop c (hh1 ▸ (x1.trans x76'.toExt)) s76r' (sv := sv1) (a2.ext x76'.toExt) (fun b hb e => by
            obtain ⟨_, _, q1⟩ := (a2.ext x76'.toExt).blkOf hb
            obtain ⟨_, cs, own, q2⟩ := s76r'.blkR e
            rw [q1] at q2
            simp at q2) (by simp) 0 (F := f113_l1 rn 100 (pt fb 0) h n3 vE2 ((elts (AM.nb g v)).length : Nat))
          (fun sv g' => fin1 _ _ _ _ _)
          (fun i u sv g' hi hu a e1 e2 hlt => st1 hvs h3 h30 ho hi a e1 e2 hlt)
        refine ⟨sv', h', ?_, xl, ?_, fun q hq => (al.blkOf hq).1⟩
        · rw [nx_eq, l1 (.refl _), asI_int, nilp, asP_ptr, a1.lds, asI_int, eqN', decide_eq_false hvs, Bool.not_false, ifB_true, nilp, asP_ptr, a1.ldn, l1 (.refl _), asI_int, a1.getn h3, asI_int, hle, ifB_true, lq, asB_bool, Bool.not_true, ifB_false, ifB_true, l1 (.refl _), asI_int, c120 a1, e2', nilp, asP_ptr, a2'.ldT, l1 x1, asI_int, gT a2', asI_int, c76', hlenE', lp_eq el, onE_exit, if_pos rfl]
          rfl
        · unfold aheadL
          simp only [ho, if_true]
          exact al.slR
    · have ho : onW s nxt v = false := by
        unfold onW
        rw [decide_eq_true hvs, List.getD_eq_getElem?_getD, h3]
        simp [h30]
      have hle : AM.le 0 n3 = false := by simp [AM.le]; omega
      obtain ⟨sv', h', el, xl, al⟩ := ah_loop c (hh1 ▸ x76.toExt) s76r (sv := .slice none 0 0) (acc := []) .nil (fun b hb => by cases hb) (by simp) 0 (F := f113_l4 rn 100 (pt fb 0) h n3 vE ((elts (AM.nb g v)).length : Nat))
        (fun sv g' => fin4 _ _ _ _ _)
        (fun i u sv g' hi hu a e1 e2 hlt => st4 hvs (by omega) ho hi a e1 e2 hlt)
      refine ⟨sv', h', ?_, xl, ?_, fun q hq => (al.blkOf hq).1⟩
      · rw [nx_eq, l1 (.refl _), asI_int, nilp, asP_ptr, a1.lds, asI_int, eqN', decide_eq_false hvs, Bool.not_false, ifB_true, nilp, asP_ptr, a1.ldn, l1 (.refl _), asI_int, a1.getn h3, asI_int, hle, ifB_false, ifB_false, nilp, asP_ptr, a1.ldT, l1 (.refl _), asI_int, gT a1, asI_int, c76, hlenE, lp_eq el, onE_exit, if_pos rfl]
        rfl
      · unfold aheadL
        rw [ho]
        simp only [Bool.false_eq_true, if_false]
        rw [List.nil_append] at al
        exact al.slR
end
end Go.AM
end

section
namespace Go.AM
open Go.Proofs
noncomputable def f58_l1 (rec : Rec) (_k : Nat) (h7 : H) (_ws0 : List Value) (h9 : H) : Option (Ex × List Value × H) :=
 calls rec h9 101 [(pt (nx h7) 0)] fun v11 h10 =>
 asB v11 fun q3 =>
 ifB q3 (
 out .normal [] h10) (
 out (.exit 0) [] h10)
noncomputable def f58_l3 (_rec : Rec) (_k : Nat) (n1 : Int) (h7 : H) (ws3 : List Value) (h15 : H) : Option (Ex × List Value × H) :=
 asI .i64 (gv ws3 1) fun n9 =>
 ifB (not (eq n9 n1)) (
 bls Tryd.prog h15 22 1 [(0, gv ws3 1)] fun v16 h16 =>
 app Tryd.prog h16 22 22 (gv ws3 0) v16 fun v17 h17 =>
 ld Tryd.prog h17 22 (nx h7) (off 0 4) fun v18 =>
 asK (gv ws3 1) fun n10 =>
 six v18 n10 1 fun b2 b3 =>
 ld Tryd.prog h17 3 b2 b3 fun v19 =>
 asI .i64 v19 fun n11 =>
 out .normal [v17, (.int .i64 n11)] h17) (
 out (.exit 4) [gv ws3 0, gv ws3 1] h15)
noncomputable def f58_l2 (rec : Rec) (k : Nat) (n0 : Int) (n1 : Int) (h7 : H) (v13 : Value) (n5 : Int) (ws2 : List Value) (h13 : H) : Option (Ex × List Value × H) :=
 asI .i64 (gv ws2 1) fun n6 =>
 ifB (lt n6 n5) (
 asK (gv ws2 1) fun n7 =>
 six v13 n7 1 fun b0 b1 =>
 ld Tryd.prog h13 3 b0 b1 fun v14 =>
 asI .i64 v14 fun n8 =>
 bls Tryd.prog h13 22 1 [(0, (.int .i64 n0))] fun v15 h14 =>
 lp k (f58_l3 rec k n1 h7) [v15, (.int .i64 n8)] h14 fun e1 ws4 h18 =>
 onE e1 4 (
 bls Tryd.prog h18 22 1 [(0, (.int .i64 n1))] fun v20 h19 =>
 app Tryd.prog h19 22 22 (gv ws4 0) v20 fun v21 h20 =>
 bls Tryd.prog h20 68 1 [(0, v21)] fun v22 h21 =>
 app Tryd.prog h21 68 68 (gv ws2 0) v22 fun v23 h22 =>
 asI .i64 (gv ws2 1) fun n12 =>
 out .normal [v23, (.int .i64 (add .i64 n12 1))] h22) (
 none)) (
 out (.exit 2) [gv ws2 0, gv ws2 1] h13)
noncomputable def f58 (rec : Rec) (k : Nat) (v0 : Value) (n0 : Int) (n1 : Int) (h0 : H) : Option (Value × H) :=
 calls rec h0 63 [v0] fun v1 h1 =>
 ext v1 0 fun v2 =>
 ext v1 1 fun v3 =>
 asB v3 fun q0 =>
 ifB (not q0) (
 some ((.tuple #[(.slice none 0 0), (.int .i64 2)]), h1)) (
 calls rec h1 79 [v2, (.int .i64 n0)] fun v4 h2 =>
 asB v4 fun q1 =>
 ifB (not q1) (
 some ((.tuple #[(.slice none 0 0), (.int .i64 2)]), h2)) (
 calls rec h2 79 [v2, (.int .i64 n1)] fun v5 h3 =>
 asB v5 fun q2 =>
 ifB (not q2) (
 some ((.tuple #[(.slice none 0 0), (.int .i64 2)]), h3)) (
 ifB (eq n0 n1) (
 some ((.tuple #[(.slice none 0 0), (.int .i64 2)]), h3)) (
 bls Tryd.prog h3 22 1 [(0, (.int .i64 (-1)))] fun v6 h4 =>
 len v2 fun n2 =>
 calls rec h4 100 [v6, (.int .i64 n2)] fun v7 h5 =>
 bls Tryd.prog h5 22 1 [(0, (.int .i64 (-1)))] fun v8 h6 =>
 len v2 fun n3 =>
 calls rec h6 100 [v8, (.int .i64 n3)] fun v9 h7 =>
 bld Tryd.prog 115 [(0, v2), (1, (.int .i64 n0)), (2, (.int .i64 n1)), (4, v7), (5, v9)] fun v10 =>
 bx h7 115 v10 fun h8 =>
 lp k (f58_l1 rec k h7) [] h8 fun e0 _ h11 =>
 onE e0 0 (
 ld Tryd.prog h11 3 (nx h7) (off 0 3) fun v12 =>
 asI .i64 v12 fun n4 =>
 calls rec h11 76 [(.int .i64 n4)] fun v13 h12 =>
 len v13 fun n5 =>
 lp k (f58_l2 rec k n0 n1 h7 v13 n5) [(.slice none 0 0), (.int .i64 0)] h12 fun e2 ws5 h23 =>
 onE e2 2 (
 some ((.tuple #[gv ws5 0, (.int .i64 0)]), h23)) (
 none)) (
 none)))))
theorem e58 (rec : Rec) (k : Nat) (v0 : Value) (n0 : Int) (n1 : Int) (h : H) : bodyT Tryd.prog E0 SC (XC Tryd.prog rec k) 58 (Value × H) [.opq v0, .int .i64 n0, .int .i64 n1] h (fun v h => some (v, h)) = f58 rec k v0 n0 n1 h := by kernel_rfl
noncomputable def f101_l2 (rec : Rec) (_k : Nat) (v0 : Value) (h0 : H) (h1 : H) (h5 : H) (v7 : Value) (n2 : Int) (ws1 : List Value) (h9 : H) : Option (Ex × List Value × H) :=
 asI .i64 (gv ws1 2) fun n3 =>
 ifB (lt n3 n2) (
 asK (gv ws1 2) fun n4 =>
 six v7 n4 2 fun b4 b5 =>
 ld Tryd.prog h9 129 b4 b5 fun v8 =>
 al h9 129 [(.int .i64 0), (.bool false)] fun h10 =>
 st Tryd.prog h10 129 (nx h9) 0 v8 fun h11 =>
 ld Tryd.prog h11 3 (nx h9) 0 fun v9 =>
 asI .i64 v9 fun n5 =>
 nil v0 (
 asP v0 fun b6 b7 =>
 ld Tryd.prog h11 3 b6 (off b7 1) fun v10 =>
 asI .i64 v10 fun n6 =>
 ifB (eq n5 n6) (
 asI .i64 (gv ws1 2) fun n7 =>
 out .normal [gv ws1 0, gv ws1 1, (.int .i64 (add .i64 n7 1))] h11) (
 ld Tryd.prog h11 129 (nx h9) 0 fun v11 =>
 lok Tryd.prog h11 127 (.map (some (nx h0))) v11 true fun v12 =>
 ext v12 0 fun v13 =>
 ext v12 1 fun v14 =>
 asB v14 fun q0 =>
 al h11 129 [(.int .i64 0), (.bool false)] fun h12 =>
 st Tryd.prog h12 129 (nx h11) 0 v13 fun h13 =>
 ifB q0 (
 asI .i64 (gv ws1 2) fun n8 =>
 out .normal [gv ws1 0, gv ws1 1, (.int .i64 (add .i64 n8 1))] h13) (
 ld Tryd.prog h13 129 (nx h9) 0 fun v15 =>
 ld Tryd.prog h13 129 (nx h5) 0 fun v16 =>
 mup Tryd.prog h13 127 (.map (some (nx h0))) v15 v16 fun h14 =>
 ld Tryd.prog h14 3 (nx h9) 0 fun v17 =>
 asI .i64 v17 fun n9 =>
 nil v0 (
 asP v0 fun b8 b9 =>
 ld Tryd.prog h14 3 b8 (off b9 2) fun v18 =>
 asI .i64 v18 fun n10 =>
 ifB (eq n9 n10) (
 ld Tryd.prog h14 129 (nx h1) 0 fun v19 =>
 ld Tryd.prog h14 129 (nx h9) 0 fun v20 =>
 calls rec h14 114 [v0, (.map (some (nx h0))), v19, v20] fun _ h15 =>
 out .ret [(.bool true), gv ws1 1, gv ws1 2] h15) (
 ld Tryd.prog h14 129 (nx h9) 0 fun v22 =>
 bls Tryd.prog h14 130 1 [(0, v22)] fun v23 h16 =>
 app Tryd.prog h16 130 130 (gv ws1 1) v23 fun v24 h17 =>
 asI .i64 (gv ws1 2) fun n11 =>
 out .normal [gv ws1 0, v24, (.int .i64 (add .i64 n11 1))] h17)))))) (
 out (.exit 2) [gv ws1 0, gv ws1 1, gv ws1 2] h9)
noncomputable def f101_l1 (rec : Rec) (k : Nat) (v0 : Value) (h0 : H) (h1 : H) (ws0 : List Value) (h5 : H) : Option (Ex × List Value × H) :=
 len (gv ws0 1) fun n1 =>
 ifB (lt 0 n1) (
 six (gv ws0 1) 0 2 fun b2 b3 =>
 ld Tryd.prog h5 129 b2 b3 fun v5 =>
 al h5 129 [(.int .i64 0), (.bool false)] fun h6 =>
 st Tryd.prog h6 129 (nx h5) 0 v5 fun h7 =>
 ld Tryd.prog h7 129 (nx h5) 0 fun v6 =>
 calls rec h7 113 [v0, v6] fun v7 h8 =>
 len v7 fun n2 =>
 lp k (f101_l2 rec k v0 h0 h1 h5 v7 n2) [gv ws0 0, gv ws0 1, (.int .i64 0)] h8 fun e0 ws2 h18 =>
 onE e0 2 (
 sli Tryd.prog h18 130 (gv ws2 1) (some (.int .i64 1)) none none fun v25 =>
 out .normal [gv ws2 0, v25] h18) (
 onR e0 (
 out .ret [gv ws2 0, gv ws2 1] h18))) (
 out (.exit 0) [gv ws0 0, gv ws0 1] h5)
noncomputable def f101 (rec : Rec) (k : Nat) (v0 : Value) (h0 : H) : Option (Value × H) :=
 mkm h0 fun h1 =>
 nil v0 (
 asP v0 fun b0 b1 =>
 ld Tryd.prog h1 3 b0 (off b1 1) fun v1 =>
 asI .i64 v1 fun n0 =>
 bld Tryd.prog 129 [(0, (.int .i64 n0)), (1, (.bool true))] fun v2 =>
 al h1 129 [(.int .i64 0), (.bool false)] fun h2 =>
 st Tryd.prog h2 129 (nx h1) 0 v2 fun h3 =>
 ld Tryd.prog h3 129 (nx h1) 0 fun v3 =>
 bls Tryd.prog h3 130 1 [(0, v3)] fun v4 h4 =>
 lp k (f101_l1 rec k v0 h0 h1) [(.bool false), v4] h4 fun e1 ws3 h19 =>
 onE e1 0 (
 some ((.bool false), h19)) (
 onR e1 (
 some (gv ws3 0, h19))))
theorem e101 (rec : Rec) (k : Nat) (v0 : Value) (h : H) : bodyT Tryd.prog E0 SC (XC Tryd.prog rec k) 101 (Value × H) [.opq v0] h (fun v h => some (v, h)) = f101 rec k v0 h := by kernel_rfl
noncomputable def f16_l2 (rec : Rec) (_k : Nat) (v0 : Value) (n11 : Int) (v18 : Value) (n19 : Int) (ws1 : List Value) (h12 : H) : Option (Ex × List Value × H) :=
 asI .i64 (gv ws1 2) fun n20 =>
 ifB (lt n20 n19) (
 asK (gv ws1 2) fun n21 =>
 six v18 n21 1 fun b4 b5 =>
 ld Tryd.prog h12 3 b4 b5 fun v19 =>
 asI .i64 v19 fun n22 =>
 calls rec h12 38 [v0, (.int .i64 n22)] fun v20 h13 =>
 asB v20 fun q2 =>
 ifB (not q2) (
 out .ret [(.bool false), gv ws1 1, gv ws1 2] h13) (
 nn n22 (
 asI .i64 (gv ws1 1) fun n23 =>
 asI .i64 (gv ws1 2) fun n24 =>
 out .normal [gv ws1 0, (.int .i64 (add .i64 n23 (and .i64 (shr .i64 n11 n22) 1))), (.int .i64 (add .i64 n24 1))] h13))) (
 out (.exit 2) [gv ws1 0, gv ws1 1, gv ws1 2] h12)
noncomputable def f16_l1 (rec : Rec) (k : Nat) (v0 : Value) (v3 : Value) (n11 : Int) (n16 : Int) (ws0 : List Value) (h11 : H) : Option (Ex × List Value × H) :=
 asI .i64 (gv ws0 1) fun n17 =>
 ifB (lt n17 n16) (
 asK (gv ws0 1) fun n18 =>
 six v3 n18 1 fun b2 b3 =>
 ld Tryd.prog h11 22 b2 b3 fun v18 =>
 len v18 fun n19 =>
 lp k (f16_l2 rec k v0 n11 v18 n19) [gv ws0 0, (.int .i64 0), (.int .i64 0)] h11 fun e0 ws2 h14 =>
 onE e0 2 (
 asI .i64 (gv ws2 1) fun n25 =>
 ifB (not (eq n25 1)) (
 out .ret [(.bool false), gv ws0 1] h14) (
 asI .i64 (gv ws0 1) fun n26 =>
 out .normal [gv ws2 0, (.int .i64 (add .i64 n26 1))] h14)) (
 onR e0 (
 out .ret [gv ws2 0, gv ws0 1] h14))) (
 out (.exit 0) [gv ws0 0, gv ws0 1] h11)
noncomputable def f16_l4 (rec : Rec) (_k : Nat) (v0 : Value) (n28 : Int) (v29 : Value) (n36 : Int) (ws5 : List Value) (h22 : H) : Option (Ex × List Value × H) :=
 asI .i64 (gv ws5 2) fun n37 =>
 ifB (lt n37 n36) (
 asK (gv ws5 2) fun n38 =>
 six v29 n38 1 fun b10 b11 =>
 ld Tryd.prog h22 3 b10 b11 fun v30 =>
 asI .i64 v30 fun n39 =>
 calls rec h22 38 [v0, (.int .i64 n39)] fun v31 h23 =>
 asB v31 fun q5 =>
 ifB (not q5) (
 out .ret [(.bool false), gv ws5 1, gv ws5 2] h23) (
 nn n39 (
 asI .i64 (gv ws5 1) fun n40 =>
 asI .i64 (gv ws5 2) fun n41 =>
 out .normal [gv ws5 0, (.int .i64 (add .i64 n40 (and .i64 (shr .i64 n28 n39) 1))), (.int .i64 (add .i64 n41 1))] h23))) (
 out (.exit 2) [gv ws5 0, gv ws5 1, gv ws5 2] h22)
noncomputable def f16_l3 (rec : Rec) (k : Nat) (v0 : Value) (v3 : Value) (n28 : Int) (n33 : Int) (ws4 : List Value) (h21 : H) : Option (Ex × List Value × H) :=
 asI .i64 (gv ws4 1) fun n34 =>
 ifB (lt n34 n33) (
 asK (gv ws4 1) fun n35 =>
 six v3 n35 1 fun b8 b9 =>
 ld Tryd.prog h21 22 b8 b9 fun v29 =>
 len v29 fun n36 =>
 lp k (f16_l4 rec k v0 n28 v29 n36) [gv ws4 0, (.int .i64 0), (.int .i64 0)] h21 fun e2 ws6 h24 =>
 onE e2 2 (
 asI .i64 (gv ws6 1) fun n42 =>
 ifB (not (eq n42 1)) (
 out .ret [(.bool false), gv ws4 1] h24) (
 asI .i64 (gv ws4 1) fun n43 =>
 out .normal [gv ws6 0, (.int .i64 (add .i64 n43 1))] h24)) (
 onR e2 (
 out .ret [gv ws6 0, gv ws4 1] h24))) (
 out (.exit 0) [gv ws4 0, gv ws4 1] h21)
noncomputable def f16_l6 (rec : Rec) (_k : Nat) (v0 : Value) (n45 : Int) (v40 : Value) (n53 : Int) (ws9 : List Value) (h32 : H) : Option (Ex × List Value × H) :=
 asI .i64 (gv ws9 2) fun n54 =>
 ifB (lt n54 n53) (
 asK (gv ws9 2) fun n55 =>
 six v40 n55 1 fun b16 b17 =>
 ld Tryd.prog h32 3 b16 b17 fun v41 =>
 asI .i64 v41 fun n56 =>
 calls rec h32 38 [v0, (.int .i64 n56)] fun v42 h33 =>
 asB v42 fun q8 =>
 ifB (not q8) (
 out .ret [(.bool false), gv ws9 1, gv ws9 2] h33) (
 nn n56 (
 asI .i64 (gv ws9 1) fun n57 =>
 asI .i64 (gv ws9 2) fun n58 =>
 out .normal [gv ws9 0, (.int .i64 (add .i64 n57 (and .i64 (shr .i64 n45 n56) 1))), (.int .i64 (add .i64 n58 1))] h33))) (
 out (.exit 2) [gv ws9 0, gv ws9 1, gv ws9 2] h32)
noncomputable def f16_l5 (rec : Rec) (k : Nat) (v0 : Value) (v3 : Value) (n45 : Int) (n50 : Int) (ws8 : List Value) (h31 : H) : Option (Ex × List Value × H) :=
 asI .i64 (gv ws8 1) fun n51 =>
 ifB (lt n51 n50) (
 asK (gv ws8 1) fun n52 =>
 six v3 n52 1 fun b14 b15 =>
 ld Tryd.prog h31 22 b14 b15 fun v40 =>
 len v40 fun n53 =>
 lp k (f16_l6 rec k v0 n45 v40 n53) [gv ws8 0, (.int .i64 0), (.int .i64 0)] h31 fun e4 ws10 h34 =>
 onE e4 2 (
 asI .i64 (gv ws10 1) fun n59 =>
 ifB (not (eq n59 1)) (
 out .ret [(.bool false), gv ws8 1] h34) (
 asI .i64 (gv ws8 1) fun n60 =>
 out .normal [gv ws10 0, (.int .i64 (add .i64 n60 1))] h34)) (
 onR e4 (
 out .ret [gv ws10 0, gv ws8 1] h34))) (
 out (.exit 0) [gv ws8 0, gv ws8 1] h31)
noncomputable def f16_l8 (rec : Rec) (_k : Nat) (v0 : Value) (n62 : Int) (v51 : Value) (n70 : Int) (ws13 : List Value) (h42 : H) : Option (Ex × List Value × H) :=
 asI .i64 (gv ws13 2) fun n71 =>
 ifB (lt n71 n70) (
 asK (gv ws13 2) fun n72 =>
 six v51 n72 1 fun b22 b23 =>
 ld Tryd.prog h42 3 b22 b23 fun v52 =>
 asI .i64 v52 fun n73 =>
 calls rec h42 38 [v0, (.int .i64 n73)] fun v53 h43 =>
 asB v53 fun q11 =>
 ifB (not q11) (
 out .ret [(.bool false), gv ws13 1, gv ws13 2] h43) (
 nn n73 (
 asI .i64 (gv ws13 1) fun n74 =>
 asI .i64 (gv ws13 2) fun n75 =>
 out .normal [gv ws13 0, (.int .i64 (add .i64 n74 (and .i64 (shr .i64 n62 n73) 1))), (.int .i64 (add .i64 n75 1))] h43))) (
 out (.exit 2) [gv ws13 0, gv ws13 1, gv ws13 2] h42)
noncomputable def f16_l7 (rec : Rec) (k : Nat) (v0 : Value) (v3 : Value) (n62 : Int) (n67 : Int) (ws12 : List Value) (h41 : H) : Option (Ex × List Value × H) :=
 asI .i64 (gv ws12 1) fun n68 =>
 ifB (lt n68 n67) (
 asK (gv ws12 1) fun n69 =>
 six v3 n69 1 fun b20 b21 =>
 ld Tryd.prog h41 22 b20 b21 fun v51 =>
 len v51 fun n70 =>
 lp k (f16_l8 rec k v0 n62 v51 n70) [gv ws12 0, (.int .i64 0), (.int .i64 0)] h41 fun e6 ws14 h44 =>
 onE e6 2 (
 asI .i64 (gv ws14 1) fun n76 =>
 ifB (not (eq n76 1)) (
 out .ret [(.bool false), gv ws12 1] h44) (
 asI .i64 (gv ws12 1) fun n77 =>
 out .normal [gv ws14 0, (.int .i64 (add .i64 n77 1))] h44)) (
 onR e6 (
 out .ret [gv ws14 0, gv ws12 1] h44))) (
 out (.exit 0) [gv ws12 0, gv ws12 1] h41)
noncomputable def f16 (rec : Rec) (k : Nat) (v0 : Value) (n0 : Int) (n1 : Int) (h0 : H) : Option (Value × H) :=
 calls rec h0 18 [v0] fun v1 h1 =>
 calls rec h1 58 [v1, (.int .i64 n0), (.int .i64 n1)] fun v2 h2 =>
 ext v2 0 fun v3 =>
 ext v2 1 fun v4 =>
 asI .i64 v4 fun n2 =>
 ifB (not (eq n2 0)) (
 ifB (eq n2 2) (
 calls rec h2 20 [] fun v5 h3 =>
 asB v5 fun q0 =>
 some ((.bool q0), h3)) (
 some ((.bool false), h2))) (
 calls rec h2 18 [v0] fun v6 h4 =>
 calls rec h4 24 [v6] fun v7 h5 =>
 ext v7 0 fun v8 =>
 asI .i64 v8 fun n3 =>
 ext v7 1 fun v9 =>
 asI .i64 v9 fun n4 =>
 ifB (not (eq n4 0)) (
 some ((.bool false), h5)) (
 ifB (eq n3 0) (
 len v0 fun n5 =>
 ifB (le 3 n5) (
 len v0 fun n6 =>
 nn n6 (
 calls rec h5 33 [v0, (.int .i64 (sub .i64 (shl .i64 1 n6) 1)), (.int .i64 0)] fun v10 h6 =>
 asI .i64 v10 fun n7 =>
 len v0 fun n8 =>
 nn n8 (
 ifB (eq n7 (sub .i64 (shl .i64 1 n8) 1)) (
 len v3 fun n9 =>
 ifB (lt n9 2) (
 some ((.bool false), h6)) (
 six v0 n0 1 fun b0 b1 =>
 ld Tryd.prog h6 3 b0 b1 fun v11 =>
 asI .i64 v11 fun n10 =>
 nn n1 (
 ifB (eq (and .i64 (shr .i64 n10 n1) 1) 1) (
 calls rec h6 20 [] fun v12 h7 =>
 asB v12 fun q1 =>
 some ((.bool q1), h7)) (
 calls rec h6 18 [v0] fun v13 h8 =>
 calls rec h8 59 [v13, (.int .i64 n0), (.int .i64 n1)] fun v14 h9 =>
 ext v14 0 fun v15 =>
 asI .i64 v15 fun n11 =>
 ext v14 1 fun v16 =>
 asI .i64 v16 fun n12 =>
 ifB (not (eq n12 0)) (
 some ((.bool false), h9)) (
 ifB (lt n11 0) (
 some ((.bool false), h9)) (
 len v0 fun n13 =>
 nn n13 (
 ifB (le (shl .i64 1 n13) n11) (
 some ((.bool false), h9)) (
 calls rec h9 43 [(.int .i64 n11)] fun v17 h10 =>
 asI .i64 v17 fun n14 =>
 len v3 fun n15 =>
 ifB (not (eq n14 n15)) (
 some ((.bool false), h10)) (
 len v3 fun n16 =>
 lp k (f16_l1 rec k v0 v3 n11 n16) [(.bool false), (.int .i64 0)] h10 fun e1 ws3 h15 =>
 onE e1 0 (
 calls rec h15 20 [] fun v21 h16 =>
 asB v21 fun q3 =>
 some ((.bool q3), h16)) (
 onR e1 (
 some (gv ws3 0, h15)))))))))))) (
 six v0 n0 1 fun b6 b7 =>
 ld Tryd.prog h6 3 b6 b7 fun v22 =>
 asI .i64 v22 fun n27 =>
 nn n1 (
 ifB (eq (and .i64 (shr .i64 n27 n1) 1) 1) (
 calls rec h6 20 [] fun v23 h17 =>
 asB v23 fun q4 =>
 some ((.bool q4), h17)) (
 calls rec h6 18 [v0] fun v24 h18 =>
 calls rec h18 59 [v24, (.int .i64 n0), (.int .i64 n1)] fun v25 h19 =>
 ext v25 0 fun v26 =>
 asI .i64 v26 fun n28 =>
 ext v25 1 fun v27 =>
 asI .i64 v27 fun n29 =>
 ifB (not (eq n29 0)) (
 some ((.bool false), h19)) (
 ifB (lt n28 0) (
 some ((.bool false), h19)) (
 len v0 fun n30 =>
 nn n30 (
 ifB (le (shl .i64 1 n30) n28) (
 some ((.bool false), h19)) (
 calls rec h19 43 [(.int .i64 n28)] fun v28 h20 =>
 asI .i64 v28 fun n31 =>
 len v3 fun n32 =>
 ifB (not (eq n31 n32)) (
 some ((.bool false), h20)) (
 len v3 fun n33 =>
 lp k (f16_l3 rec k v0 v3 n28 n33) [(.bool false), (.int .i64 0)] h20 fun e3 ws7 h25 =>
 onE e3 0 (
 calls rec h25 20 [] fun v32 h26 =>
 asB v32 fun q6 =>
 some ((.bool q6), h26)) (
 onR e3 (
 some (gv ws7 0, h25)))))))))))))) (
 six v0 n0 1 fun b12 b13 =>
 ld Tryd.prog h5 3 b12 b13 fun v33 =>
 asI .i64 v33 fun n44 =>
 nn n1 (
 ifB (eq (and .i64 (shr .i64 n44 n1) 1) 1) (
 calls rec h5 20 [] fun v34 h27 =>
 asB v34 fun q7 =>
 some ((.bool q7), h27)) (
 calls rec h5 18 [v0] fun v35 h28 =>
 calls rec h28 59 [v35, (.int .i64 n0), (.int .i64 n1)] fun v36 h29 =>
 ext v36 0 fun v37 =>
 asI .i64 v37 fun n45 =>
 ext v36 1 fun v38 =>
 asI .i64 v38 fun n46 =>
 ifB (not (eq n46 0)) (
 some ((.bool false), h29)) (
 ifB (lt n45 0) (
 some ((.bool false), h29)) (
 len v0 fun n47 =>
 nn n47 (
 ifB (le (shl .i64 1 n47) n45) (
 some ((.bool false), h29)) (
 calls rec h29 43 [(.int .i64 n45)] fun v39 h30 =>
 asI .i64 v39 fun n48 =>
 len v3 fun n49 =>
 ifB (not (eq n48 n49)) (
 some ((.bool false), h30)) (
 len v3 fun n50 =>
 lp k (f16_l5 rec k v0 v3 n45 n50) [(.bool false), (.int .i64 0)] h30 fun e5 ws11 h35 =>
 onE e5 0 (
 calls rec h35 20 [] fun v43 h36 =>
 asB v43 fun q9 =>
 some ((.bool q9), h36)) (
 onR e5 (
 some (gv ws11 0, h35)))))))))))) (
 six v0 n0 1 fun b18 b19 =>
 ld Tryd.prog h5 3 b18 b19 fun v44 =>
 asI .i64 v44 fun n61 =>
 nn n1 (
 ifB (eq (and .i64 (shr .i64 n61 n1) 1) 1) (
 calls rec h5 20 [] fun v45 h37 =>
 asB v45 fun q10 =>
 some ((.bool q10), h37)) (
 calls rec h5 18 [v0] fun v46 h38 =>
 calls rec h38 59 [v46, (.int .i64 n0), (.int .i64 n1)] fun v47 h39 =>
 ext v47 0 fun v48 =>
 asI .i64 v48 fun n62 =>
 ext v47 1 fun v49 =>
 asI .i64 v49 fun n63 =>
 ifB (not (eq n63 0)) (
 some ((.bool false), h39)) (
 ifB (lt n62 0) (
 some ((.bool false), h39)) (
 len v0 fun n64 =>
 nn n64 (
 ifB (le (shl .i64 1 n64) n62) (
 some ((.bool false), h39)) (
 calls rec h39 43 [(.int .i64 n62)] fun v50 h40 =>
 asI .i64 v50 fun n65 =>
 len v3 fun n66 =>
 ifB (not (eq n65 n66)) (
 some ((.bool false), h40)) (
 len v3 fun n67 =>
 lp k (f16_l7 rec k v0 v3 n62 n67) [(.bool false), (.int .i64 0)] h40 fun e7 ws15 h45 =>
 onE e7 0 (
 calls rec h45 20 [] fun v54 h46 =>
 asB v54 fun q12 =>
 some ((.bool q12), h46)) (
 onR e7 (
 some (gv ws15 0, h45)))))))))))))
theorem e16 (rec : Rec) (k : Nat) (v0 : Value) (n0 : Int) (n1 : Int) (h : H) : bodyT Tryd.prog E0 SC (XC Tryd.prog rec k) 16 (Value × H) [.opq v0, .int .i64 n0, .int .i64 n1] h (fun v h => some (v, h)) = f16 rec k v0 n0 n1 h := by kernel_rfl
end Go.AM
end

section
namespace Go.AM
/-- A slice that was made by a literal or by pushing, and popped at its front. -/
inductive QlR (lo : Nat) (h : H) (e : TypeId) (s : Nat) : Value → List (List Value) → Prop
  | at_ {b c : Nat} {l : List (List Value)} {pre : List Value} (hlo : lo ≤ b) (hb : b < h.nx) (hr : h.blk b = some (.row (pre ++ l.flatten) e true)) (hx : ∀ x ∈ l, x.length = s) (hm : l.length < 2 ^ 30) (hc : c = U + l.length ∨ c = l.length) :
      QlR lo h e s (.slice (some ⟨b, pre.length, none⟩) l.length c) l
theorem QlR.blkOf {lo : Nat} {h : H} {e : TypeId} {s : Nat} {v : Value} {l : List (List Value)} (a : QlR lo h e s v l) : ∃ b, AM.blkOf v = some b ∧ lo ≤ b ∧ b < h.nx ∧ ∃ cs, h.blk b = some (.row cs e true) := by
  cases a with
  | @at_ b _ _ _ hlo hb' hr hx hm => exact ⟨b, rfl, hlo, hb', _, hr⟩
theorem QlR.keep {lo : Nat} {h h' : H} {e : TypeId} {s : Nat} {v : Value} {l : List (List Value)} (a : QlR lo h e s v l) (hn : h.nx ≤ h'.nx) (hb : ∀ b, AM.blkOf v = some b → h'.blk b = h.blk b) : QlR lo h' e s v l := by
  cases a with
  | at_ hlo hb' hr hx hm hc => exact .at_ hlo (Nat.lt_of_lt_of_le hb' hn) ((hb _ rfl).trans hr) hx hm hc
theorem QlR.slR {lo : Nat} {h : H} {e : TypeId} {s : Nat} {v : Value} {l : List (List Value)} (a : QlR lo h e s v l) : SlR h e s v l := by
  cases a with
  | @at_ b c l pre hlo hb hr hx hm hc =>
    have h30 : (2:Nat) ^ 30 < U := by decide
    have hk : capK c = l.length := by
      rcases hc with rfl | rfl
      · exact capK_U _
      · unfold capK; rw [if_pos (by omega)]
    refine .at_ hb hr (by omega) (by omega) (by rw [List.length_append, flatten_len hx]; omega) fun i x hi => ⟨hx x (List.mem_of_getElem? hi), fun j hj => ?_⟩
    rw [Nat.add_assoc, List.getElem?_append_right (by omega), Nat.add_sub_cancel_left]
    exact flatten_get hx i x hi j hj
theorem QlR.lit {lo : Nat} {h : H} {e : TypeId} {s : Nat} {x : List Value} (hlo : lo ≤ h.nx) (hx : x.length = s) : QlR lo (h.new (.row x e true)) e s (.slice (some ⟨h.nx, 0, none⟩) 1 1) [x] :=
  QlR.at_ (l := [x]) (pre := []) hlo (Nat.lt_succ_self _) (by rw [blk_new_self]; simp) (by simp [hx]) (by simp) (.inr rfl)
theorem QlR.push {P : Program} {lo : Nat} {h : H} {e t t' t2 : TypeId} {s : Nat} {v xv : Value} {l : List (List Value)} {x : List Value} (a : QlR lo h e s v l) (ht : okApp P t e s = true) (ht' : okApp P t' e s = true)
    (hb : ∀ h : H, buildSlice P t2 1 [(0, xv)] h = some (.slice (some ⟨h.nx, 0, none⟩) 1 1, h.new (.row x e true))) (hx : x.length = s) (hsc : x.all scal = true) (hm : l.length + 1 < 2 ^ 30) (hlo : lo ≤ h.nx) :
    ∃ v' h', (∀ {R : Type} (K : Value → H → Option R), (bls P h t2 1 [(0, xv)] fun y h2 => AM.app P h2 t t' v y K) = K v' h') ∧ QlR lo h' e s v' (l ++ [x]) ∧ h.nx ≤ h'.nx ∧
      (∀ b, b < h.nx → AM.blkOf v ≠ some b → h'.blk b = h.blk b) ∧ ∃ b', AM.blkOf v' = some b' ∧ h.nx ≤ b' := by
  obtain ⟨i, z, h1, h2, h3, h4, h5, h6, h7⟩ := okApp_spec ht
  obtain ⟨_, _, h1', _⟩ := okApp_spec ht'
  have x0 := Ext.new h (.row x e true)
  have hsrc : srcCells s (.slice (some ⟨h.nx, 0, none⟩) 1 1) (h.new (.row x e true)) = some x := by
    simp only [srcCells, Nat.one_mul]
    rw [if_neg (by omega)]
    simp only [H.rd, blk_new_self]
    rw [if_pos (by omega)]
    simp [List.take_of_length_le (Nat.le_of_eq hx)]
  have hlen : lenOf (.slice (some ⟨h.nx, 0, none⟩) 1 1) = some 1 := rfl
  have h30 : (2:Nat) ^ 30 < U := by decide
  have fresh : ∀ (g : H) (old : List (List Value)), g.nx = h.nx + 1 → (∀ y ∈ old, y.length = s) → old.length + 1 < 2 ^ 30 →
      QlR lo (g.new (.row (old.flatten ++ x) e true)) e s (.slice (some ⟨h.nx + 1, 0, none⟩) (old.length + 1) (U + (old.length + 1))) (old ++ [x]) := by
    intro g old hg hox hom
    have := QlR.at_ (lo := lo) (h := g.new (.row (old.flatten ++ x) e true)) (e := e) (s := s) (b := h.nx + 1) (c := U + (old ++ [x]).length) (l := old ++ [x]) (pre := []) (by omega) (by rw [nx_new]; omega)
      (by rw [blk_new_at _ _ hg.symm]; simp) (by
      intro y hy
      rcases List.mem_append.1 hy with hy | hy
      · exact hox y hy
      · simp at hy; rw [hy]; exact hx) (by simpa using hom) (.inl rfl)
    rw [List.length_append] at this
    exact this
  cases a with
  | @at_ b c l pre hlob hb' hr hxl hm' hc =>
    have hr1 := (x0.blk _ hb').trans hr
    rcases hc with rfl | rfl
    · refine ⟨.slice (some ⟨h.nx + 1, 0, none⟩) (l.length + 1) (U + (l.length + 1)), ((h.new (.row x e true)).kill b).new (.row (l.flatten ++ x) e true), fun K => ?_, fresh _ l rfl hxl hm, by simp only [nx_new, nx_kill]; omega, fun b' hb'' hne => ?_, h.nx + 1, rfl, by omega⟩
      · rw [bls_some (hb h)]
        unfold AM.app append
        simp only [h1, h1', h2, h3, hlen, h4, hsrc, Option.bind_some]
        rw [if_pos ⟨h5, h6, h7⟩]
        simp only [capK_U]
        rw [if_neg (by omega), if_neg (by omega), if_pos hm, if_neg (by omega)]
        simp only [hr1, h4]
        rw [if_pos ⟨trivial, by rw [List.length_append, flatten_len hxl]; omega, hsc⟩]
        have : ((pre ++ l.flatten).drop pre.length).take (l.length * s) = l.flatten := by rw [List.drop_left, List.take_of_length_le (by rw [flatten_len hxl]; exact Nat.le_refl _)]
        rw [this]
        rfl
      · have : b' ≠ b := fun e1 => hne (by rw [e1]; rfl)
        rw [blk_new_ne _ _ (by rw [nx_kill, nx_new]; omega), blk_kill_ne _ _ this, blk_new_ne _ _ (by omega)]
    · refine ⟨.slice (some ⟨h.nx + 1, 0, none⟩) (l.length + 1) (U + (l.length + 1)), (h.new (.row x e true)).new (.row (l.flatten ++ x) e true), fun K => ?_, fresh _ l rfl hxl hm, by simp only [nx_new]; omega, fun b' hb'' hne => ?_, h.nx + 1, rfl, by omega⟩
      · rw [bls_some (hb h)]
        unfold AM.app append
        simp only [h1, h1', h2, h3, hlen, h4, hsrc, Option.bind_some]
        rw [if_pos ⟨h5, h6, h7⟩]
        have hck : capK l.length = l.length := by unfold capK; rw [if_pos (by omega)]
        simp only [hck]
        rw [if_neg (by omega), if_neg (by omega), if_pos hm, if_pos (by omega)]
        have hrd : (if l.length = 0 then some [] else (h.new (.row x e true)).rd b pre.length (l.length * s)) = some l.flatten := by
          split
          · rename_i h9
            rw [List.eq_nil_of_length_eq_zero h9]
            rfl
          · simp only [H.rd, hr1]
            rw [if_pos (by rw [List.length_append, flatten_len hxl]; omega), List.drop_left, List.take_of_length_le (by rw [flatten_len hxl]; exact Nat.le_refl _)]
        rw [hrd]
        rfl
      · rw [blk_new_ne _ _ (by rw [nx_new]; omega), blk_new_ne _ _ (by omega)]
/-- The first element is left out. -/
theorem QlR.tail {P : Program} {lo : Nat} {h : H} {e t : TypeId} {s : Nat} {v : Value} {l : List (List Value)} {x : List Value} (a : QlR lo h e s v (x :: l)) (hs0 : 0 < s) (hu : P.underlying t = some (.slice e)) (hs : size? P e = some s) :
    ∃ v', (∀ {R : Type} (K : Value → Option R), sli P h t v (some (.int .i64 1)) none none K = K v') ∧ (l ≠ [] → QlR lo h e s v' l) ∧ (l = [] → ∃ b o c, v' = .slice (some ⟨b, o, none⟩) 0 c) ∧ AM.blkOf v' = AM.blkOf v := by
  generalize hL : x :: l = L at a
  cases a with
  | @at_ b c L pre hlo hb hr hx hm hc =>
    subst hL
    have h30 : (2:Nat) ^ 30 < U := by decide
    have hxs : x.length = s := hx x (by simp)
    have hq : ∀ c', (c' = U + l.length ∨ c' = l.length) → QlR lo h e s (.slice (some ⟨b, (pre ++ x).length, none⟩) l.length c') l := fun c' hc' => .at_ hlo hb (by rw [hr]; simp) (fun y hy => hx y (by simp [hy])) (by simp at hm; omega) hc'
    have hlen : (x :: l).length = l.length + 1 := rfl
    rcases hc with rfl | rfl
    · refine ⟨.slice (some ⟨b, (pre ++ x).length, none⟩) l.length (U + l.length), fun K => ?_, fun _ => hq _ (.inl rfl), fun e => ⟨b, _, _, by rw [e]; rfl⟩, rfl⟩
      unfold sli slice
      simp only [hu, hr, capK_U]
      rw [if_pos ⟨trivial, by omega, rfl⟩]
      simp only [hs, Option.bind_some, bound]
      rw [if_pos ⟨by omega, by simp only [List.length_cons]; omega⟩]
      simp only [Option.bind_some, Option.isSome_none, Bool.false_eq_true, false_or]
      rw [if_neg (by omega)]
      simp [hxs]
    · have hck : capK (x :: l).length = (x :: l).length := by unfold capK; rw [if_pos (by omega)]
      by_cases hl : l = []
      · subst hl
        refine ⟨.slice (some ⟨b, pre.length, none⟩) 0 0, fun K => ?_, fun h => absurd rfl h, fun _ => ⟨b, _, _, rfl⟩, rfl⟩
        unfold sli slice
        simp only [hu, hr, hck]
        rw [if_pos ⟨trivial, by omega, rfl⟩]
        simp only [hs, Option.bind_some, bound]
        rw [if_pos ⟨by omega, by simp⟩]
        simp only [Option.bind_some, Option.isSome_none, Bool.false_eq_true, false_or]
        rw [if_pos (by omega)]
        simp
      · refine ⟨.slice (some ⟨b, (pre ++ x).length, none⟩) l.length l.length, fun K => ?_, fun _ => hq _ (.inr rfl), fun e => absurd e hl, rfl⟩
        have : 0 < l.length := List.length_pos_iff.2 hl
        unfold sli slice
        simp only [hu, hr, hck]
        rw [if_pos ⟨trivial, by omega, rfl⟩]
        simp only [hs, Option.bind_some, bound]
        rw [if_pos ⟨by omega, by simp only [List.length_cons]; omega⟩]
        simp only [Option.bind_some, Option.isSome_none, Bool.false_eq_true, false_or]
        rw [if_pos (by omega), if_neg (by simp; omega)]
        simp [hxs]
end Go.AM
end

section
namespace Go.AM
open Go.Proofs
variable {R : Type}
noncomputable def rcA : Rec := over rn 114 g114
theorem rcA_sound (hmix : Tryd.prog.follows .mixedOrders = true) : SoundR Tryd.prog E0 rcA := over_sound (run_sound hmix) fun _ _ _ _ e => (g114_some e).1
theorem rcA_ne {f : FuncId} (h1 : f ≠ 114) {h : H} {xs : List Value} {R : Type} {K : Value → H → Option R} : calls rcA h f xs K = calls rn h f xs K := calls_over h1
section
variable {g : List Nat} {s t lo fb nb bb first : Nat} {tv : Value} {nxt : List Int} {bf : List Value} {h : H}
theorem SrI.lt {F : Nat → Nat → Prop} {kv : List (Spot × Spot)} (r : SrI (adjP g) s F kv) (hg : GrB g) (f : FlW (adjP g) s t F) {y x : Spot} (h : (y, x) ∈ kv) : y.1 < g.length := by
  have ha := (r.mem h).1
  cases ha with
  | back _ _ hp => exact (hg.adj_lt (f.sub _ _ hp)).1
  | fwd _ ha _ _ => exact (hg.adj_lt ha).2
theorem SrI.len {F : Nat → Nat → Prop} {kv : List (Spot × Spot)} (r : SrI (adjP g) s F kv) (hg : GrB g) (f : FlW (adjP g) s t F) : kv.length ≤ 20 := by
  have h1 : (kv.map (·.1)).length ≤ ((List.range g.length).flatMap fun v => [(v, true), (v, false)]).length := by
    refine List.Nodup.length_le_of_subset r.nd fun y hy => ?_
    obtain ⟨p, hp, rfl⟩ := List.mem_map.1 hy
    have := r.lt hg f (y := p.1) (x := p.2) hp
    refine List.mem_flatMap.2 ⟨p.1.1, List.mem_range.2 this, ?_⟩
    obtain ⟨⟨a, b⟩, c⟩ := p
    cases b <;> simp
  have h2 : ((List.range g.length).flatMap fun v => [(v, true), (v, false)]).length = 2 * g.length := by
    rw [List.length_flatMap]
    have : ∀ n, ((List.range n).map fun v => [(v, true), (v, false)].length).sum = 2 * n := by
      intro n
      induction n with
      | zero => rfl
      | succ n ih => rw [List.range_succ, List.map_append, List.sum_append, ih]; simp; omega
    exact this _
  have := hg.len
  rw [List.length_map] at h1
  omega
theorem Rk.lt {F : Nat → Nat → Prop} {kv : List (Spot × Spot)} (r : SrI (adjP g) s F kv) (hg : GrB g) (f : FlW (adjP g) s t F) (hs : s < g.length) {x : Spot} (h : Rk s kv x) : x.1 < g.length := by
  rcases h with h | h
  · rw [h]; exact hs
  · obtain ⟨p, hp, rfl⟩ := List.mem_map.1 h
    exact r.lt hg f (y := p.1) (x := p.2) hp
theorem Rk.push {kv : List (Spot × Spot)} {x y z : Spot} (h : Rk s kv z) : Rk s (kv ++ [(y, x)]) z := h.imp id fun h => by rw [List.map_append]; exact List.mem_append.2 (.inl h)
theorem Rk.new (kv : List (Spot × Spot)) (x y : Spot) : Rk s (kv ++ [(y, x)]) y := .inr (by rw [List.map_append]; exact List.mem_append.2 (.inr (by simp)))
theorem Rk.of_push {kv : List (Spot × Spot)} {x y z : Spot} (h : Rk s (kv ++ [(y, x)]) z) : Rk s kv z ∨ z = y := by
  rcases h with h | h
  · exact .inl (.inl h)
  · rw [List.map_append, List.mem_append] at h
    rcases h with h | h
    · exact .inl (.inr h)
    · exact .inr (by simpa using h)
/-- The search, as_ far as_ it has come. -/
structure GrS (g : List Nat) (s t first : Nat) (nxt : List Int) (h : H) (kv : List (Spot × Spot)) (Q : List Spot) (g9 : H) : Prop where
  ext : Ext h g9
  m : g9.blk h.nx = some (mpOf spV (kvV kv))
  sb : g9.blk (h.nx + 1) = some (.row (spC (s, true)) 129 true)
  lt : h.nx + 1 < g9.nx
  r : SrI (adjP g) s (flS s first nxt) kv
  nt : ∀ p ∈ kv, p.1.1 ≠ t
  qr : ∀ z ∈ Q, Rk s kv z
  cl : ∀ z, Rk s kv z → z ∉ Q → ∀ y, Ahead (adjP g) s (flS s first nxt) z y → y.1 ≠ s → Rk s kv y
theorem GrS.keep {kv : List (Spot × Spot)} {Q : List Spot} {g9 g' : H} (a : GrS g s t first nxt h kv Q g9) (n : g9.nx ≤ g'.nx) (f : ∀ b, b < h.nx + 2 → g'.blk b = g9.blk b) : GrS g s t first nxt h kv Q g' := by
  have := a.lt
  exact ⟨⟨by have := a.ext.nx; omega, fun b hb => (f b (by omega)).trans (a.ext.blk b hb)⟩, (f _ (by omega)).trans a.m, (f _ (by omega)).trans a.sb, by omega, a.r, a.nt, a.qr, a.cl⟩
theorem lookK_kvV {kv : List (Spot × Spot)} {y : Spot} : y ∈ kv.map (·.1) ↔ (valK (kvV kv) y).isSome = true := by
  have key : ∀ (kv : List (Spot × Spot)) (i : Nat), y ∈ kv.map (·.1) ↔ ((lookK (kvV kv) y i).map (·.2)).isSome = true := by
    intro kv
    induction kv with
    | nil => intro i; simp [kvV, lookK]
    | cons p kv ih =>
      intro i
      show _ ↔ ((if y = p.1 then some (i, spV p.2) else lookK (kvV kv) y (i + 1)).map (·.2)).isSome = true
      rw [List.map_cons, List.mem_cons]
      by_cases h : y = p.1
      · rw [if_pos h]; simp [h]
      · rw [if_neg h, ← ih (i + 1)]; simp [h]
  exact key kv 0
theorem valK_sp {kv : List (Spot × Spot)} {y : Spot} {v : Value} (h : valK (kvV kv) y = some v) : ∃ z, v = spV z := by
  have key : ∀ (kv : List (Spot × Spot)) (i : Nat), (lookK (kvV kv) y i).map (·.2) = some v → ∃ z, v = spV z := by
    intro kv
    induction kv with
    | nil => intro i h; simp [kvV, lookK] at h
    | cons p kv ih =>
      intro i h
      replace h : (if y = p.1 then some (i, spV p.2) else lookK (kvV kv) y (i + 1)).map (·.2) = some v := h
      by_cases e : y = p.1
      · rw [if_pos e] at h; cases h; exact ⟨_, rfl⟩
      · rw [if_neg e] at h; exact ih (i + 1) h
  exact key kv 0 h
theorem putK_new {kv : List (Spot × Spot)} {y x : Spot} (h : y ∉ kv.map (·.1)) : putK (kvV kv) y (spV x) = kvV (kv ++ [(y, x)]) := by
  have h1 : lookK (kvV kv) y 0 = none := by
    rw [lookK_kvV] at h
    unfold valK at h
    cases hl : lookK (kvV kv) y 0 with
    | none => rfl
    | some r => rw [hl] at h; simp at h
  unfold putK
  rw [h1]
  unfold kvV
  rw [List.map_append]
  rfl
end
end Go.AM
end

section
namespace Go.AM
open Go.Proofs
variable {R : Type}
section
variable {g : List Nat} {s t lo fb nb bb first : Nat} {tv : Value} {nxt : List Int} {bf : List Value} {h : H}
/-- The state of the inner loop. -/
structure GrI (g : List Nat) (s t first : Nat) (nxt : List Int) (h : H) (x : Spot) (xb : Nat) (v7 : Value) (l : List Spot) (c : Nat) (kv : List (Spot × Spot)) (Q : List Spot) (qv : Value) (i : Nat) (g9 : H) : Prop where
  gr : GrS g s t first nxt h kv (x :: Q) g9
  xbk : g9.blk xb = some (.row (spC x) 129 true)
  xlt : h.nx + 2 ≤ xb ∧ xb < g9.nx
  v7s : SlR g9 129 2 v7 (cellsS l)
  q : QlR (h.nx + 2) g9 129 2 qv (cellsS (x :: Q))
  qn : ∀ b, blkOf qv = some b → b ≠ xb ∧ blkOf v7 ≠ some b
  done : ∀ y ∈ l.take i, y.1 = s ∨ Rk s kv y
  cnt : Q.length + c = kv.length
theorem GrI.var {x : Spot} {xb : Nat} {v7 : Value} {l : List Spot} {c i j : Nat} {kv : List (Spot × Spot)} {Q : List Spot} {qv : Value} {g9 g' : H} (a : GrI g s t first nxt h x xb v7 l c kv Q qv i g9) (e : Ext g9 g') (hd : ∀ y ∈ l.take j, y.1 = s ∨ Rk s kv y) : GrI g s t first nxt h x xb v7 l c kv Q qv j g' := by
  have := a.gr.lt
  have := e.nx
  exact ⟨a.gr.keep e.nx fun b hb => e.blk b (by omega), (e.blk _ a.xlt.2).trans a.xbk, ⟨a.xlt.1, by have := a.xlt.2; omega⟩, a.v7s.ext e, a.q.keep e.nx fun b hb => e.blk b (by
    obtain ⟨b', h1, _, h2, _⟩ := a.q.blkOf
    rw [h1] at hb; cases hb; exact h2), a.qn, hd, a.cnt⟩
set_option maxHeartbeats 1000000 in
theorem gr_l2 (hmix : Tryd.prog.follows .mixedOrders = true) (a : FlH g s t lo tv fb nb bb first nxt bf h) (w : StW g s t first nxt bf) (hg : GrN g) (hs : s < g.length) (ht : t < g.length) (hst : s ≠ t) {x : Spot} {v7 : Value} {c : Nat} {h1 h5 : H} (hn1 : h1.nx = h.nx + 1)
    {kv : List (Spot × Spot)} {Q : List Spot} {qv : Value} {h8 : H} (a0 : GrI g s t first nxt h x h5.nx v7 (aheadL g s first nxt x) c kv Q qv 0 h8) :
    ∃ e ws' g', lpGo (f101_l2 rcA 100 (pt fb 0) h h1 h5 v7 ((aheadL g s first nxt x).length : Nat)) 100 [.bool false, qv, iv 0] h8 = some (e, ws', g') ∧
      ((e = .exit 2 ∧ ∃ kv Q qv w3, ws' = [.bool false, qv, w3] ∧ GrI g s t first nxt h x h5.nx v7 (aheadL g s first nxt x) c kv Q qv (aheadL g s first nxt x).length g') ∨
       (e = .ret ∧ ∃ w2 w3 hx, ws' = [.bool true, w2, w3] ∧ Ext h hx ∧ PostA g s t lo tv fb nb bb first hx g')) := by
  have hlen := hg.len
  have hel : (aheadL g s first nxt x).length ≤ 11 := by
    have h1 : (fwdL g s first nxt x.1).length ≤ 10 := by
      unfold fwdL
      rw [List.length_map]
      refine Nat.le_trans (List.length_filter_le ..) ?_
      rw [elts_len]
      exact pop_le_n (n := 10) (Nat.le_refl _) (Nat.lt_of_lt_of_le (hg.nb_lt _) hg.pow)
    unfold aheadL
    split
    · split
      · simp only [List.length_cons]; omega
      · simp
    · omega
  have hah : ∀ y ∈ aheadL g s first nxt x, Ahead (adjP g) s (flS s first nxt) x y := fun y hy => (w.ahead hg.toGrB).1 hy
  generalize hl : aheadL g s first nxt x = l at a0 hel hah ⊢
  refine lp_range (F := f101_l2 rcA 100 (pt fb 0) h h1 h5 v7 (l.length : Nat)) (k := 100) (n := l.length)
    (fun i ws g9 => ∃ kv Q qv, ws = [.bool false, qv, iv i] ∧ GrI g s t first nxt h x h5.nx v7 l c kv Q qv i g9) _ ?_ ?_ (by omega) ⟨kv, Q, qv, rfl, a0⟩
  · rintro i ws g9 hi ⟨kv, Q, qv, rfl, b⟩
    have hy := List.getElem?_eq_getElem hi
    generalize l[i] = y at hy
    have hym := List.mem_of_getElem? hy
    have hya := hah y hym
    have hadd : add .i64 (i : Int) 1 = ((i + 1 : Nat) : Int) := add1 (by omega)
    have htake : ∀ {kv' : List (Spot × Spot)}, (∀ y ∈ l.take i, y.1 = s ∨ Rk s kv' y) → (y.1 = s ∨ Rk s kv' y) → ∀ y ∈ l.take (i + 1), y.1 = s ∨ Rk s kv' y := by
      intro kv' h1 h2 z hz
      rw [List.take_add_one, hy, List.mem_append] at hz
      rcases hz with hz | hz
      · exact h1 z hz
      · simp at hz; rw [hz]; exact h2
    have e1 : ∀ {T : Type} (K : Value → Option T), (six v7 (i : Int) 2 fun b o => ld Tryd.prog g9 129 b o K) = K (spV y) := fun K => b.v7s.ldA ag129 sz129 (by omega) (x := spC y) (by simp [hy]) K
    obtain ⟨h11, hh11⟩ : ∃ h11, h11 = g9.var (.row (spC y) 129 true) := ⟨_, rfl⟩
    have x11 : Ext g9 h11 := hh11 ▸ .var _ _
    have n11 : h11.nx = g9.nx + 1 := by rw [hh11]; rfl
    have b11 : h11.blk g9.nx = some (.row (spC y) 129 true) := by rw [hh11]; exact var_at _ _
    have gext := b.gr.ext
    have glt := b.gr.lt
    have a11 := a.ext (gext.trans x11)
    have start : ∀ {r : Option (Ex × List Value × H)}, (ifB (decide (y.1 = s)) (out .normal [.bool false, qv, (.int .i64 (add .i64 (i : Int) 1))] h11) (
        lok Tryd.prog h11 127 (.map (some h.nx)) (spV y) true fun v12 =>
        ext v12 0 fun v13 =>
        ext v12 1 fun v14 =>
        asB v14 fun q0 =>
        al h11 129 [(.int .i64 0), (.bool false)] fun h12 =>
        st Tryd.prog h12 129 (nx h11) 0 v13 fun h13 =>
        ifB q0 (
          out .normal [.bool false, qv, (.int .i64 (add .i64 (i : Int) 1))] h13) (
          ld Tryd.prog h13 129 g9.nx 0 fun v15 =>
          ld Tryd.prog h13 129 (nx h5) 0 fun v16 =>
          mup Tryd.prog h13 127 (.map (some h.nx)) v15 v16 fun h14 =>
          ld Tryd.prog h14 3 g9.nx 0 fun v17 =>
          asI .i64 v17 fun n9 =>
          AM.nil (pt fb 0) (
            asP (pt fb 0) fun b8 b9 =>
            ld Tryd.prog h14 3 b8 (off b9 2) fun v18 =>
            asI .i64 v18 fun n10 =>
            ifB (AM.eq n9 n10) (
              ld Tryd.prog h14 129 (nx h1) 0 fun v19 =>
              ld Tryd.prog h14 129 g9.nx 0 fun v20 =>
              calls rcA h14 114 [pt fb 0, (.map (some h.nx)), v19, v20] fun _ h15 =>
              out .ret [(.bool true), qv, iv (i : Nat)] h15) (
              ld Tryd.prog h14 129 g9.nx 0 fun v22 =>
              bls Tryd.prog h14 130 1 [(0, v22)] fun v23 h16 =>
              app Tryd.prog h16 130 130 qv v23 fun v24 h17 =>
              out .normal [.bool false, v24, (.int .i64 (add .i64 (i : Int) 1))] h17)))) = r) → f101_l2 rcA 100 (pt fb 0) h h1 h5 v7 (l.length : Nat) [.bool false, qv, iv i] g9 = r := by
      intro r hr
      unfold f101_l2
      rewrite [gv32, gv30, gv31, asI_int, lt_nat hi, ifB_true, asK_int, e1, alS, ← hh11, nx_eq g9, ldS0 b11, asI_int, nilp, asP_ptr, a11.lds, asI_int, eqN', ldS b11]
      simp only [asI_int, nx_eq h]
      exact hr
    by_cases hys : y.1 = s
    · exact ⟨_, _, _, start (by rw [decide_eq_true hys, ifB_true, hadd]; rfl), .inl ⟨rfl, kv, Q, qv, rfl, b.var x11 (htake b.done (.inl hys))⟩⟩
    · have m11 := (x11.blk _ (by omega)).trans b.gr.m
      have hnst : y ≠ (s, true) := fun e => hys (by rw [e])
      by_cases hk : y ∈ kv.map (·.1)
      · -- it has been reached
        obtain ⟨v, hv⟩ := Option.isSome_iff_exists.1 (lookK_kvV.1 hk)
        obtain ⟨z, rfl⟩ := valK_sp hv
        have x13 : Ext h11 (h11.var (.row (spC z) 129 true)) := .var _ _
        refine ⟨.normal, [.bool false, qv, iv ((i + 1 : Nat) : Int)], h11.var (.row (spC z) 129 true), start ?_, .inl ⟨rfl, kv, Q, qv, rfl, b.var (x11.trans x13) (htake b.done (.inr (.inr hk)))⟩⟩
        rw [decide_eq_false hys, ifB_false, lok_of key129 under127 zero129 m11, hv]
        simp only
        rw [ext20, ext21, asB_bool, alS, ifB_true, hadd]
        rfl
      · have hv : valK (kvV kv) y = none := by
          rw [lookK_kvV] at hk
          cases hv : valK (kvV kv) y with
          | none => rfl
          | some v => rw [hv] at hk; simp at hk
        obtain ⟨h13, hh13⟩ : ∃ h13, h13 = h11.var (.row (spC (0, false)) 129 true) := ⟨_, rfl⟩
        have x13 : Ext h11 h13 := hh13 ▸ .var _ _
        have n13 : h13.nx = h11.nx + 1 := by rw [hh13]; rfl
        have y13 := (x13.blk _ (by omega)).trans b11
        have xb13 := ((x11.trans x13).blk _ b.xlt.2).trans b.xbk
        have m13 := (x13.blk _ (by omega)).trans m11
        obtain ⟨h14, hh14⟩ : ∃ h14, h14 = h13.set h.nx (mpOf spV (kvV (kv ++ [(y, x)]))) := ⟨_, rfl⟩
        have n14 : h14.nx = h13.nx := by rw [hh14]; rfl
        have m14 : h14.blk h.nx = some (mpOf spV (kvV (kv ++ [(y, x)]))) := by rw [hh14]; exact blk_set_self _ _ _
        have f14 : ∀ q, q ≠ h.nx → h14.blk q = h13.blk q := fun q hq => by rw [hh14]; exact blk_set_ne _ _ _ hq
        have f914 : ∀ q, q < g9.nx → q ≠ h.nx → h14.blk q = g9.blk q := fun q hq hne => (f14 q hne).trans ((x11.trans x13).blk q hq)
        have y14 := (f14 _ (by omega)).trans y13
        have xe14 : Ext h h14 := ⟨by omega, fun q hq => by rw [f914 q (by omega) (by omega)]; exact gext.blk q hq⟩
        have a14 := a.ext xe14
        have sb14 : h14.blk h1.nx = some (.row (spC (s, true)) 129 true) := by rw [hn1, f914 _ (by omega) (by omega)]; exact b.gr.sb
        have hxR := b.gr.qr x List.mem_cons_self
        have r' := b.gr.r.push hya hys hxR hk
        have start2 : ∀ {r : Option (Ex × List Value × H)}, (ifB (decide (y.1 = t)) (
              calls rcA h14 114 [pt fb 0, (.map (some h.nx)), spV (s, true), spV y] fun _ h15 =>
              out .ret [(.bool true), qv, iv (i : Nat)] h15) (
              bls Tryd.prog h14 130 1 [(0, spV y)] fun v23 h16 =>
              app Tryd.prog h16 130 130 qv v23 fun v24 h17 =>
              out .normal [.bool false, v24, iv ((i + 1 : Nat) : Int)] h17) = r) → f101_l2 rcA 100 (pt fb 0) h h1 h5 v7 (l.length : Nat) [.bool false, qv, iv i] g9 = r := by
          intro r hr
          refine start ?_
          rw [decide_eq_false hys, ifB_false, lok_of key129 under127 zero129 m11, hv]
          simp only
          rw [ext20, ext21, asB_bool, alS, ifB_false, ← hh13, ldS y13, nx_eq h5, ldS xb13, mup_of key129 under127 m13, putK_new hk, ← hh14, ldS0 y14, asI_int, nilp, asP_ptr, a14.ldt, asI_int, eqN', nx_eq h1, ldS sb14, ldS y14, ldS y14, hadd]
          exact hr
        by_cases hyt : y.1 = t
        · have hyf : y = (t, false) := by
            obtain ⟨y1, y2⟩ := y
            simp only at hyt
            subst hyt
            cases y2 with
            | false => rfl
            | true =>
              exfalso
              cases hya with
              | back _ _ hp => exact w.fl.nt _ hp
          subst hyf
          have hkl := r'.len hg.toGrB w.fl
          obtain ⟨v, h15, e15, p15⟩ := ap_g hmix a14 w hg hs ht hst m14 (by omega) r' (fun p hp e => by
            rcases List.mem_append.1 hp with hp | hp
            · exact absurd e (b.gr.nt p hp)
            · rw [List.mem_singleton.1 hp]) (x := x) (List.mem_append.2 (.inr List.mem_cons_self)) (by omega)
          refine ⟨.ret, [.bool true, qv, iv (i : Nat)], h15, start2 ?_, .inr ⟨by simp, .inr ⟨rfl, qv, iv (i : Nat), h14, rfl, xe14, p15⟩⟩⟩
          rw [decide_eq_true rfl, ifB_true]
          exact calls_at (xs := [_, _, _, _]) e15
        · obtain ⟨qb, hqb, hqlo, hqlt, cs, hqr⟩ := b.q.blkOf
          have hql : (cellsS (x :: Q)).length + 1 < 2 ^ 30 := by
            have := b.gr.r.len hg.toGrB w.fl
            have := b.cnt
            simp only [cellsS, List.length_map, List.length_cons]; omega
          have q14 : QlR (h.nx + 2) h14 129 2 qv (cellsS (x :: Q)) := b.q.keep (by omega) fun q hq => by
            rw [hqb] at hq; cases hq
            exact f914 _ hqlt (by omega)
          obtain ⟨v24, h17, e17, q17, n17, k17, b', hb', hb''⟩ := q14.push app130 app130 (bls130 y) rfl rfl hql (by omega)
          have hk17 : ∀ q, q < g9.nx → q ≠ h.nx → q ≠ qb → h17.blk q = g9.blk q := fun q hq h1 h2 => by
            rw [k17 q (by omega) (fun e => by rw [hqb] at e; cases e; exact h2 rfl)]
            exact f914 q hq h1
          have v7b : ∀ q, blkOf v7 = some q → q < g9.nx := fun q hq => (b.v7s.blkR hq).1
          have hqn := b.qn qb hqb
          refine ⟨.normal, [.bool false, v24, iv ((i + 1 : Nat) : Int)], h17, start2 ?_, .inl ⟨rfl, kv ++ [(y, x)], Q ++ [y], v24, rfl, ⟨?_, ?_, ?_, ?_, ?_, ?_, ?_, ?_⟩⟩⟩
          · rw [decide_eq_false hyt, ifB_false, e17]
            rfl
          · refine ⟨⟨by omega, fun q hq => ?_⟩, ?_, ?_, by omega, r', fun p hp => ?_, fun z hz => ?_, fun z hz hzq z2 h1 h2 => ?_⟩
            · rw [hk17 q (by omega) (by omega) (by omega)]; exact gext.blk q hq
            · rw [k17 _ (by omega) (fun e => by rw [hqb] at e; cases e; omega)]; exact m14
            · rw [hk17 _ (by omega) (by omega) (by omega)]; exact b.gr.sb
            · rcases List.mem_append.1 hp with hp | hp
              · exact b.gr.nt p hp
              · rw [List.mem_singleton.1 hp]; exact hyt
            · rw [← List.cons_append, List.mem_append] at hz
              rcases hz with hz | hz
              · exact (b.gr.qr z hz).push
              · rw [List.mem_singleton.1 hz]; exact .new _ _ _
            · rw [← List.cons_append, List.mem_append, not_or] at hzq
              rcases hz.of_push with h3 | h3
              · exact (b.gr.cl z h3 hzq.1 z2 h1 h2).push
              · exact absurd (by rw [h3]; exact List.mem_cons_self) hzq.2
          · rw [hk17 _ b.xlt.2 (by have := b.xlt.1; omega) (fun e => hqn.1 e.symm)]; exact b.xbk
          · exact ⟨b.xlt.1, by have := b.xlt.2; omega⟩
          · refine b.v7s.keepB (by omega) fun q hq => hk17 q (v7b q hq) (fun e => ?_) (fun e => hqn.2 (by rw [← e]; exact hq))
            rw [e] at hq
            exact mp_ne b.v7s b.gr.m hq
          · have : cellsS (x :: (Q ++ [y])) = cellsS (x :: Q) ++ [spC y] := by simp [cellsS]
            rw [this]; exact q17
          · intro q hq
            rw [hb'] at hq; cases hq
            refine ⟨by have := b.xlt.2; omega, fun e => ?_⟩
            have := v7b _ e
            omega
          · exact htake (fun z hz => (b.done z hz).imp id Rk.push) (.inr (.new _ _ _))
          · have := b.cnt
            simp only [List.length_append, List.length_singleton]; omega
  · rintro ws g9 ⟨kv, Q, qv, rfl, b⟩
    refine ⟨.exit 2, [.bool false, qv, iv (l.length : Nat)], g9, ?_, by simp, .inl ⟨rfl, kv, Q, qv, _, rfl, b⟩⟩
    unfold f101_l2
    rw [gv32, asI_int, lt_self, ifB_false, gv30, gv31]
    rfl
end
end Go.AM
end

section
namespace Go.AM
open Go.Proofs
variable {R : Type}
section
variable {g : List Nat} {s t lo fb nb bb first : Nat} {tv : Value} {nxt : List Int} {bf : List Value} {h : H}
/-- What a search answers. -/
def PostG (g : List Nat) (s t lo : Nat) (tv : Value) (fb nb bb first : Nat) (nxt : List Int) (h : H) (b : Bool) (h' : H) : Prop :=
  (b = true ∧ ∃ hx, Ext h hx ∧ PostA g s t lo tv fb nb bb first hx h') ∨ (b = false ∧ Ext h h' ∧ ∃ R, EndW (adjP g) s t (flS s first nxt) R)
set_option maxHeartbeats 1000000 in
theorem gr_walk (hmix : Tryd.prog.follows .mixedOrders = true) (a : FlH g s t lo tv fb nb bb first nxt bf h) (w : StW g s t first nxt bf) (hg : GrN g) (hs : s < g.length) (ht : t < g.length) (hst : s ≠ t) :
    ∃ b h', f101 rcA 100 (pt fb 0) h = some (.bool b, h') ∧ PostG g s t lo tv fb nb bb first nxt h b h' := by
  have hlen := hg.len
  obtain ⟨h1, hh1⟩ : ∃ h1, h1 = h.new (.mp [] 0) := ⟨_, rfl⟩
  have x1 : Ext h h1 := hh1 ▸ .new _ _
  have n1 : h1.nx = h.nx + 1 := by rw [hh1]; rfl
  have b1 : h1.blk h.nx = some (mpOf spV (kvV [])) := by rw [hh1]; exact blk_new_self _ _
  have a1 := a.ext x1
  obtain ⟨h3, hh3⟩ : ∃ h3, h3 = h1.var (.row (spC (s, true)) 129 true) := ⟨_, rfl⟩
  have x3 : Ext h1 h3 := hh3 ▸ .var _ _
  have n3 : h3.nx = h1.nx + 1 := by rw [hh3]; rfl
  have b3 : h3.blk h1.nx = some (.row (spC (s, true)) 129 true) := by rw [hh3]; exact var_at _ _
  have x4 : Ext h3 (h3.new (.row (spC (s, true)) 129 true)) := .new _ _
  have q4 : QlR (h.nx + 2) (h3.new (.row (spC (s, true)) 129 true)) 129 2 (.slice (some ⟨h3.nx, 0, none⟩) 1 1) (cellsS [(s, true)]) := QlR.lit (by omega) rfl
  have n4 : (h3.new (.row (spC (s, true)) 129 true)).nx = h3.nx + 1 := rfl
  generalize hh4 : h3.new (.row (spC (s, true)) 129 true) = h4 at x4 q4 n4
  have g0 : GrS g s t first nxt h [] [(s, true)] h4 := by
    refine ⟨(x1.trans x3).trans x4, ?_, ?_, by omega, .nil, (fun p hp => by cases hp), fun z hz => .inl (List.mem_singleton.1 hz), fun z hz hq => ?_⟩
    · rw [x4.blk _ (by omega), x3.blk _ (by omega)]; exact b1
    · rw [x4.blk _ (by omega), ← n1]; exact b3
    · rcases hz with hz | hz
      · exact absurd (by rw [hz]; exact List.mem_singleton.2 rfl) hq
      · cases hz
  obtain ⟨e, ws', h', el, hQ⟩ := lpGo_inv (F := f101_l1 rcA 100 (pt fb 0) h h1)
    (fun d ws g9 => ∃ c kv Q qv, ws = [.bool false, qv] ∧ GrS g s t first nxt h kv Q g9 ∧ ((Q ≠ [] ∧ QlR (h.nx + 2) g9 129 2 qv (cellsS Q)) ∨ (Q = [] ∧ ∃ b o c', qv = .slice (some ⟨b, o, none⟩) 0 c')) ∧ Q.length + c = kv.length + 1 ∧ d = 22 - c)
    (fun e ws g9 => (e = .exit 0 ∧ ∃ kv, GrS g s t first nxt h kv [] g9) ∨ (e = .ret ∧ ∃ w2 hx, ws = [.bool true, w2] ∧ Ext h hx ∧ PostA g s t lo tv fb nb bb first hx g9))
    (by
      rintro d ws g9 ⟨c, kv, Q, qv, rfl, b, hq, hc, rfl⟩
      have hk := b.r.len hg.toGrB w.fl
      rcases hq with ⟨hne, q⟩ | ⟨rfl, b0, o, c', rfl⟩
      · obtain ⟨x, Q, rfl⟩ := List.exists_cons_of_ne_nil hne
        have gext := b.ext
        have glt := b.lt
        have e0 : ∀ {T : Type} (K : Value → Option T), (six qv 0 2 fun b o => ld Tryd.prog g9 129 b o K) = K (spV x) := fun K => q.slR.ldA ag129 sz129 (i := 0) (by omega) (x := spC x) (by simp [cellsS]) K
        obtain ⟨h7, hh7⟩ : ∃ h7, h7 = g9.var (.row (spC x) 129 true) := ⟨_, rfl⟩
        have x7 : Ext g9 h7 := hh7 ▸ .var _ _
        have n7 : h7.nx = g9.nx + 1 := by rw [hh7]; rfl
        have b7 : h7.blk g9.nx = some (.row (spC x) 129 true) := by rw [hh7]; exact var_at _ _
        have hxR := b.qr x List.mem_cons_self
        obtain ⟨v7, h8, e113, x8, s8, fr8⟩ := s113 (v := x.1) (b := x.2) (h := h7) ⟨a.ext (gext.trans x7), w, hg, hs, hxR.lt b.r hg.toGrB w.fl hs⟩
        have x8' := x8.toExt
        have n8 := x8'.nx
        obtain ⟨qb, hqb, hqlo, hqlt, _⟩ := q.blkOf
        have ai : GrI g s t first nxt h x g9.nx v7 (aheadL g s first nxt x) c kv Q qv 0 h8 := by
          refine ⟨b.keep (by omega) fun q hq => ?_, (x8'.blk _ (by omega)).trans b7, ⟨by omega, by omega⟩, s8, q.keep (by omega) fun p hp => ?_, fun p hp => ?_, (fun y hy => by cases hy), by simp only [List.length_cons] at hc; omega⟩
          · rw [x8'.blk q (by omega), x7.blk q (by omega)]
          · rw [hqb] at hp; cases hp
            rw [x8'.blk _ (by omega), x7.blk _ hqlt]
          · rw [hqb] at hp; cases hp
            exact ⟨by omega, fun e => by have := fr8 _ e; omega⟩
        obtain ⟨e2, ws2, g2, el2, hQ2⟩ := gr_l2 hmix a w hg hs ht hst (x := x) (h1 := h1) (h5 := g9) n1 ai
        have c113 := fun (K : Value → H → Option (Ex × List Value × H)) => (rcA_ne (by decide)).trans (calls_eq (K := K) (xs := [pt fb 0, spV x]) e113)
        have hl7 : ∀ {T : Type} (K : Int → Option T), len v7 K = K ((aheadL g s first nxt x).length : Nat) := fun K => by rw [s8.len]; simp
        have start : ∀ {r : Option (Ex × List Value × H)}, (onE e2 2 (sli Tryd.prog g2 130 (AM.gv ws2 1) (some (.int .i64 1)) none none fun v25 => out .normal [AM.gv ws2 0, v25] g2) (onR e2 (out .ret [AM.gv ws2 0, AM.gv ws2 1] g2)) = r) → f101_l1 rcA 100 (pt fb 0) h h1 [.bool false, qv] g9 = r := by
          intro r hr
          unfold f101_l1
          rw [gv21, q.slR.len, show AM.lt 0 ((cellsS (x :: Q)).length : Int) = true by simp [AM.lt, cellsS] <;> omega, ifB_true, e0, alS, ← hh7, nx_eq, ldS b7, c113, hl7, gv20, lp_eq el2]
          exact hr
        rcases hQ2 with ⟨rfl, kv2, Q2, qv2, w3, rfl, b2⟩ | ⟨rfl, w2, w3, hx, rfl, q1, q2⟩
        · obtain ⟨v25, e25, t1, t2, _⟩ := b2.q.tail (P := Tryd.prog) (t := 130) (by decide) (by kernel_rfl) sz129
          have hk2 := b2.gr.r.len hg.toGrB w.fl
          have hcn := b2.cnt
          refine ⟨.normal, [.bool false, v25], g2, start ?_, .inl ⟨rfl, 22 - (c + 1), by omega, c + 1, kv2, Q2, v25, rfl, ?_, ?_, by omega, rfl⟩⟩
          · rw [onE_exit, if_pos rfl, gv31, gv30, e25]
            rfl
          · have bg := b2.gr
            refine ⟨bg.ext, bg.m, bg.sb, bg.lt, bg.r, bg.nt, fun z hz => bg.qr z (List.mem_cons_of_mem _ hz), fun z hz hzq y hy hys => ?_⟩
            by_cases e : z = x
            · subst e
              have := b2.done y (by rw [List.take_length]; exact (w.ahead hg.toGrB).2 hy)
              exact this.resolve_left hys
            · exact bg.cl z hz (by rw [List.mem_cons, not_or]; exact ⟨e, hzq⟩) y hy hys
          · by_cases hQ2 : Q2 = []
            · right
              refine ⟨hQ2, t2 (by rw [hQ2]; rfl)⟩
            · left
              exact ⟨hQ2, t1 (by simpa [cellsS] using hQ2)⟩
        · refine ⟨.ret, [.bool true, w2], g2, start ?_, .inr ⟨by simp, .inr ⟨rfl, w2, hx, rfl, q1, q2⟩⟩⟩
          rw [onE_ret, onR_ret]
          rfl
      · refine ⟨.exit 0, [.bool false, .slice (some ⟨b0, o, none⟩) 0 c'], g9, ?_, .inr ⟨by simp, .inl ⟨rfl, kv, b⟩⟩⟩
        unfold f101_l1
        rw [gv21, len_slice, show AM.lt 0 ((0 : Nat) : Int) = false from rfl, ifB_false, gv20]
        rfl)
    22 100 (by omega) ⟨0, [], [(s, true)], _, rfl, g0, .inl ⟨by simp, q4⟩, rfl, rfl⟩
  have start : ∀ {r : Option (Value × H)}, (onE e 0 (some (.bool false, h')) (onR e (some (AM.gv ws' 0, h'))) = r) → f101 rcA 100 (pt fb 0) h = r := by
    intro r hr
    unfold f101
    rw [mkm_eq, ← hh1, nilp, asP_ptr, a1.lds, asI_int, kbldS, alS, ← hh3, nx_eq, ldS b3, bls_some (bls130 _ _), hh4, lp_eq el]
    exact hr
  rcases hQ with ⟨rfl, kv, b⟩ | ⟨rfl, w2, hx, rfl, q1, q2⟩
  · refine ⟨false, h', start rfl, .inr ⟨rfl, b.ext, _, b.r.endW (fun x hx y hy hys => b.cl x hx (by simp) y hy hys) hst b.nt⟩⟩
  · exact ⟨true, h', start rfl, .inl ⟨rfl, hx, q1, q2⟩⟩
/-- The search, told. -/
noncomputable def g101 (args : Array Value) (h : H) : Option (Value × H) :=
  match args.toList with
  | [v0] => f101 rcA 100 v0 h
  | _ => none
theorem g101_sure (hmix : Tryd.prog.follows .mixedOrders = true) {args : Array Value} {h h' : H} {v : Value} (e : g101 args h = some (v, h')) : Sure Tryd.prog E0 101 args h v h' := by
  unfold g101 at e
  split at e
  · rename_i v0 ha
    have ea : args = #[v0] := by
      cases args
      simp only at ha
      rw [ha]
    rw [ea]
    rw [← e101] at e
    obtain ⟨v1, h1, g1, g2⟩ := bodyT_some e
    cases g2
    exact body_sound (rcA_sound hmix) (draw_ok hmix (rcA_sound hmix)) g1
  · cases e
/-- The search and apply told. -/
noncomputable def rcG : Rec := over rcA 101 g101
theorem rcG_sound (hmix : Tryd.prog.follows .mixedOrders = true) : SoundR Tryd.prog E0 rcG := over_sound (rcA_sound hmix) fun _ _ _ _ e => g101_sure hmix e
theorem rcG_ne {f : FuncId} (h1 : f ≠ 114) (h2 : f ≠ 101) {h : H} {xs : List Value} {R : Type} {K : Value → H → Option R} : calls rcG h f xs K = calls rn h f xs K := (calls_over h2).trans (rcA_ne h1)
theorem k101 (hmix : Tryd.prog.follows .mixedOrders = true) (a : FlH g s t lo tv fb nb bb first nxt bf h) (w : StW g s t first nxt bf) (hg : GrN g) (hs : s < g.length) (ht : t < g.length) (hst : s ≠ t) :
    ∃ b h', (∀ {R : Type} (K : Value → H → Option R), calls rcG h 101 [pt fb 0] K = K (.bool b) h') ∧ PostG g s t lo tv fb nb bb first nxt h b h' := by
  obtain ⟨b, h', e, p⟩ := gr_walk hmix a w hg hs ht hst
  exact ⟨b, h', fun K => calls_at (xs := [pt fb 0]) (by unfold g101; exact e), p⟩
end
end Go.AM
end

section
namespace Go.AM
open Go.Proofs
variable {R : Type}
attribute [local simp] nx_eq nx_new nx_set blk_new blk_set asI_int asK_int asB_bool asP_ptr al_eq bx_eq len_slice onE_exit onE_ret onR_ret Value.cells d3 d22 w3 cell_new cell_set rd_new rd_set off eq lt le ifB gv out eqF1 eqF2 eqF3 eqF4 eqF5 eqF6 eqF7 eqF8 ext20 ext21
theorem u64_small {a : Int} (h1 : 0 ≤ a) (h2 : a < 18446744073709551616) : IntKind.u64.wrap a = a := by
  simp only [IntKind.wrap, IntKind.signed, IntKind.bits, Bool.false_and]
  exact Int.emod_eq_of_lt h1 h2
theorem and_u64 {a b : Nat} (ha : a < 2 ^ 64) (hb : b < 2 ^ 64) : AM.and .u64 (a : Int) (b : Int) = ((a &&& b : Nat) : Int) := by
  unfold AM.and
  show IntKind.u64.wrap ((BitVec.ofInt 64 (a : Int) &&& BitVec.ofInt 64 (b : Int)).toNat : Nat) = _
  have e : ∀ {x : Nat}, x < 2 ^ 64 → (BitVec.ofInt 64 (x : Int)).toNat = x := fun {x} hx => by
    rw [ofInt_nat, BitVec.toNat_ofNat]
    exact Nat.mod_eq_of_lt hx
  rw [BitVec.toNat_and, e ha, e hb]
  have := Nat.and_lt_two_pow a hb
  exact u64_small (by omega) (by omega)
/-- Once a small number. -/
theorem s119 {n : Nat} (hn : n < 2 ^ 31) (h : H) : rn 119 #[.int .u64 1, .int .u64 n] h = some (.tuple #[.int .u64 0, .int .u64 n], h) := by
  refine p119 (k := 0) (h1 := h) ?_ rfl (.refl _)
  have a1 : AM.and .u64 1 4294967295 = 1 := by decide
  have a2 : AM.and .u64 (n : Int) 4294967295 = n := by
    have := and_u64 (a := n) (b := 4294967295) (by omega) (by decide)
    rw [show ((4294967295 : Nat) : Int) = 4294967295 from rfl] at this
    rw [this, show (4294967295 : Nat) = 2 ^ 32 - 1 from rfl, Nat.and_two_pow_sub_one_eq_mod]
    congr 1
    exact Nat.mod_eq_of_lt (by omega)
  have a3 : shr .u64 1 32 = 0 := by decide
  have a4 : shr .u64 (n : Int) 32 = 0 := by
    unfold shr
    rw [show min (32 : Int).toNat IntKind.u64.bits = 32 from rfl, Int.fdiv_eq_ediv_of_nonneg _ (by decide)]
    exact Int.ediv_eq_zero_of_lt (by omega) (by omega)
  have m1 : mul .u64 1 (n : Int) = n := by unfold mul; rw [Int.one_mul]; exact u64_small (by omega) (by omega)
  have m2 : ∀ x : Int, mul .u64 0 x = 0 := fun x => by unfold mul; rw [Int.zero_mul]; rfl
  have m3 : mul .u64 1 0 = 0 := by decide
  have p1 : add .u64 0 0 = 0 := by decide
  have q0 : AM.and .u64 0 4294967295 = 0 := by decide
  have q1 : shr .u64 0 32 = 0 := by decide
  simp [f119, nn, a1, a2, a3, a4, m1, m2, m3, p1, q0, q1]
theorem s112 {n : Nat} (hn : n < 2 ^ 31) (h : H) : rn 112 #[.int .u64 1, .int .u64 n] h = some (.tuple #[.int .u64 0, .int .u64 n], h) := by
  refine p112 (k := 0) (h1 := h) ?_ rfl (.refl _)
  have c1 := fun (K : Value → H → Option (Value × H)) => calls_eq (K := K) (xs := [_, _]) (s119 hn h)
  simp [f112, c1]
/-- A copy from the beginning of a row to a later place in it, and to its beginning. -/
theorem cpy_row {h : H} {b n c k m : Nat} {src : Value} {l : List Int} {xs : List Int} {bs : Option Addr} {cs : Nat} (hb : h.blk b = some (.row (l.map iv) 3 true)) (hs : srcCells 1 (.slice bs (min k n) cs) h = some (xs.map iv)) (hsrc : src = .slice bs k cs) (h0 : 0 < min k n)
    (hx : xs.length = min k n) (hm : m + xs.length ≤ l.length) (K : Int → H → Option R) :
    cpy Tryd.prog h 22 (.slice (some ⟨b, m, none⟩) n c) src K = K (min k n : Nat) (h.set b (.row (setAt (l.map iv) m (xs.map iv)) 3 true)) := by
  subst hsrc
  unfold cpy copyS
  simp only [under22, sz3, Option.bind_some]
  rw [if_neg (by omega), hs, Option.bind_some, hb]
  simp only
  rw [if_pos ⟨by simpa using hm, by rw [List.all_map, List.all_eq_true]; intro x _; rfl⟩]
theorem setAt_ints (l xs : List Int) (m : Nat) (h : m + xs.length ≤ l.length) : setAt (l.map iv) m (xs.map iv) = (l.take m ++ xs ++ l.drop (m + xs.length)).map iv := by
  have e : l = l.take m ++ ((l.drop m).take xs.length ++ l.drop (m + xs.length)) := by
    rw [show l.drop (m + xs.length) = (l.drop m).drop xs.length by rw [List.drop_drop], List.take_append_drop, List.take_append_drop]
  conv => lhs; rw [e]
  rw [List.map_append, List.map_append]
  have hm : ((l.take m).map iv).length = m := by simp; omega
  have := setAt_mid (xs.map iv) ((l.take m).map iv) (((l.drop m).take xs.length).map iv) ((l.drop (m + xs.length)).map iv) (by simp; omega)
  rw [hm] at this
  rw [this]
  simp
theorem s100 {v : Value} {x : Int} {n : Nat} {h : H} (hv : SlR h 3 1 v (cellsI [x])) (h1 : 1 ≤ n) (hn : n < 2 ^ 20) : ∃ h', rn 100 #[v, iv n] h = some (.slice (some ⟨h.nx, 0, none⟩) n n, h') ∧ Exw h h' ∧ h.nx < h'.nx ∧ h'.blk h.nx = some (.row ((List.replicate n x).map iv) 3 true) := by
  obtain ⟨bs, cs, hsv, hsrc0⟩ : ∃ bs cs, v = .slice bs 1 cs ∧ srcCells 1 v h = some [iv x] := by
    have := hv.srcAll (by decide)
    generalize hL : cellsI [x] = L at hv
    cases hv with
    | nil => cases hL
    | at_ => subst hL; exact ⟨_, _, rfl, this⟩
  let h2 := h.new (.row ((List.replicate n (0 : Int)).map iv) 3 true)
  have x2 : Ext h h2 := .new _ _
  have b2 : h2.blk h.nx = some (.row ((List.replicate n (0 : Int)).map iv) 3 true) := blk_new_self _ _
  have hv2 := hv.ext x2
  have hsrc2 : srcCells 1 (.slice bs (min 1 n) cs) h2 = some ([x].map iv) := by
    rw [show min 1 n = 1 by omega, ← hsv]
    exact hv2.srcAll (by decide)
  have kmk : ∀ (K : Value → H → Option (Value × H)), mks Tryd.prog h 22 n n K = K (.slice (some ⟨h.nx, 0, none⟩) n n) h2 := fun K => mks_ints app22 zero3 (by omega) K
  have kc1 : ∀ (K : Int → H → Option (Value × H)), cpy Tryd.prog h2 22 (.slice (some ⟨h.nx, 0, none⟩) n n) v K = K 1 (h2.set h.nx (.row (setAt ((List.replicate n (0 : Int)).map iv) 0 ([x].map iv)) 3 true)) := fun K => by
    rw [cpy_row (k := 1) (xs := [x]) (l := List.replicate n 0) b2 hsrc2 hsv (by omega) (by simp; omega) (by simp; omega), show min 1 n = 1 by omega]
    rfl
  rw [setAt_ints _ _ _ (by simp; omega)] at kc1
  let row (i : Nat) : List Int := List.replicate i x ++ List.replicate (n - i) 0
  have hrow1 : (List.replicate n (0 : Int)).take 0 ++ [x] ++ (List.replicate n 0).drop (0 + [x].length) = row 1 := by simp [row]
  rw [hrow1] at kc1
  generalize hH3 : h2.set h.nx (.row ((row 1).map iv) 3 true) = h3 at kc1
  have n3 : h3.nx = h.nx + 1 := by rw [← hH3]; rfl
  have f3 : ∀ q, q < h.nx → h3.blk q = h.blk q := fun q hq => by rw [← hH3, blk_set_ne _ _ _ (by omega)]; exact x2.blk q hq
  have b3 : h3.blk h.nx = some (.row ((row 1).map iv) 3 true) := by rw [← hH3]; exact blk_set_self _ _ _
  -- the rounds
  have rounds : ∃ ws' g, lpGo (f100_l1 rn (n + 2) (.slice (some ⟨h.nx, 0, none⟩) n n)) (n + 2) [iv 1] h3 = some (.exit 0, ws', g) ∧ g.nx = h.nx + 1 ∧ (∀ q, q < h.nx → g.blk q = h.blk q) ∧ g.blk h.nx = some (.row ((row n).map iv) 3 true) := by
    obtain ⟨e, ws', g, hl, rfl, q1, q2, q3⟩ := lpGo_inv (F := f100_l1 rn (n + 2) (.slice (some ⟨h.nx, 0, none⟩) n n))
      (fun d ws g => ∃ i : Nat, ws = [iv i] ∧ 1 ≤ i ∧ i ≤ n ∧ d = n - i ∧ g.nx = h.nx + 1 ∧ (∀ q, q < h.nx → g.blk q = h.blk q) ∧ g.blk h.nx = some (.row ((row i).map iv) 3 true))
      (fun e ws g => e = .exit 0 ∧ g.nx = h.nx + 1 ∧ (∀ q, q < h.nx → g.blk q = h.blk q) ∧ g.blk h.nx = some (.row ((row n).map iv) 3 true))
      (by
        rintro d ws g ⟨i, rfl, hi1, hin, rfl, gn, gf, gb⟩
        by_cases hend : i = n
        · subst hend
          exact ⟨.exit 0, [iv i], g, by simp [f100_l1], .inr ⟨by simp, rfl, gn, gf, gb⟩⟩
        · have hcap : capK n = n := by
            have h30 : (2 : Nat) ^ 30 < U := by decide
            unfold capK; rw [if_pos (by omega)]
          have hnU : n < U := by
            have h30 : (2 : Nat) ^ 30 < U := by decide
            omega
          have s1 : ∀ (K : Value → Option (Ex × List Value × H)), sli Tryd.prog g 22 (.slice (some ⟨h.nx, 0, none⟩) n n) (some (iv i)) none none K = K (.slice (some ⟨h.nx, i, none⟩) (n - i) (n - i)) := fun K => by
            unfold sli slice
            simp only [under22, gb]
            rw [if_pos ⟨trivial, by omega, rfl⟩]
            simp only [sz3, Option.bind_some, bound, hcap]
            rw [if_pos ⟨by omega, by omega⟩]
            simp only [Option.bind_some]
            rw [if_pos (.inr hnU)]
            simp [show ¬ n = i by omega]
          have s2 : ∀ (K : Value → Option (Ex × List Value × H)), sli Tryd.prog g 22 (.slice (some ⟨h.nx, 0, none⟩) n n) none (some (iv i)) none K = K (.slice (some ⟨h.nx, 0, none⟩) i n) := fun K => by
            unfold sli slice
            simp only [under22, gb]
            rw [if_pos ⟨trivial, by omega, rfl⟩]
            simp only [sz3, Option.bind_some, bound, hcap]
            rw [if_pos ⟨by omega, by omega⟩]
            simp only [Option.bind_some]
            rw [if_pos (.inr hnU)]
            simp
          have hmin : 0 < min i (n - i) := by omega
          have hsrc : srcCells 1 (.slice (some ⟨h.nx, 0, none⟩) (min i (n - i)) n) g = some ((List.replicate (min i (n - i)) x).map iv) := by
            simp only [srcCells, Nat.mul_one]
            rw [if_neg (by omega)]
            simp only [H.rd, gb]
            rw [if_pos (by simp [row]; omega)]
            rw [List.drop_zero, ← List.map_take]
            congr 2
            simp only [row]
            rw [List.take_append_of_le_length (by simp; omega), List.take_replicate]
            congr 1
            omega
          have kc : ∀ (K : Int → H → Option (Ex × List Value × H)), cpy Tryd.prog g 22 (.slice (some ⟨h.nx, i, none⟩) (n - i) (n - i)) (.slice (some ⟨h.nx, 0, none⟩) i n) K = K (min i (n - i) : Nat) (g.set h.nx (.row ((row (i + min i (n - i))).map iv) 3 true)) := fun K => by
            rw [cpy_row (k := i) (xs := List.replicate (min i (n - i)) x) (l := row i) gb hsrc rfl hmin (by simp) (by simp [row]; omega), setAt_ints _ _ _ (by simp [row]; omega)]
            have hrow : (row i).take i ++ List.replicate (min i (n - i)) x ++ (row i).drop (i + (List.replicate (min i (n - i)) x).length) = row (i + min i (n - i)) := by
              simp only [row, List.take_append, List.drop_append, List.length_replicate, List.take_replicate, List.drop_replicate, Nat.min_self, Nat.sub_self, Nat.min_zero, Nat.zero_min, List.replicate_zero, List.append_nil]
              rw [show i - (i + min i (n - i)) = 0 by omega, List.replicate_zero, List.nil_append, List.replicate_append_replicate]
              congr 2
              omega
            rw [hrow]
          refine ⟨.normal, [iv ((i + min i (n - i) : Nat) : Int)], g.set h.nx (.row ((row (i + min i (n - i))).map iv) 3 true), ?_, .inl ⟨rfl, n - (i + min i (n - i)), by omega, i + min i (n - i), rfl, by omega, by omega, rfl, ?_, ?_, blk_set_self _ _ _⟩⟩
          · have hadd : add .i64 (i : Int) ((min i (n - i) : Nat) : Int) = ((i + min i (n - i) : Nat) : Int) := by rw [add64 (by omega) (by omega)]; omega
            simp only [f100_l1, gv, List.getD_cons_zero, AM.len, asI_int, lt_t (show (i : Int) < n by omega), ifB, if_true, s1, s2, kc, hadd, out]
          · rw [nx_set]; exact gn
          · intro q hq
            rw [blk_set_ne _ _ _ (by omega)]
            exact gf q hq)
      (n - 1) (n + 2) (by omega) ⟨1, rfl, Nat.le_refl _, h1, rfl, n3, f3, b3⟩
    exact ⟨ws', g, hl, q1, q2, q3⟩
  obtain ⟨ws', g, hl, q1, q2, q3⟩ := rounds
  have hrn : row n = List.replicate n x := by simp [row]
  rw [hrn] at q3
  have hlv : ∀ (K : Int → Option (Value × H)), len v K = K 1 := fun K => by rw [hsv]; rfl
  have w1 : wr .u64 1 = 1 := by decide
  have w2 : wr .u64 (n : Int) = n := u64_small (by omega) (by omega)
  have w3' : wr .i64 (n : Int) = n := wrap64 (by omega) (by omega)
  have c1 := fun (K : Value → H → Option (Value × H)) => calls_eq (K := K) (xs := [_, _]) (s112 (n := n) (by omega) h)
  have hfin : f100 rn (n + 2) v n h = some (.slice (some ⟨h.nx, 0, none⟩) n n, g) := by
    unfold f100
    rw [lt_f (by omega), ifB_false, hlv, w1, w2, c1, ext20, asI_int, ext21, asI_int, lt_f (by omega), ifB_false, lt_f (by omega), ifB_false, w3', kmk, kc1]
    refine (lp_eq hl).trans ?_
    rw [onE_exit, if_pos rfl]
  obtain ⟨g2, e2, m2, w2'⟩ := x100 hfin rfl
  exact ⟨g2, e2, w2' ⟨by omega, q2⟩, by rw [m2.nx]; omega, by rw [m2.blk]; exact q3⟩
end Go.AM
end

section
namespace Go.AM
open Go.Proofs
variable {R : Type}
theorem chain_last {F : Nat → Nat → Prop} {t : Nat} : ∀ (w : List Nat) (u : Nat), chainA F u w t → (u :: w).dropLast ++ [t] = u :: w := by
  intro w
  induction w with
  | nil => intro u h; cases h; rfl
  | cons x w ih =>
    intro u h
    rw [List.dropLast_cons_cons, List.cons_append, ih x h.2]
section
variable {g : List Nat} {s t lo fb nb bb first : Nat} {tv : Value} {nxt : List Int} {bf : List Value} {h : H}
theorem FlH.fr (a : FlH g s t lo tv fb nb bb first nxt bf h) {l2 : Nat} {h' : H} (x : Fr l2 h h') (h1 : fb < l2 ∧ nb < l2 ∧ bb < l2) : FlH g s t lo tv fb nb bb first nxt bf h' :=
  ⟨a.tvs.keepB x.nx fun b hb => x.blk b (by have := a.tvlo b hb; have := a.lo; omega), a.tvlo, (x.blk _ h1.1).trans a.f, (x.blk _ h1.2.1).trans a.n, (x.blk _ h1.2.2).trans a.b, a.ne, a.lo, Nat.lt_of_lt_of_le a.lt.1 x.nx, Nat.lt_of_lt_of_le a.lt.2.1 x.nx, Nat.lt_of_lt_of_le a.lt.2.2 x.nx⟩
theorem way_l3 {l2 : Nat} {h7 : H} (fl : FlW (adjP g) s t (flS s first nxt)) (h7n : h7.nx = fb) (hlt : fb < l2 ∧ nb < l2 ∧ bb < l2) : ∀ (w : List Nat) (u : Nat), chainA (flS s first nxt) u w t → u ≠ s → ∀ (h15 : H) (wv : Value) (acc : List Nat) (m : Nat), w.length < m → acc.length + w.length < 1000 → FlH g s t lo tv fb nb bb first nxt bf h15 → AqR l2 h15 3 1 wv (cellsN acc) → l2 ≤ h15.nx →
    ∃ wv' h', lpGo (f58_l3 rcG 100 (t : Nat) h7) m [wv, iv u] h15 = some (.exit 4, [wv', iv t], h') ∧ Fr l2 h15 h' ∧ AqR l2 h' 3 1 wv' (cellsN (acc ++ (u :: w).dropLast)) := by
  intro w
  induction w with
  | nil =>
    intro u hc _ h15 wv acc m hm _ a q hlo
    obtain ⟨m, rfl⟩ : ∃ k, m = k + 1 := ⟨m - 1, by omega⟩
    cases hc
    refine ⟨wv, h15, lpGo_exit ?_, .refl _ _, by simpa using q⟩
    unfold f58_l3
    rw [gv21, gv20, asI_int, eqN', decide_eq_true rfl, Bool.not_true, ifB_false]
    rfl
  | cons x w ih =>
    intro u hc hus h15 wv acc m hm hl a q hlo
    simp only [List.length_cons] at hm hl
    obtain ⟨m, rfl⟩ : ∃ k, m = k + 1 := ⟨m - 1, by omega⟩
    obtain ⟨h1, h2⟩ := hc
    have hut : u ≠ t := fun e => fl.nt x (e ▸ h1)
    have hxs : x ≠ s := fun e => fl.ns u (e ▸ h1)
    have hnx : nxt[u]? = some (x : Int) := by
      rcases h1 with h | h
      · exact absurd h.1 hus
      · exact h.2
    obtain ⟨wv1, h17, e17, q17, n17, k17, b', hb', hb''⟩ := q.push app22 app22 (bls22 (u : Int)) rfl rfl (by simp; omega) hlo
    have f17 : Fr l2 h15 h17 := ⟨n17, fun b hb => k17 b (by omega) (fun e => by have := (q.blkOf e).1; omega)⟩
    have a17 := a.fr f17 hlt
    have q17' : AqR l2 h17 3 1 wv1 (cellsN (acc ++ [u])) := by
      have : cellsN (acc ++ [u]) = cellsN acc ++ [[iv (u : Int)]] := by simp
      rw [this]; exact q17
    obtain ⟨wv', h', i1, i2, i3⟩ := ih x h2 hxs h17 wv1 (acc ++ [u]) m (by omega) (by simp; omega) a17 q17' (by have := f17.nx; omega)
    refine ⟨wv', h', ?_, f17.trans i2, ?_⟩
    · rw [lpGo_next (h' := h17) (ws' := [wv1, iv x])]
      · exact i1
      · unfold f58_l3
        rw [gv21, gv20, asI_int, eqN', decide_eq_false hut, Bool.not_false, ifB_true, e17, nx_eq, h7n, a17.ldn, asK_int, a17.getn hnx, asI_int]
        rfl
    · rw [List.dropLast_cons_cons, show acc ++ u :: (x :: w).dropLast = (acc ++ [u]) ++ (x :: w).dropLast by simp]
      exact i3
/-- One way. -/
theorem way_one {h7 : H} (fl : FlW (adjP g) s t (flS s first nxt)) (h7n : h7.nx = fb) {u : Nat} {w : List Nat} (hw : WayW (flS s first nxt) s t g.length u w) (hg : GrN g) {h13 : H} (a : FlH g s t lo tv fb nb bb first nxt bf h13) :
    ∃ v21 h20, (∀ (K : Value → H → Option (Ex × List Value × H)), (bls Tryd.prog h13 22 1 [(0, (.int .i64 (s : Nat)))] fun v15 h14 => lp 100 (f58_l3 rcG 100 (t : Nat) h7) [v15, (.int .i64 (u : Nat))] h14 fun e1 ws4 h18 => onE e1 4 (
      bls Tryd.prog h18 22 1 [(0, (.int .i64 (t : Nat)))] fun v20 h19 => app Tryd.prog h19 22 22 (AM.gv ws4 0) v20 K) none) = K v21 h20) ∧ Ext h13 h20 ∧ SlR h20 3 1 v21 (cellsN (s :: u :: w)) ∧ ∃ p q r, v21 = .slice p q r := by
  have hlen := hg.len
  have hwl := hw.len
  have halt := a.lt
  have hus : u ≠ s := fun e => fl.ns s (e ▸ hw.first)
  have x14 : Ext h13 (h13.new (.row [iv (s : Nat)] 3 true)) := .new _ _
  have q14 : AqR h13.nx (h13.new (.row [iv (s : Nat)] 3 true)) 3 1 (.slice (some ⟨h13.nx, 0, none⟩) 1 1) (cellsN [s]) := AqR.lit (l := [[iv (s : Nat)]]) (Nat.le_refl _) rfl (by simp) (by simp)
  have n14 : (h13.new (.row [iv (s : Nat)] 3 true)).nx = h13.nx + 1 := rfl
  have e14 : ∀ {T : Type} (K : Value → H → Option T), bls Tryd.prog h13 22 1 [(0, .int .i64 (s : Nat))] K = K (.slice (some ⟨h13.nx, 0, none⟩) 1 1) (h13.new (.row [iv (s : Nat)] 3 true)) := fun K => bls_some (bls22 (s : Int) h13)
  generalize h13.new (.row [iv (s : Nat)] 3 true) = h14 at x14 q14 n14 e14
  obtain ⟨wv, h18, el, f18, q18⟩ := way_l3 (l2 := h13.nx) fl h7n halt w u hw.chain hus h14 _ [s] 100 (by omega) (by simp; omega) (a.ext x14) q14 (by omega)
  obtain ⟨v21, h20, e20, q20, n20, k20, b', hb', hb''⟩ := q18.push app22 app22 (bls22 (t : Int)) rfl rfl (by simp; omega) (by have := f18.nx; omega)
  have n18 := f18.nx
  refine ⟨v21, h20, fun K => ?_, ⟨by omega, fun b hb => ?_⟩, ?_, q20.isSl⟩
  · rw [e14, lp_eq el, onE_exit, if_pos rfl, gv20, e20]
  · rw [k20 b (by omega) (fun e => by have := (q18.blkOf e).1; omega), f18.blk b hb]
    exact x14.blk b hb
  · have h1 := chain_last w u hw.chain
    have : cellsN (s :: u :: w) = cellsN ([s] ++ (u :: w).dropLast) ++ [[iv (t : Int)]] := by
      rw [← h1]; simp
    rw [this]; exact q20.slR
/-- All ways. -/
theorem way_l2 {h7 : H} (fl : FlW (adjP g) s t (flS s first nxt)) (h7n : h7.nx = fb) {w : Nat → List Nat} {L : List Nat} (hw : ∀ u ∈ L, WayW (flS s first nxt) s t g.length u (w u)) (hL : L.length ≤ 20) (hg : GrN g) {h12 : H} (a : FlH g s t lo tv fb nb bb first nxt bf h12) {v13 : Value} (hv : SlR h12 3 1 v13 (cellsN L)) :
    ∃ ov h' vs, lpGo (f58_l2 rcG 100 (s : Nat) (t : Nat) h7 v13 (L.length : Nat)) 100 [.slice none 0 0, iv 0] h12 = some (.exit 2, [ov, iv (L.length : Nat)], h') ∧ Ext h12 h' ∧ SlR h' 22 1 ov (cellsV vs) ∧ AllSl vs ∧ LSI h' vs (L.map fun u => (s :: u :: w u).map Int.ofNat) := by
  obtain ⟨e, ws', h', el, rfl, ov, rfl, x, vs, q, hvs, hl⟩ := lp_range (F := f58_l2 rcG 100 (s : Nat) (t : Nat) h7 v13 (L.length : Nat)) (k := 100) (n := L.length)
    (fun i ws h' => ∃ ov, ws = [ov, iv i] ∧ Ext h12 h' ∧ ∃ vs, AqR h12.nx h' 22 1 ov (cellsV vs) ∧ AllSl vs ∧ LSI h' vs ((L.take i).map fun u => (s :: u :: w u).map Int.ofNat))
    (fun e ws h' => e = .exit 2 ∧ ∃ ov, ws = [ov, iv (L.length : Nat)] ∧ Ext h12 h' ∧ ∃ vs, AqR h12.nx h' 22 1 ov (cellsV vs) ∧ AllSl vs ∧ LSI h' vs (L.map fun u => (s :: u :: w u).map Int.ofNat))
    (by
      rintro i ws h13 hi ⟨ov, rfl, x, vs, q, hvs, hl⟩
      have hu := List.getElem?_eq_getElem hi
      generalize L[i] = u at hu
      have huL := List.mem_of_getElem? hu
      have a13 := a.ext x
      have e1 : ∀ {T : Type} (K : Value → Option T), (six v13 (i : Int) 1 fun b o => ld Tryd.prog h13 3 b o K) = K (iv (u : Int)) := fun K => (hv.ext x).ld0 ag3 (by omega) (x := [iv (u : Int)]) (by simp [hu]) rfl K
      obtain ⟨v21, h20, e20, x20, s20, p, qq, r, rfl⟩ := way_one fl h7n (hw u huL) hg a13
      have hvl : vs.length ≤ 20 := by
        have := hl.1
        rw [List.length_map, List.length_take] at this
        omega
      obtain ⟨ov', h22, e22, q22, n22, k22, b', hb', hb''⟩ := (q.ext x20).push app68 app68 (bls68 (x := p) (y := qq) (z := r)) rfl rfl (by rw [List.length_map]; omega) (by have := x.nx; have := x20.nx; omega)
      have hob : ∀ b, blkOf ov = some b → h12.nx ≤ b ∧ ∃ cs, h20.blk b = some (.row cs 22 true) := fun b hb => by
        obtain ⟨q1, _, q3⟩ := (q.ext x20).blkOf hb
        exact ⟨q1, _, q3⟩
      refine ⟨.normal, [ov', iv ((i + 1 : Nat) : Int)], h22, ?_, .inl ⟨rfl, ov', rfl, ⟨by have := x.nx; have := x20.nx; omega, fun b hb => ?_⟩, vs ++ [.slice p qq r], ?_, fun z hz => ?_, ?_⟩⟩
      · unfold f58_l2
        rw [gv21, gv20, asI_int, lt_nat hi, ifB_true, asK_int, e1, asI_int]
        refine (e20 _).trans ?_
        rw [e22, asI_int, add1 (by omega)]
        rfl
      · rw [k22 b (by have := x.nx; have := x20.nx; omega) (fun e => by have := (hob b e).1; omega), x20.blk b (by have := x.nx; omega)]
        exact x.blk b hb
      · have : cellsV (vs ++ [.slice p qq r]) = cellsV vs ++ [[.slice p qq r]] := by simp
        rw [this]; exact q22
      · rcases List.mem_append.1 hz with hz | hz
        · exact hvs z hz
        · rw [List.mem_singleton.1 hz]; exact ⟨_, _, _, rfl⟩
      · rw [List.take_add_one, hu, List.map_append]
        have hk : ∀ b cs o, b < h20.nx → h20.blk b = some (.row cs 3 o) → h22.blk b = h20.blk b := fun b cs o hb hr => k22 b hb fun e => by
          obtain ⟨_, cs', h3⟩ := hob b e
          rw [hr] at h3
          simp at h3
        refine LSI.snoc ((hl.ext x20).keep n22 hk) ?_
        rw [cellsN_eq]
        exact s20.keepB n22 fun b hb => by
          obtain ⟨h1, cs, o, h2⟩ := s20.blkR hb
          exact hk b cs o h1 h2)
    (by
      rintro ws h13 ⟨ov, rfl, x, vs, q, hvs, hl⟩
      rw [List.take_length] at hl
      refine ⟨.exit 2, [ov, iv (L.length : Nat)], h13, ?_, by simp, rfl, ov, rfl, x, vs, q, hvs, hl⟩
      unfold f58_l2
      rw [gv21, gv20, asI_int, lt_self, ifB_false]
      rfl)
    (by omega) ⟨.slice none 0 0, rfl, .refl _, [], .nil, (fun z hz => by cases hz), ⟨rfl, fun i z m h => by simp at h⟩⟩
  exact ⟨ov, h', vs, el, x, q.slR, hvs, hl⟩
end
end Go.AM
end

section
namespace Go.AM
open Go.Proofs
variable {R : Type}
section
variable {g : List Nat} {s t : Nat} {h : H}
theorem bld115 (tv v7 v9 : Value) (a b : Int) (K : Value → Option R) {x y z p q r p' q' r'} (h1 : tv = .slice x y z) (h2 : v7 = .slice p q r) (h3 : v9 = .slice p' q' r') : bld Tryd.prog 115 [(0, tv), (1, .int .i64 a), (2, .int .i64 b), (4, v7), (5, v9)] K = K (.agg #[tv, .int .i64 a, .int .i64 b, .int .i64 0, v7, v9]) := by
  subst h1; subst h2; subst h3
  exact bld_some (by kernel_rfl)
/-- The least sets, and the ways. -/
structure WaysR (g : List Nat) (s t first : Nat) (w : Nat → List Nat) : Prop where
  fb : first < 2 ^ g.length
  ex : ∃ (F : Nat → Nat → Prop) (R : Spot → Prop), FlW (adjP g) s t F ∧ EndW (adjP g) s t F R ∧ (∀ u, F s u ↔ first.testBit u = true) ∧ ∀ u ∈ elts first, WayW F s t g.length u (w u)
set_option maxHeartbeats 1000000 in
theorem s58 (hmix : Tryd.prog.follows .mixedOrders = true) {v : Value} (hg : GrN g) (hval : validG (g.map Int.ofNat) = true) (hs0 : SlR h 3 1 v (cellsN g)) (hs : s < g.length) (ht : t < g.length) (hst : s ≠ t) :
    ∃ ov h' vs first w, f58 rcG 100 v (s : Nat) (t : Nat) h = some (.tuple #[ov, iv 0], h') ∧ Ext h h' ∧ SlR h' 22 1 ov (cellsV vs) ∧ AllSl vs ∧ LSI h' vs ((elts first).map fun u => (s :: u :: w u).map Int.ofNat) ∧ WaysR g s t first w := by
  have hlen := hg.len
  have hpos := hg.pos
  have e63 := s63 (v := v) (l := g.map Int.ofNat) (h := h) (by rw [cellsN_eq]; exact hs0)
  rw [if_pos hval] at e63
  have nd : ∀ {z : Nat}, z < g.length → nodeB g (z : Int) = true := fun {z} hz => by unfold nodeB; simp; omega
  have e79s := s79 (z := (s : Int)) hs0
  have e79t := s79 (z := (t : Int)) hs0
  rw [nd hs] at e79s
  rw [nd ht] at e79t
  have hn : ∀ {T : Type} (K : Int → Option T), len v K = K (g.length : Int) := fun K => by rw [hs0.len]; simp
  have c63 := fun (K : Value → H → Option (Value × H)) => (rcG_ne (by decide) (by decide)).trans (calls_eq (K := K) (xs := [v]) e63)
  have c79s := fun (K : Value → H → Option (Value × H)) => (rcG_ne (by decide) (by decide)).trans (calls_eq (K := K) (xs := [v, iv s]) e79s)
  have c79t := fun (K : Value → H → Option (Value × H)) => (rcG_ne (by decide) (by decide)).trans (calls_eq (K := K) (xs := [v, iv t]) e79t)
  -- the two rows
  have lit : ∀ (h : H), SlR (h.new (.row [iv (-1)] 3 true)) 3 1 (.slice (some ⟨h.nx, 0, none⟩) 1 1) (cellsI [-1]) := fun h => (AqR.lit (lo := h.nx) (l := [[iv (-1)]]) (Nat.le_refl _) rfl (by simp) (by simp)).slR
  have x4 : Ext h (h.new (.row [iv (-1)] 3 true)) := .new _ _
  have n4 : (h.new (.row [iv (-1)] 3 true)).nx = h.nx + 1 := rfl
  have e4 : ∀ (K : Value → H → Option (Value × H)), bls Tryd.prog h 22 1 [(0, .int .i64 (-1))] K = K (.slice (some ⟨h.nx, 0, none⟩) 1 1) (h.new (.row [iv (-1)] 3 true)) := fun K => bls_some (bls22 (-1) h)
  have l4 := lit h
  generalize h.new (.row [iv (-1)] 3 true) = h4 at x4 n4 e4 l4
  obtain ⟨h5, e5, x5, n5, b5⟩ := s100 (n := g.length) l4 (by omega) (by omega)
  have x6 : Ext h5 (h5.new (.row [iv (-1)] 3 true)) := .new _ _
  have n6 : (h5.new (.row [iv (-1)] 3 true)).nx = h5.nx + 1 := rfl
  have e6 : ∀ (K : Value → H → Option (Value × H)), bls Tryd.prog h5 22 1 [(0, .int .i64 (-1))] K = K (.slice (some ⟨h5.nx, 0, none⟩) 1 1) (h5.new (.row [iv (-1)] 3 true)) := fun K => bls_some (bls22 (-1) h5)
  have l6 := lit h5
  generalize h5.new (.row [iv (-1)] 3 true) = h6 at x6 n6 e6 l6
  obtain ⟨h7, e7, x7, n7, b7⟩ := s100 (n := g.length) l6 (by omega) (by omega)
  have x5n := x5.toExt.nx
  have x7n := x7.toExt.nx
  obtain ⟨tx, ty, tz, htv⟩ := hs0.isSl
  obtain ⟨h8, hh8⟩ : ∃ h8, h8 = h7.new (.row [v, iv s, iv t, iv 0, .slice (some ⟨h4.nx, 0, none⟩) g.length g.length, .slice (some ⟨h6.nx, 0, none⟩) g.length g.length] 115 true) := ⟨_, rfl⟩
  have x8 : Ext h7 h8 := hh8 ▸ .new _ _
  have n8 : h8.nx = h7.nx + 1 := by rw [hh8]; rfl
  have x08 := (((x4.trans x5.toExt).trans x6).trans x7.toExt).trans x8
  have hnb : h8.blk h4.nx = some (.row ((List.replicate g.length (-1 : Int)).map iv) 3 true) := by
    rw [x8.blk _ (by omega), x7.toExt.blk _ (by omega), x6.blk _ (by omega)]; exact b5
  have hbb : h8.blk h6.nx = some (.row ((List.replicate g.length (-1 : Int)).map iv) 3 true) := by
    rw [x8.blk _ (by omega)]; exact b7
  have a8 : FlH g s t h.nx v h7.nx h4.nx h6.nx 0 (List.replicate g.length (-1)) (List.replicate g.length (iv (-1))) h8 := by
    refine ⟨hs0.ext x08, fun b hb => (hs0.blkR hb).1, ?_, hnb, ?_, by omega, by omega, by omega⟩
    · rw [hh8, blk_new_self, List.length_replicate, List.length_replicate]; rfl
    · rw [hbb, List.map_replicate]
  -- the search, again and again
  obtain ⟨e, ws', h11, el, rfl, first, nxt, bf, x11, a11, w11, Rr, eR⟩ := lpGo_inv (F := f58_l1 rcG 100 h7)
    (fun d ws g' => ws = [] ∧ ∃ first nxt bf, Ext h g' ∧ FlH g s t h.nx v h7.nx h4.nx h6.nx first nxt bf g' ∧ StW g s t first nxt bf ∧ d = 10 - pop first)
    (fun e ws g' => e = .exit 0 ∧ ∃ first nxt bf, Ext h g' ∧ FlH g s t h.nx v h7.nx h4.nx h6.nx first nxt bf g' ∧ StW g s t first nxt bf ∧ ∃ R, EndW (adjP g) s t (flS s first nxt) R)
    (by
      rintro d ws g' ⟨rfl, first, nxt, bf, x, a, w, rfl⟩
      obtain ⟨b, g2, k, p⟩ := k101 hmix a w hg hs ht hst
      rcases p with ⟨rfl, hx, q1, first', nxt', bf', q2, q3, q4, q5, q6⟩ | ⟨rfl, q1, R, q2⟩
      · have hp := pop_le_n hlen q3.fb
        refine ⟨.normal, [], g2, ?_, .inl ⟨rfl, 10 - pop first', by omega, rfl, first', nxt', bf', ⟨by have := x.nx; have := q1.nx; omega, fun b hb => ?_⟩, q2, q3, rfl⟩⟩
        · unfold f58_l1
          rw [nx_eq, k, asB_bool, ifB_true]
          rfl
        · have := x.nx
          have := q1.nx
          rw [q6 b (by omega) (by omega) (by omega) (by omega), q1.blk b (by omega)]
          exact x.blk b hb
      · refine ⟨.exit 0, [], g2, ?_, .inr ⟨by simp, rfl, first, nxt, bf, x.trans q1, a.ext q1, w, R, q2⟩⟩
        unfold f58_l1
        rw [nx_eq, k, asB_bool, ifB_false]
        rfl)
    10 100 (by omega) ⟨rfl, 0, _, _, x08, a8, .zero g hs, by decide⟩
  have hf10 : first < 1024 := Nat.lt_of_lt_of_le w11.fb hg.pow
  obtain ⟨v13, h12, e76, x12, s13⟩ := s76 hf10 h11
  have c76 := fun (K : Value → H → Option (Value × H)) => (rcG_ne (by decide) (by decide)).trans (calls_eq (K := K) (xs := [iv (first : Nat)]) e76)
  have hl13 : ∀ {T : Type} (K : Int → Option T), len v13 K = K ((elts first).length : Nat) := fun K => by rw [s13.len]; simp
  obtain ⟨w, hw⟩ := w11.ways hg.toGrB
  obtain ⟨ov, h', vs, el2, x', q1, q2, q3⟩ := way_l2 (h7 := h7) w11.fl rfl hw (by have := elts_len first; have := pop_le_n (n := 10) (Nat.le_refl _) hf10; omega) hg (a11.ext x12.toExt) s13
  refine ⟨ov, h', vs, first, w, ?_, (x11.trans x12.toExt).trans x', q1, q2, q3, ⟨w11.fb, flS s first nxt, Rr, w11.fl, eR, fun u => ?_, hw⟩⟩
  · have c5 := fun (K : Value → H → Option (Value × H)) => (rcG_ne (by decide) (by decide)).trans (calls_eq (K := K) (xs := [_, iv (g.length : Nat)]) e5)
    have c7 := fun (K : Value → H → Option (Value × H)) => (rcG_ne (by decide) (by decide)).trans (calls_eq (K := K) (xs := [_, iv (g.length : Nat)]) e7)
    unfold f58
    rw [c63, ext20, ext21, asB_bool, Bool.not_true, ifB_false, c79s, asB_bool, Bool.not_true, ifB_false, c79t, asB_bool, Bool.not_true, ifB_false, eqN', decide_eq_false hst, ifB_false, e4, hn, c5, e6, hn, c7, bld115 _ _ _ _ _ _ htv rfl rfl, bx_eq]
    rw [show (Value.agg #[v, iv s, iv t, iv 0, .slice (some ⟨h4.nx, 0, none⟩) g.length g.length, .slice (some ⟨h6.nx, 0, none⟩) g.length g.length]).cells.toList = [v, iv s, iv t, iv 0, .slice (some ⟨h4.nx, 0, none⟩) g.length g.length, .slice (some ⟨h6.nx, 0, none⟩) g.length g.length] from rfl, ← hh8, lp_eq el, onE_exit, if_pos rfl, nx_eq, a11.ldf, asI_int, c76, hl13, lp_eq el2, onE_exit, if_pos rfl, gv20]
  · unfold flS
    exact ⟨fun h => h.elim And.right fun h => absurd rfl h.1, fun h => .inl ⟨rfl, h⟩⟩
end
end Go.AM
end

section
namespace Go.AM
open Go.Proofs
noncomputable def f59_l1 (rec : Rec) (_k : Nat) (n0 : Int) (n1 : Int) (v2 : Value) (n3 : Int) (ws0 : List Value) (h6 : H) : Option (Ex × List Value × H) :=
 asI .i64 (gv ws0 1) fun n4 =>
 ifB (lt n4 (shl .i64 1 n3)) (
 asI .i64 (gv ws0 1) fun n5 =>
 nn n0 (
 ifB (eq (and .i64 (shr .i64 n5 n0) 1) 0) (
 asI .i64 (gv ws0 1) fun n6 =>
 nn n1 (
 ifB (eq (and .i64 (shr .i64 n6 n1) 1) 0) (
 calls rec h6 93 [gv ws0 1] fun v8 h7 =>
 asI .i64 v8 fun n7 =>
 calls rec h7 93 [gv ws0 0] fun v9 h8 =>
 asI .i64 v9 fun n8 =>
 ifB (lt n7 n8) (
 calls rec h8 65 [v2] fun v10 h9 =>
 asI .i64 v10 fun n9 =>
 asI .i64 (gv ws0 1) fun n10 =>
 calls rec h9 78 [v2, (.int .i64 n0), (.int .i64 (andNot .i64 n9 n10))] fun v11 h10 =>
 asI .i64 v11 fun n11 =>
 nn n1 (
 ifB (eq (and .i64 (shr .i64 n11 n1) 1) 0) (
 asI .i64 (gv ws0 1) fun n12 =>
 out .normal [gv ws0 1, (.int .i64 (add .i64 n12 1))] h10) (
 asI .i64 (gv ws0 1) fun n13 =>
 out .normal [gv ws0 0, (.int .i64 (add .i64 n13 1))] h10))) (
 asI .i64 (gv ws0 1) fun n14 =>
 out .normal [gv ws0 0, (.int .i64 (add .i64 n14 1))] h8)) (
 asI .i64 (gv ws0 1) fun n15 =>
 out .normal [gv ws0 0, (.int .i64 (add .i64 n15 1))] h6))) (
 asI .i64 (gv ws0 1) fun n16 =>
 out .normal [gv ws0 0, (.int .i64 (add .i64 n16 1))] h6))) (
 out (.exit 0) [gv ws0 0, gv ws0 1] h6)
noncomputable def f59 (rec : Rec) (k : Nat) (v0 : Value) (n0 : Int) (n1 : Int) (h0 : H) : Option (Value × H) :=
 calls rec h0 63 [v0] fun v1 h1 =>
 ext v1 0 fun v2 =>
 ext v1 1 fun v3 =>
 asB v3 fun q0 =>
 ifB (not q0) (
 some ((.tuple #[(.int .i64 0), (.int .i64 2)]), h1)) (
 calls rec h1 79 [v2, (.int .i64 n0)] fun v4 h2 =>
 asB v4 fun q1 =>
 ifB (not q1) (
 some ((.tuple #[(.int .i64 0), (.int .i64 2)]), h2)) (
 calls rec h2 79 [v2, (.int .i64 n1)] fun v5 h3 =>
 asB v5 fun q2 =>
 ifB (not q2) (
 some ((.tuple #[(.int .i64 0), (.int .i64 2)]), h3)) (
 ifB (eq n0 n1) (
 some ((.tuple #[(.int .i64 0), (.int .i64 2)]), h3)) (
 calls rec h3 80 [v2, (.int .i64 n0), (.int .i64 n1)] fun v6 h4 =>
 asB v6 fun q3 =>
 ifB q3 (
 some ((.tuple #[(.int .i64 0), (.int .i64 2)]), h4)) (
 calls rec h4 65 [v2] fun v7 h5 =>
 asI .i64 v7 fun n2 =>
 len v2 fun n3 =>
 nn n3 (
 lp k (f59_l1 rec k n0 n1 v2 n3) [(.int .i64 n2), (.int .i64 0)] h5 fun e0 ws1 h11 =>
 onE e0 0 (
 some ((.tuple #[gv ws1 0, (.int .i64 0)]), h11)) (
 none)))))))
theorem e59 (rec : Rec) (k : Nat) (v0 : Value) (n0 : Int) (n1 : Int) (h : H) : bodyT Tryd.prog E0 SC (XC Tryd.prog rec k) 59 (Value × H) [.opq v0, .int .i64 n0, .int .i64 n1] h (fun v h => some (v, h)) = f59 rec k v0 n0 n1 h := by kernel_rfl
theorem t59 {k : Nat} {v0 : Value} {n0 : Int} {n1 : Int} {h h1 : H} {v : Value} (hh : f59 rn k v0 n0 n1 h = some (v, h1)) : rn 59 #[v0, .int .i64 n0, .int .i64 n1] h = some (v, trunc Tryd.prog h h1 v) :=
  run_of_bodyT (args := [.opq v0, .int .i64 n0, .int .i64 n1]) rfl ((e59 _ _ _ _ _ _).trans hh)
theorem p59 {k : Nat} {v0 : Value} {n0 : Int} {n1 : Int} {h h1 : H} {v : Value} (hh : f59 rn k v0 n0 n1 h = some (v, h1)) (hp : plainO v = true) (x : Ext h h1) : rn 59 #[v0, .int .i64 n0, .int .i64 n1] h = some (v, h) := by rw [t59 hh, trunc_pure hp x]
end Go.AM
end

section
namespace Go.AM
open Go.Proofs
variable {R : Type}
theorem lp_sum {σ : Type} (enc : σ → Value) (f : σ → Nat → σ) (inv : σ → Prop) {F : List Value → H → Option (Ex × List Value × H)} {k n oj : Nat} {h : H} {s0 : σ} (h0 : inv s0) (hk : n < k)
    (step : ∀ s i, i < n → inv s → inv (f s i) ∧ F [enc s, iv (i : Nat)] h = some (.normal, [enc (f s i), iv ((i + 1 : Nat) : Int)], h)) (fin : ∀ s, F [enc s, iv (n : Nat)] h = some (.exit oj, [enc s, iv (n : Nat)], h)) :
    lpGo F k [enc s0, iv 0] h = some (.exit oj, [enc ((List.range n).foldl f s0), iv (n : Nat)], h) ∧ inv ((List.range n).foldl f s0) := by
  have key : ∀ (d i m : Nat) (s : σ), i + d = n → d < m → inv s → lpGo F m [enc s, iv (i : Nat)] h = some (.exit oj, [enc ((List.range' i d).foldl f s), iv (n : Nat)], h) ∧ inv ((List.range' i d).foldl f s) := by
    intro d
    induction d with
    | zero =>
      intro i m s hi hm hI
      obtain ⟨m, rfl⟩ : ∃ k, m = k + 1 := ⟨m - 1, by omega⟩
      have : i = n := by omega
      subst this
      exact ⟨lpGo_exit (fin s), hI⟩
    | succ d ih =>
      intro i m s hi hm hI
      obtain ⟨m, rfl⟩ : ∃ k, m = k + 1 := ⟨m - 1, by omega⟩
      obtain ⟨I1, e1⟩ := step s i (by omega) hI
      rw [List.range'_succ, List.foldl_cons, lpGo_next e1]
      exact ih (i + 1) m _ (by omega) (by omega) I1
  rw [List.range_eq_range']
  exact key n 0 k s0 (by omega) hk h0
section
variable {g : List Nat} {s t : Nat} {h : H} {tv : Value}
theorem bit0 {a p : Nat} (ha : a < 2 ^ 63) (hp : p ≤ 64) : AM.eq (AM.and .i64 (shr .i64 (a : Int) (p : Int)) 1) 0 = !a.testBit p := by
  rw [bit_nat ha hp]
  cases a.testBit p <;> rfl
theorem bit1 {a p : Nat} (ha : a < 2 ^ 63) (hp : p ≤ 64) : AM.eq (AM.and .i64 (shr .i64 (a : Int) (p : Int)) 1) 1 = a.testBit p := by
  rw [bit_nat ha hp]
  cases a.testBit p <;> rfl
theorem shl_pow {n : Nat} (hn : n ≤ 10) : AM.shl .i64 1 (n : Int) = ((2 ^ n : Nat) : Int) := shl1_nat (by omega)
theorem ltNat {a b : Nat} : AM.lt (a : Int) (b : Int) = decide (a < b) := by
  simp only [AM.lt, decide_eq_decide]; omega
theorem stepC_if {S b : Nat} : stepC g s t S b = if (!S.testBit s) = true then (if (!S.testBit t) = true then (if pop S < pop b then (if (!(rch g (without (allN g) S) s).testBit t) = true then S else b) else b) else b) else b := by
  unfold stepC sepQ
  cases S.testBit s <;> cases S.testBit t <;> cases (rch g (without (allN g) S) s).testBit t <;> simp
/-- The program's least set. -/
theorem s59c (hg : GrN g) (hs0 : SlR h 3 1 tv (cellsN g)) (hs : s < g.length) (ht : t < g.length) :
    lpGo (f59_l1 rn 2000 (s : Nat) (t : Nat) tv (g.length : Nat)) 2000 [iv (allN g : Nat), iv 0] h = some (.exit 0, [iv (cutP g s t : Nat), iv (2 ^ g.length : Nat)], h) := by
  have hlen := hg.len
  have hpow := hg.pow
  have hal := allN_lt g
  refine (lp_sum (σ := Nat) (fun b => iv (b : Nat)) (fun b S => stepC g s t S b) (fun b => b < 2 ^ g.length) (s0 := allN g) hal (by omega) (fun b S hS hb => ⟨?_, ?_⟩) (fun b => ?_)).1
  · unfold stepC
    split
    · exact hS
    · exact hb
  · have hadd : add .i64 (S : Int) 1 = ((S + 1 : Nat) : Int) := add1 (by omega)
    have cS := fun (K : Value → H → Option (Ex × List Value × H)) => calls_eq (K := K) (xs := [iv S]) (s93 (S := S) (by omega) h)
    have cb := fun (K : Value → H → Option (Ex × List Value × H)) => calls_eq (K := K) (xs := [iv b]) (s93 (S := b) (by omega) h)
    have c65 := fun (K : Value → H → Option (Ex × List Value × H)) => calls_eq (K := K) (xs := [tv]) (s65 hg.toGrB hs0)
    have c78 := fun (K : Value → H → Option (Ex × List Value × H)) => calls_eq (K := K) (xs := [tv, iv s, iv (without (allN g) S : Nat)]) (s78 hg.toGrB hs0 hs (without_le _ _ hal))
    have hr := rch_lt g (without (allN g) S) s
    rw [stepC_if]
    unfold f59_l1
    rw [gv21, gv20, asI_int, shl_pow hlen, lt_nat hS, ifB_true, asI_int, nn_ge (by omega), bit0 (by omega) (by omega)]
    cases S.testBit s with
    | true => simp only [Bool.not_true, ifB_false, asI_int, hadd]; rfl
    | false =>
      rw [Bool.not_false, ifB_true, asI_int, nn_ge (by omega), bit0 (by omega) (by omega), if_pos rfl]
      cases S.testBit t with
      | true => simp only [Bool.not_true, ifB_false, asI_int, hadd]; rfl
      | false =>
        rw [Bool.not_false, ifB_true, cS, asI_int, cb, asI_int, ltNat, if_pos rfl]
        by_cases hp : pop S < pop b
        · rw [decide_eq_true hp, ifB_true, c65, asI_int, asI_int, andNot_nat (by omega) (by omega), c78, asI_int, nn_ge (by omega), bit0 (by omega) (by omega), if_pos hp]
          cases (rch g (without (allN g) S) s).testBit t with
          | true => simp only [Bool.not_true, ifB_false, asI_int, hadd]; rfl
          | false => simp only [Bool.not_false, ifB_true, asI_int, hadd]; rfl
        · rw [decide_eq_false hp, ifB_false, asI_int, hadd, if_neg hp]; rfl
  · unfold f59_l1
    rw [gv21, gv20, asI_int, shl_pow hlen, lt_self, ifB_false]
    rfl
/-- How many ways there can be, as_ the document says. -/
noncomputable def mostP (g : List Nat) (s t : Nat) : Nat := if adj g s t = true then 1 + pop (cutP (delE g s t) s t) else pop (cutP g s t)
end
end Go.AM
end

section
namespace Go.AM
open Go.Proofs
variable {R : Type}
section
variable {g : List Nat} {s t : Nat} {h : H} {tv : Value}
/-- The nodes of a way between s and t. -/
def inW (w : Nat → List Nat) (u : Nat) : List Nat := (u :: w u).dropLast
structure WaysI (g : List Nat) (s t : Nat) (L : List Nat) (w : Nat → List Nat) : Prop where
  ch : ∀ u ∈ L, chainA (adjP g) s (u :: w u) t
  len : ∀ u ∈ L, (w u).length ≤ 10
  nd : (L.flatMap (inW w)).Nodup
  inn : ∀ x ∈ L.flatMap (inW w), x < g.length ∧ x ≠ s ∧ x ≠ t
  ndL : L.Nodup
theorem WaysR.toI {first : Nat} {w : Nat → List Nat} (r : WaysR g s t first w) (hg : GrB g) (hst : s ≠ t) : WaysI g s t (elts first) w := by
  obtain ⟨F, Rr, f, e, hF, hw⟩ := r.ex
  have hlen := hg.len
  have mem_last : ∀ {u x : Nat} {l : List Nat}, chainA F u l t → x ∈ (u :: l).dropLast → x ∈ u :: l ∧ ∃ y, F x y := by
    intro u x l
    induction l generalizing u with
    | nil => intro _ h; simp at h
    | cons z l ih =>
      intro h hx
      rw [List.dropLast_cons_cons] at hx
      rcases List.mem_cons.1 hx with rfl | hx
      · exact ⟨List.mem_cons_self, z, h.1⟩
      · obtain ⟨h1, h2⟩ := ih h.2 hx
        exact ⟨List.mem_cons_of_mem _ h1, h2⟩
  have noS : ∀ {u x : Nat} {l : List Nat}, F s u → chainA F u l t → x ∈ u :: l → x ≠ s := by
    intro u x l hu h hx e
    subst e
    have key : ∀ (l : List Nat) (u : Nat), (∃ p, F p u) → chainA F u l t → x ∈ u :: l → False := by
      intro l
      induction l with
      | nil => intro u ⟨p, hp⟩ _ hx; rw [List.mem_singleton.1 hx] at f; exact f.ns p hp
      | cons z l ih =>
        intro u ⟨p, hp⟩ h hx
        rcases List.mem_cons.1 hx with rfl | hx
        · exact f.ns p hp
        · exact ih z ⟨u, h.1⟩ h.2 hx
    exact key l u ⟨_, hu⟩ h hx
  refine ⟨fun u hu => ⟨f.sub _ _ (hw u hu).first, chain_sub f _ _ _ (hw u hu).chain⟩, fun u hu => Nat.le_trans (hw u hu).len hlen, ?_, fun x hx => ?_, elts_nodup _⟩
  · rw [List.nodup_iff_pairwise_ne, List.pairwise_flatMap]
    constructor
    · intro u hu
      have := f.way_nodup (hw u hu).first (hw u hu).chain
      exact List.nodup_iff_pairwise_ne.1 (this.sublist (List.dropLast_sublist _))
    · have hnd := elts_nodup first
      rw [List.nodup_iff_pairwise_ne] at hnd
      refine hnd.imp_of_mem fun {a b} ha hb hab x hx y hy e => hab ?_
      subst e
      obtain ⟨q1, z, q2⟩ := mem_last (hw a ha).chain hx
      obtain ⟨q3, _⟩ := mem_last (hw b hb).chain hy
      obtain ⟨i, hi⟩ := List.mem_iff_getElem?.1 q1
      obtain ⟨j, hj⟩ := List.mem_iff_getElem?.1 q3
      exact f.ways_apart (hw a ha).first (hw b hb).first (hw a ha).chain (hw b hb).chain i j x hi hj fun e => f.nt z (e ▸ q2)
  · obtain ⟨u, hu, hx⟩ := List.mem_flatMap.1 hx
    obtain ⟨q1, z, q2⟩ := mem_last (hw u hu).chain hx
    exact ⟨(hg.adj_lt (f.sub _ _ q2)).1, noS (hw u hu).first (hw u hu).chain q1, fun e => f.nt z (e ▸ q2)⟩
end
end Go.AM
end

section
namespace Go.AM
open Go.Proofs
variable {R : Type}
/-- A valid graph and two nodes. -/
def okW (l : List Int) (a b : Int) : Bool := validG l && ((decide (0 ≤ a) && decide (a < (l.length : Int))) && ((decide (0 ≤ b) && decide (b < (l.length : Int))) && !decide (a = b)))
theorem okW_nat {l : List Int} {a b : Int} (h : okW l a b = true) : ∃ (g : List Nat) (s t : Nat), l = g.map Int.ofNat ∧ GrN g ∧ validG (g.map Int.ofNat) = true ∧ a = (s : Int) ∧ b = (t : Int) ∧ s < g.length ∧ t < g.length ∧ s ≠ t := by
  unfold okW at h
  simp only [Bool.and_eq_true, decide_eq_true_eq, Bool.not_eq_true', decide_eq_false_iff_not] at h
  obtain ⟨hv, ⟨h1, h2⟩, ⟨h3, h4⟩, h5⟩ := h
  obtain ⟨g, rfl, hg⟩ := valid_nat hv
  rw [List.length_map] at h2 h4
  exact ⟨g, a.toNat, b.toNat, rfl, hg, hv, by omega, by omega, by omega, by omega, by omega⟩
theorem decEq (a b : Int) : AM.eq a b = decide (a = b) := rfl
section
variable {h : H} {v : Value} {l : List Int} {n0 n1 : Int}
theorem s58_bad (hs0 : SlR h 3 1 v (cellsI l)) (hok : okW l n0 n1 = false) : f58 rcG 100 v n0 n1 h = some (.tuple #[.slice none 0 0, iv 2], h) := by
  have e63 := s63 hs0
  have c63 := fun (K : Value → H → Option (Value × H)) => (rcG_ne (by decide) (by decide)).trans (calls_eq (K := K) (xs := [v]) e63)
  cases hv : validG l with
  | false =>
    rw [hv] at c63
    unfold f58
    rw [c63]
    rfl
  | true =>
    obtain ⟨g, rfl, hg⟩ := valid_nat hv
    rw [cellsN_eq] at hs0
    rw [hv, if_pos rfl] at c63
    have c79 := fun (z : Int) (K : Value → H → Option (Value × H)) => (rcG_ne (by decide) (by decide)).trans (calls_eq (K := K) (xs := [v, iv z]) (s79 (z := z) hs0))
    unfold f58
    rw [c63, ext20, ext21, asB_bool, Bool.not_true, ifB_false, c79, asB_bool]
    unfold okW at hok
    rw [hv, Bool.true_and, List.length_map, show (decide (0 ≤ n0) && decide (n0 < (g.length : Int))) = nodeB g n0 from rfl, show (decide (0 ≤ n1) && decide (n1 < (g.length : Int))) = nodeB g n1 from rfl] at hok
    cases h0 : nodeB g n0 with
    | false => rfl
    | true =>
      rw [Bool.not_true, ifB_false, c79, asB_bool]
      rw [h0, Bool.true_and] at hok
      cases h1 : nodeB g n1 with
      | false => rfl
      | true =>
        rw [Bool.not_true, ifB_false, decEq]
        rw [h1, Bool.true_and] at hok
        rw [show decide (n0 = n1) = true by simpa using hok, ifB_true]
/-- The program's Cut. -/
noncomputable def cutA (g : List Nat) (s t : Nat) : Int × Int := if adj g s t = true then (0, 2) else ((cutP g s t : Nat), 0)
theorem s59 {g : List Nat} {s t : Nat} (hg : GrN g) (hval : validG (g.map Int.ofNat) = true) (hs0 : SlR h 3 1 v (cellsN g)) (hs : s < g.length) (ht : t < g.length) (hst : s ≠ t) : rn 59 #[v, iv s, iv t] h = some (.tuple #[iv (cutA g s t).1, iv (cutA g s t).2], h) := by
  have hlen := hg.len
  have hpow := hg.pow
  have e63 := s63 (v := v) (l := g.map Int.ofNat) (h := h) (by rw [cellsN_eq]; exact hs0)
  rw [if_pos hval] at e63
  have nd : ∀ {z : Nat}, z < g.length → nodeB g (z : Int) = true := fun {z} hz => by unfold nodeB; simp; omega
  have e79s := s79 (z := (s : Int)) hs0
  have e79t := s79 (z := (t : Int)) hs0
  rw [nd hs] at e79s
  rw [nd ht] at e79t
  have hn : ∀ {T : Type} (K : Int → Option T), len v K = K (g.length : Int) := fun K => by rw [hs0.len]; simp
  have c63 := fun (K : Value → H → Option (Value × H)) => calls_eq (K := K) (xs := [v]) e63
  have c79s := fun (K : Value → H → Option (Value × H)) => calls_eq (K := K) (xs := [v, iv s]) e79s
  have c79t := fun (K : Value → H → Option (Value × H)) => calls_eq (K := K) (xs := [v, iv t]) e79t
  have c80 := fun (K : Value → H → Option (Value × H)) => calls_eq (K := K) (xs := [v, iv s, iv t]) (s80 hg.toGrB hs0 hs ht)
  have c65 := fun (K : Value → H → Option (Value × H)) => calls_eq (K := K) (xs := [v]) (s65 hg.toGrB hs0)
  refine p59 (k := 2000) (h1 := h) ?_ rfl (.refl _)
  unfold f59 cutA
  rw [c63, ext20, ext21, asB_bool, Bool.not_true, ifB_false, c79s, asB_bool, Bool.not_true, ifB_false, c79t, asB_bool, Bool.not_true, ifB_false, eqN', decide_eq_false hst, ifB_false, c80, asB_bool]
  cases ha : adj g s t with
  | true => rfl
  | false => rw [ifB_false, c65, asI_int, hn, nn_ge (by omega), lp_eq (s59c hg hs0 hs ht), onE_exit, if_pos rfl, gv20, if_neg (by simp)]
open Classical in
/-- Ways, told. -/
noncomputable def g58 (args : Array Value) (h : H) : Option (Value × H) :=
  match args.toList with
  | [v0, .int .i64 n0, .int .i64 n1] =>
    match f58 rcG 100 v0 n0 n1 h with
    | some (v, h1) => if Ext h h1 then some (v, ⟨h1.blk, h1.nx, h.wr⟩) else none
    | none => none
  | _ => none
theorem g58_of {v0 v : Value} {h1 : H} (e : f58 rcG 100 v0 n0 n1 h = some (v, h1)) (x : Ext h h1) : g58 #[v0, iv n0, iv n1] h = some (v, ⟨h1.blk, h1.nx, h.wr⟩) := by
  unfold g58
  simp only [e, if_pos x]
theorem g58_sure (hmix : Tryd.prog.follows .mixedOrders = true) {args : Array Value} {h h' : H} {v : Value} (e : g58 args h = some (v, h')) : Sure Tryd.prog E0 58 args h v h' := by
  unfold g58 at e
  split at e
  · rename_i v0 n0 n1 ha
    split at e
    · rename_i v1 h1 e1
      split at e
      · rename_i x
        simp only [Option.some.injEq, Prod.mk.injEq] at e
        obtain ⟨rfl, rfl⟩ := e
        have ea : args = #[v0, iv n0, iv n1] := by
          cases args
          simp only at ha
          rw [ha]
        rw [ea]
        rw [← e58] at e1
        obtain ⟨v2, h2, g1, g2⟩ := bodyT_some e1
        cases g2
        have b := body_sound (rcG_sound hmix) (draw_ok hmix (rcG_sound hmix)) g1
        refine ⟨b.1, ⟨x.nx, Nat.le_refl _, fun _ q hq => x.blk q hq, b.2.1.2.2.2⟩, fun ι w args' r ha => (b.2.2 ι w args' r ha).mono ?_⟩
        rintro e2 w' ⟨v', ι', rfl, t, r1, hv⟩
        exact ⟨v', ι', rfl, ⟨t.nx, t.ext, t.os, t.tape, t.output, t.size, t.fr, t.own⟩, ⟨r1.dom, r1.blk, r1.inj, r1.ng, r1.glob, r1.globB, r1.globO⟩, hv⟩
      · cases e
    · cases e
  · cases e
/-- All told. -/
noncomputable def rcH : Rec := over rcG 58 g58
theorem rcH_sound (hmix : Tryd.prog.follows .mixedOrders = true) : SoundR Tryd.prog E0 rcH := over_sound (rcG_sound hmix) fun _ _ _ _ e => g58_sure hmix e
theorem rcH_ne {f : FuncId} (h1 : f ≠ 114) (h2 : f ≠ 101) (h3 : f ≠ 58) {h : H} {xs : List Value} {R : Type} {K : Value → H → Option R} : calls rcH h f xs K = calls rn h f xs K := (calls_over h3).trans (rcG_ne h1 h2)
theorem k58_bad (hs0 : SlR h 3 1 v (cellsI l)) (hok : okW l n0 n1 = false) (K : Value → H → Option R) : calls rcH h 58 [v, iv n0, iv n1] K = K (.tuple #[.slice none 0 0, iv 2]) h :=
  calls_at (g58_of (s58_bad hs0 hok) (.refl _))
theorem k58 (hmix : Tryd.prog.follows .mixedOrders = true) {g : List Nat} {s t : Nat} (hg : GrN g) (hval : validG (g.map Int.ofNat) = true) (hs0 : SlR h 3 1 v (cellsN g)) (hs : s < g.length) (ht : t < g.length) (hst : s ≠ t) :
    ∃ ov h' vs first w, (∀ {R : Type} (K : Value → H → Option R), calls rcH h 58 [v, iv s, iv t] K = K (.tuple #[ov, iv 0]) h') ∧ Exw h h' ∧ SlR h' 22 1 ov (cellsV vs) ∧ AllSl vs ∧ LSI h' vs ((elts first).map fun u => (s :: u :: w u).map Int.ofNat) ∧ WaysR g s t first w := by
  obtain ⟨ov, h1, vs, first, w, e, x, q1, q2, q3, q4⟩ := s58 hmix hg hval hs0 hs ht hst
  have x' : Ext h1 ⟨h1.blk, h1.nx, h.wr⟩ := ⟨Nat.le_refl _, fun _ _ => rfl⟩
  exact ⟨ov, ⟨h1.blk, h1.nx, h.wr⟩, vs, first, w, fun K => calls_at (g58_of e x), ⟨x.trans x', rfl⟩, q1.ext x', q2, q3.ext x', q4⟩
end
section
variable {g : List Nat} {s t first : Nat} {w : Nat → List Nat}
/-- As many ways as_ can be. -/
theorem WaysR.most (r : WaysR g s t first w) (hg : GrB g) (hs : s < g.length) (ht : t < g.length) (hst : s ≠ t) : mostP g s t = (elts first).length := by
  obtain ⟨F, Rr, f, e, hF, _⟩ := r.ex
  have hc : cntN g.length (F s) = pop first := by
    rw [← cnt_pop hg r.fb]
    exact cnt_congr fun u _ => hF u
  obtain ⟨m0, m1⟩ := flow_min hg e f hs ht hst
  rw [elts_len, ← hc]
  unfold mostP
  by_cases ha : adj g s t = true
  · rw [if_pos ha]
    obtain ⟨k, hk, m⟩ := m1 ha
    have hl := delE_len g s t
    have ha' : adj (delE g s t) s t = false := by rw [adj_delE hs ht hst]; simp
    rw [m.pop (hg.delE s t) (by omega) hst ha', hk]
    omega
  · rw [if_neg ha]
    have ha' := Bool.eq_false_iff.2 ha
    exact (m0 ha').pop hg hs hst ha'
end
end Go.AM
end

section
namespace Go.AM
open Go.Proofs
variable {R : Type}
theorem f16_l3_eq : f16_l3 = f16_l1 := by kernel_rfl
theorem f16_l5_eq : f16_l5 = f16_l1 := by kernel_rfl
theorem f16_l7_eq : f16_l7 = f16_l1 := by kernel_rfl
noncomputable def tail16 (rec : Rec) (k : Nat) (v0 v3 : Value) (n0 n1 : Int) (h6 : H) : Option (Value × H) :=
  six v0 n0 1 fun b0 b1 =>
  ld Tryd.prog h6 3 b0 b1 fun v11 =>
  asI .i64 v11 fun n10 =>
  nn n1 (
    ifB (AM.eq (AM.and .i64 (shr .i64 n10 n1) 1) 1) (
      calls rec h6 20 [] fun v12 h7 =>
      asB v12 fun q1 =>
      some ((.bool q1), h7)) (
      calls rec h6 18 [v0] fun v13 h8 =>
      calls rec h8 59 [v13, (.int .i64 n0), (.int .i64 n1)] fun v14 h9 =>
      ext v14 0 fun v15 =>
      asI .i64 v15 fun n11 =>
      ext v14 1 fun v16 =>
      asI .i64 v16 fun n12 =>
      ifB (!(AM.eq n12 0)) (
        some ((.bool false), h9)) (
        ifB (AM.lt n11 0) (
          some ((.bool false), h9)) (
          len v0 fun n13 =>
          nn n13 (
            ifB (AM.le (shl .i64 1 n13) n11) (
              some ((.bool false), h9)) (
              calls rec h9 43 [(.int .i64 n11)] fun v17 h10 =>
              asI .i64 v17 fun n14 =>
              len v3 fun n15 =>
              ifB (!(AM.eq n14 n15)) (
                some ((.bool false), h10)) (
                len v3 fun n16 =>
                lp k (f16_l1 rec k v0 v3 n11 n16) [(.bool false), (.int .i64 0)] h10 fun e1 ws3 h15 =>
                onE e1 0 (
                  calls rec h15 20 [] fun v21 h16 =>
                  asB v21 fun q3 =>
                  some ((.bool q3), h16)) (
                  onR e1 (
                    some (AM.gv ws3 0, h15))))))))))
section
variable {g : List Nat} {s t : Nat} {h : H} {tv : Value}
/-- How many nodes of one way lie in the cut. -/
theorem s16_l2 (hg : GrN g) (hs0 : SlR h 3 1 tv (cellsN g)) {X : Nat} (hX : X < 1024) {v18 : Value} {m : List Nat} (hm : SlR h 3 1 v18 (cellsN m)) (hml : m.length < 90) (hin : ∀ x ∈ m, x < g.length) :
    lpGo (f16_l2 rcH 100 tv (X : Nat) v18 (m.length : Nat)) 100 [.bool false, iv 0, iv 0] h = some (.exit 2, [.bool false, iv (m.countP fun v => X.testBit v : Nat), iv (m.length : Nat)], h) := by
  have hlen := hg.len
  have key : ∀ (d i k : Nat), i + d = m.length → d < k → lpGo (f16_l2 rcH 100 tv (X : Nat) v18 (m.length : Nat)) k [.bool false, iv ((m.take i).countP fun v => X.testBit v : Nat), iv (i : Nat)] h = some (.exit 2, [.bool false, iv (m.countP fun v => X.testBit v : Nat), iv (m.length : Nat)], h) := by
    intro d
    induction d with
    | zero =>
      intro i k hi hk
      obtain ⟨k, rfl⟩ : ∃ j, k = j + 1 := ⟨k - 1, by omega⟩
      have : i = m.length := by omega
      subst this
      rw [List.take_length]
      refine lpGo_exit ?_
      unfold f16_l2
      rw [gv32, asI_int, lt_self, ifB_false, gv30, gv31]
      rfl
    | succ d ih =>
      intro i k hi hk
      obtain ⟨k, rfl⟩ : ∃ j, k = j + 1 := ⟨k - 1, by omega⟩
      have hx := List.getElem?_eq_getElem (l := m) (i := i) (by omega)
      generalize m[i]'(by omega) = x at hx
      have hxn := hin x (List.mem_of_getElem? hx)
      have e1 : ∀ {T : Type} (K : Value → Option T), (six v18 (i : Int) 1 fun b o => ld Tryd.prog h 3 b o K) = K (iv (x : Int)) := fun K => hm.ld0 ag3 (by omega) (x := [iv (x : Int)]) (by simp [hx]) rfl K
      have e38 : rn 38 #[tv, iv (x : Nat)] h = some (.bool true, h) := by
        rw [s38 (tv := tv) (l := g.map Int.ofNat) (z := (x : Int)) (h := h) (by rw [cellsN_eq]; exact hs0), List.length_map]
        simp [hxn]
      have c38 := fun (K : Value → H → Option (Ex × List Value × H)) => (rcH_ne (by decide) (by decide) (by decide)).trans (calls_eq (K := K) (xs := [tv, iv (x : Nat)]) e38)
      have hcl : (m.take i).countP (fun v => X.testBit v) ≤ 90 := Nat.le_trans List.countP_le_length (by rw [List.length_take]; omega)
      have hstep : add .i64 ((m.take i).countP (fun v => X.testBit v) : Int) (AM.and .i64 (shr .i64 (X : Int) (x : Int)) 1) = (((m.take (i + 1)).countP fun v => X.testBit v : Nat) : Int) := by
        rw [bit_nat (by omega) (by omega), List.take_add_one, hx, List.countP_append]
        simp only [Option.toList_some, List.countP_singleton]
        cases X.testBit x with
        | true => simp only [if_true]; exact add1 (by omega)
        | false => simp only [Bool.false_eq_true, if_false]; rw [add64 (by omega) (by omega)]; simp
      refine (lpGo_next (ws' := [.bool false, iv ((m.take (i + 1)).countP fun v => X.testBit v : Nat), iv ((i + 1 : Nat) : Int)]) (h' := h) ?_).trans (ih (i + 1) k (by omega) (by omega))
      unfold f16_l2
      rw [gv32, gv31, gv30, asI_int, lt_nat (by omega), ifB_true, asK_int, e1, asI_int, c38, asB_bool, Bool.not_true, ifB_false, nn_ge (by omega), asI_int, asI_int, hstep, add1 (by omega)]
      rfl
  exact key m.length 0 100 (by omega) (by omega)
theorem s16_l1 (hg : GrN g) (hs0 : SlR h 3 1 tv (cellsN g)) {X : Nat} (hX : X < 1024) {L : List Nat} {w : Nat → List Nat} (wI : WaysI g s t L w) (hL : L.length ≤ 20) {ov : Value} {vs : List Value} (hov : SlR h 22 1 ov (cellsV vs)) (hvs : AllSl vs) (hl : LSI h vs (L.map fun u => (s :: u :: w u).map Int.ofNat)) (hs : s < g.length)
    (hone : ∀ u ∈ L, (s :: u :: w u).countP (fun v => X.testBit v) = 1) :
    ∃ ws, lpGo (f16_l1 rcH 100 tv ov (X : Nat) (L.length : Nat)) 100 [.bool false, iv 0] h = some (.exit 0, ws, h) := by
  have hvl : vs.length = L.length := by rw [hl.1, List.length_map]
  obtain ⟨e, ws', h', el, rfl, rfl⟩ := lp_range (F := f16_l1 rcH 100 tv ov (X : Nat) (L.length : Nat)) (k := 100) (n := L.length)
    (fun i ws h' => h' = h ∧ ws = [.bool false, iv i]) (fun e ws h' => e = .exit 0 ∧ h' = h)
    (by
      rintro i ws h' hi ⟨rfl, rfl⟩
      have hu := List.getElem?_eq_getElem hi
      generalize L[i] = u at hu
      have huL := List.mem_of_getElem? hu
      have hx : vs[i]? = some (vs[i]'(by omega)) := List.getElem?_eq_getElem (by omega)
      generalize vs[i]'(by omega) = x at hx
      obtain ⟨p, q, r, rfl⟩ := hvs x (List.mem_of_getElem? hx)
      have hsx : SlR h' 3 1 (.slice p q r) (cellsN (s :: u :: w u)) := by
        have := hl.2 i _ ((s :: u :: w u).map Int.ofNat) hx (by rw [List.getElem?_map, hu]; rfl)
        rw [cellsN_eq] at this
        exact this
      have hin := chain_in hg.toGrB _ _ (wI.ch u huL)
      have hwl := wI.len u huL
      have hlx : ∀ {T : Type} (K : Int → Option T), len (.slice p q r) K = K ((s :: u :: w u).length : Nat) := fun K => by rw [hsx.len, List.length_map]
      have e0 : ∀ {T : Type} (K : Value → Option T), (six ov (i : Int) 1 fun b o => ld Tryd.prog h' 22 b o K) = K (.slice p q r) := fun K => hov.ld0 ag22 (by omega) (x := [.slice p q r]) (by rw [Int.toNat_natCast, List.getElem?_map, hx]; rfl) rfl K
      have e2 := s16_l2 hg hs0 hX hsx (by simp only [List.length_cons]; omega) (fun y hy => by
        rcases List.mem_cons.1 hy with rfl | hy
        · exact hs
        · exact hin y hy)
      rw [hone u huL] at e2
      refine ⟨.normal, [.bool false, iv ((i + 1 : Nat) : Int)], h', ?_, .inl ⟨rfl, rfl, rfl⟩⟩
      unfold f16_l1
      rw [gv21, gv20, asI_int, lt_nat hi, ifB_true, asK_int, e0, hlx, lp_eq e2, onE_exit, if_pos rfl, gv31, gv30, asI_int, show (!AM.eq ((1 : Nat) : Int) 1) = false from rfl, ifB_false, asI_int, add1 (by omega)]
      rfl)
    (by
      rintro ws h' ⟨rfl, rfl⟩
      refine ⟨.exit 0, [.bool false, iv (L.length : Nat)], h', ?_, by simp, rfl, rfl⟩
      unfold f16_l1
      rw [gv21, gv20, asI_int, lt_self, ifB_false]
      rfl)
    (by omega) ⟨rfl, rfl⟩
  exact ⟨ws', el⟩
theorem s16_tail (hawake : ∀ h, rn 20 #[] h = some (.bool true, h)) (hg : GrN g) (hval : validG (g.map Int.ofNat) = true) (hs0 : SlR h 3 1 tv (cellsN g)) {first : Nat} {w : Nat → List Nat} (r : WaysR g s t first w) {ov : Value} {vs : List Value} (hov : SlR h 22 1 ov (cellsV vs)) (hvs : AllSl vs) (hl : LSI h vs ((elts first).map fun u => (s :: u :: w u).map Int.ofNat)) (hs : s < g.length) (ht : t < g.length) (hst : s ≠ t) :
    ∃ h', tail16 rcH 100 tv ov (s : Nat) (t : Nat) h = some (.bool true, h') := by
  have hlen := hg.len
  have hpow := hg.pow
  have hnb : nb g s < 1024 := Nat.lt_of_lt_of_le (hg.nb_lt s) hpow
  have hpl : (elts first).length ≤ 10 := by rw [elts_len]; exact pop_le_n (n := 10) (Nat.le_refl _) (Nat.lt_of_lt_of_le r.fb hg.pow)
  have hvl : vs.length = (elts first).length := by rw [hl.1, List.length_map]
  have k20 : ∀ (h : H) (K : Value → H → Option (Value × H)), calls rcH h 20 [] K = K (.bool true) h := fun h K => (rcH_ne (by decide) (by decide) (by decide)).trans (calls_eq (xs := []) (hawake h))
  unfold tail16
  simp only [d3]
  rw [getN hs0 hs, asI_int, nn_ge (by omega), bit1 (by omega) (by omega)]
  cases ha : adj g s t with
  | true =>
    refine ⟨h, ?_⟩
    rw [show (nb g s).testBit t = true from ha, ifB_true, k20]
    rfl
  | false =>
    have htk : (g.map Int.ofNat).take 14 = g.map Int.ofNat := List.take_of_length_le (by rw [List.length_map]; omega)
    obtain ⟨va, h1, e18, x1, sa⟩ := s18 (h := h) (v := tv) (l := g.map Int.ofNat) (by rw [cellsN_eq]; exact hs0)
    rw [htk, cellsN_eq] at sa
    have x1' := x1.toExt
    have hs1 := hs0.ext x1'
    obtain ⟨c1, c2, c3⟩ := cutP_is hg.toGrB hs hst ha
    have hmost := r.most hg.toGrB hs ht hst
    unfold mostP at hmost
    rw [if_neg (by rw [ha]; simp)] at hmost
    obtain ⟨F, Rr, f, e, hF, hw⟩ := r.ex
    have hone := one_each hg.toGrB f c1 c2 r.fb hF (by rw [hmost, elts_len]) hw
    have c18 := fun (K : Value → H → Option (Value × H)) => (rcH_ne (by decide) (by decide) (by decide)).trans (calls_eq (K := K) (xs := [tv]) e18)
    have c59 := fun (K : Value → H → Option (Value × H)) => (rcH_ne (by decide) (by decide) (by decide)).trans (calls_eq (K := K) (xs := [va, iv s, iv t]) (s59 hg hval sa hs ht hst))
    have c43 := fun (K : Value → H → Option (Value × H)) => (rcH_ne (by decide) (by decide) (by decide)).trans (calls_eq (K := K) (xs := [iv (cutP g s t : Nat)]) (s43 (S := cutP g s t) (by omega) h1))
    have hn : ∀ {T : Type} (K : Int → Option T), len tv K = K (g.length : Int) := fun K => by rw [hs0.len]; simp
    have hlo : ∀ {T : Type} (K : Int → Option T), len ov K = K ((elts first).length : Nat) := fun K => by rw [hov.len, List.length_map, hvl]
    obtain ⟨ws, el⟩ := s16_l1 hg hs1 (X := cutP g s t) (by omega) (r.toI hg.toGrB hst) (by omega) (hov.ext x1') hvs (hl.ext x1') hs hone
    refine ⟨h1, ?_⟩
    rw [show (nb g s).testBit t = false from ha, ifB_false, c18, c59]
    unfold cutA
    rw [if_neg (by rw [ha]; simp), ext20, asI_int, ext21, asI_int, show (!AM.eq 0 0) = false from rfl, ifB_false, show AM.lt ((cutP g s t : Nat) : Int) 0 = false by simp [AM.lt], ifB_false, hn, nn_ge (by omega), shl_pow hlen, show AM.le ((2 ^ g.length : Nat) : Int) ((cutP g s t : Nat) : Int) = false by simp only [AM.le, decide_eq_false_iff_not]; omega, ifB_false, c43, asI_int, hlo, hmost, eqN', decide_eq_true rfl, Bool.not_true, ifB_false, hlo, lp_eq el, onE_exit, if_pos rfl, k20]
    rfl
end
set_option maxHeartbeats 1000000 in
theorem s16 (hmix : Tryd.prog.follows .mixedOrders = true) (hawake : ∀ h, rn 20 #[] h = some (.bool true, h)) {h : H} {v : Value} {l : List Int} {n0 n1 : Int} (hs : SlR h 3 1 v (cellsI l)) : ∃ h', f16 rcH 100 v n0 n1 h = some (.bool true, h') := by
  obtain ⟨va, h1, e18a, x1, sa⟩ := s18 hs
  have k20 : ∀ (h : H) (K : Value → H → Option (Value × H)), calls rcH h 20 [] K = K (.bool true) h := fun h K => (rcH_ne (by decide) (by decide) (by decide)).trans (calls_eq (xs := []) (hawake h))
  have c18a := fun (K : Value → H → Option (Value × H)) => (rcH_ne (by decide) (by decide) (by decide)).trans (calls_eq (K := K) (xs := [v]) e18a)
  by_cases hok : okW l n0 n1 = true
  · obtain ⟨g, s, t, rfl, hg, hval, rfl, rfl, hsn, htn, hst⟩ := okW_nat hok
    have hlen := hg.len
    have hpow := hg.pow
    have hal := allN_lt g
    have htk : (g.map Int.ofNat).take 14 = g.map Int.ofNat := List.take_of_length_le (by rw [List.length_map]; omega)
    rw [htk] at sa
    rw [cellsN_eq] at sa hs
    obtain ⟨ov, h2, vs, first, w, k58, x2, q1, q2, q3, q4⟩ := k58 hmix hg hval sa hsn htn hst
    obtain ⟨vb, h4, e18b, x4, sb⟩ := s18 (h := h2) (v := v) (l := g.map Int.ofNat) (by rw [cellsN_eq]; exact (hs.ext x1.toExt).ext x2.toExt)
    rw [htk, cellsN_eq] at sb
    have hs4 := ((hs.ext x1.toExt).ext x2.toExt).ext x4.toExt
    have hvl : vs.length = (elts first).length := by rw [q3.1, List.length_map]
    have c18b := fun (K : Value → H → Option (Value × H)) => (rcH_ne (by decide) (by decide) (by decide)).trans (calls_eq (K := K) (xs := [v]) e18b)
    have c24 := fun (K : Value → H → Option (Value × H)) => (rcH_ne (by decide) (by decide) (by decide)).trans (calls_eq (K := K) (xs := [vb]) (s24 hg hval sb))
    have c33 := fun (K : Value → H → Option (Value × H)) => (rcH_ne (by decide) (by decide) (by decide)).trans (calls_eq (K := K) (xs := [v, iv (allN g : Nat), iv (0 : Nat)]) (s33 hg.toGrB hs4 hg.pos hal))
    have hn : ∀ {T : Type} (K : Int → Option T), len v K = K (g.length : Int) := fun K => by rw [hs4.len]; simp
    have hlo : ∀ {T : Type} (K : Int → Option T), len ov K = K ((elts first).length : Nat) := fun K => by rw [q1.len, List.length_map, hvl]
    obtain ⟨h', et⟩ := s16_tail hawake hg hval hs4 q4 (q1.ext x4.toExt) q2 (q3.ext x4.toExt) hsn htn hst
    have hsa : sub .i64 (AM.shl .i64 1 (g.length : Int)) 1 = ((allN g : Nat) : Int) := shl_all hlen
    have hrl := rch_lt g (allN g) 0
    refine ⟨h', ?_⟩
    unfold f16
    rw [c18a, k58, ext20, ext21, asI_int, show (!AM.eq 0 0) = false from rfl, ifB_false, c18b, c24, ext20, asI_int, ext21, asI_int, show (!AM.eq 0 0) = false from rfl, ifB_false, f16_l3_eq, f16_l5_eq, f16_l7_eq]
    cases hc : AM.eq ((cutsP g (allN g) : Nat) : Int) 0 with
    | false => exact et
    | true =>
      rw [ifB_true, hn]
      cases h3 : AM.le 3 (g.length : Int) with
      | false => exact et
      | true =>
        rw [ifB_true, hn, nn_ge (by omega), hsa]
        refine (c33 _).trans ?_
        rw [asI_int, hn, nn_ge (by omega), hsa, eqN']
        by_cases hr : rch g (allN g) 0 = allN g
        · have hbi : Bi g (allN g) := by
            refine double_bi hg ?_
            unfold doubleP
            have h3' : 3 ≤ g.length := by simp only [AM.le, decide_eq_true_eq] at h3; omega
            have hc' : cutsP g (allN g) = 0 := by
              have := of_decide_eq_true (p := ((cutsP g (allN g) : Nat) : Int) = 0) hc
              omega
            have hlow : low (allN g) = 0 := by
              have := low_min (n := allN g) (i := 0) (by omega) (by rw [allN_bit, decide_eq_true (show 0 < g.length from hg.pos)])
              omega
            unfold connS
            rw [hlow, decide_eq_true hr, decide_eq_true h3', hc']
            simp
          have h3' : 3 ≤ g.length := by simp only [AM.le, decide_eq_true_eq] at h3; omega
          obtain ⟨F, Rr, f, e, hF, _⟩ := q4.ex
          obtain ⟨m0, m1⟩ := flow_min hg.toGrB e f hsn htn hst
          have hc : cntN g.length (F s) = pop first := by
            rw [← cnt_pop hg.toGrB q4.fb]
            exact cnt_congr fun u _ => hF u
          have h2w := two_ways hg hbi h3' hsn htn m0 m1
          rw [hc, ← elts_len] at h2w
          rw [decide_eq_true hr, ifB_true, hlo, show AM.lt ((elts first).length : Int) 2 = false by simp only [AM.lt, decide_eq_false_iff_not]; omega, ifB_false]
          exact et
        · rw [decide_eq_false hr, ifB_false]
          exact et
  · have hok' : okW l n0 n1 = false := Bool.eq_false_iff.2 hok
    have hokt : okW (l.take 14) n0 n1 = false := by
      cases hv : validG l with
      | false =>
        unfold okW
        rw [validG_take, hv]; rfl
      | true =>
        obtain ⟨g, rfl, hg⟩ := valid_nat hv
        have hlen := hg.len
        rw [List.take_of_length_le (by rw [List.length_map]; omega)]
        exact hok'
    have k58 := fun (K : Value → H → Option (Value × H)) => k58_bad sa hokt K
    refine ⟨h1, ?_⟩
    unfold f16
    rw [c18a, k58, ext20, ext21, asI_int, show (!AM.eq 2 0) = true from rfl, ifB_true, show AM.eq 2 2 = true from rfl, ifB_true, k20]
    rfl
end Go.AM
end

section
namespace Go.AM
open Go.Proofs
noncomputable def awakeOk : Bool := match call Tryd.prog E0 60 20 #[] ⟨fun _ => none, 0, 0⟩ with
  | some (.bool b, _) => b
  | _ => false
theorem awake_run : awakeOk = true := by decide +kernel
theorem s20 (h : H) : rn 20 #[] h = some (.bool true, h) := by
  have ht := awake_run
  unfold awakeOk at ht
  split at ht
  · rename_i b h' hc
    subst ht
    exact run_iso (n := 59) (by rfl) (iso_any (by rfl) hc)
  · cases ht
end Go.AM
end

section
namespace Go.AM
open Go.Proofs Go.ChangeShapes
variable {HH : Type} {enc : TypeId × Value → HH} {w : World} {base : Nat} {held : Bool}
theorem flat3 (n : Nat) (cs : List Value) (x : DataW HH × List MemPlace) (h : DataW.trod enc Tryd.prog w base (fun _ => true) held n 3 cs = some x) : ∃ z : Int, cs = [iv z] := by
  obtain ⟨z, h1, _⟩ := DataW.trod_int (show Tryd.prog.underlying 3 = some (.int .i64) from by kernel_rfl) h
  exact ⟨z, h1⟩
theorem cellsOf3 : Tryd.prog.cellsOf 3 = 1 := by kernel_rfl
theorem under3 : Tryd.prog.underlying 3 = some (.int .i64) := by kernel_rfl
theorem bytes3 : Tryd.prog.bytesOf 3 = 8 := by kernel_rfl
theorem ints_of : ∀ (l : List (List Value)), (∀ x ∈ l, ∃ z : Int, x = [iv z]) → ∃ l' : List Int, l = l'.map fun z => [iv z] := by
  intro l
  induction l with
  | nil => intro _; exact ⟨[], rfl⟩
  | cons x l ih =>
    intro h
    obtain ⟨c, hc⟩ := h x (by simp)
    obtain ⟨l', hl⟩ := ih (fun y hy => h y (List.mem_cons_of_mem _ hy))
    exact ⟨c :: l', by rw [hc, hl]; rfl⟩
set_option maxRecDepth 100000 in
/-- A graph that came in. -/
theorem open_graph {rr : Reach} {b0 : Nat} {v : Value} {d : DataW HH} {ps : List MemPlace} (hv : Value.okWide Tryd.prog w rr b0 23 v) (hwt : ∀ x ∈ d.weights Tryd.prog 23, x ≤ reachBytes)
    (hd : DataW.Trod enc Tryd.prog w base (fun _ => true) held 23 v d ps) {ι : Nat → Emb} {h : H} (r : Rel Tryd.prog E0 ι h w) (hro : ∀ b k, h.blk b = some k → k.own = false) :
    ∃ (v0 : Value) (ι' : Nat → Emb) (h' : H) (l : List Int), Rel Tryd.prog E0 ι' h' w ∧ (∀ b k, h'.blk b = some k → k.own = false) ∧ Ext h h' ∧ (∀ b, b < h.nx → ι' b = ι b) ∧
      VR ι' h'.nx v0 v ∧ SlR h' 3 1 v0 (l.map fun z => [iv z]) := by
  have hu : Tryd.prog.underlying 23 = some (.slice 3) := by kernel_rfl
  simp only [Value.okWide, hu] at hv
  have hy : ∃ a len cap, v = .slice a len cap := by
    simp only [Cell.okWide, hu] at hv
    cases v <;> simp_all [Cell.ok]
  obtain ⟨a, len, cap, rfl⟩ := hy
  obtain ⟨ι', h', v0, l, g1, g2, g3, g4, g5, g6, g7⟩ := open_flat r hro hu sz3 cellsOf3 (by decide) (Q := fun x => ∃ z : Int, x = [iv z]) flat3 (by
    rintro cs ⟨c, rfl⟩
    exact ⟨rfl, fun v hv => by simp at hv; subst hv; exact ⟨_, _, rfl⟩⟩) (by rw [bytes3]; exact Nat.succ_pos _) hwt (okWide_has hu hv) hd
  obtain ⟨l', rfl⟩ := ints_of l g7
  exact ⟨v0, ι', h', l', g1, g2, g3, g4, g5, g6⟩
open Go.Proofs.YtakhklelgcfgjaaDoor
theorem glTab : Tryd.prog.globalNamed "math/bits.deBruijn64tab" = some 1 := by kernel_rfl
theorem tyTab : (Tryd.prog.globals[1]?).map (·.type) = some 136 := by kernel_rfl
theorem under136 : Tryd.prog.underlying 136 = some (.array 64 5) := by kernel_rfl
theorem under5 : Tryd.prog.underlying 5 = some (.int .u8) := by kernel_rfl
theorem cellsOf5 : Tryd.prog.cellsOf 5 = 1 := by kernel_rfl
/-- What the rows say of the package-level variables. -/
def laidT : List (String × DataW Unit) := [("math/bits.deBruijn32tab", Rows.laid_math_bits_deBruijn32tab), ("math/bits.deBruijn64tab", Rows.laid_math_bits_deBruijn64tab)]
theorem laid64_eq : (Rows.laid_math_bits_deBruijn64tab : DataW Unit) = .agg (tab64.map fun n => .lit (.int .u8 n)) := by kernel_rfl
theorem tab_len : tab64.length = 64 := by decide
set_option maxRecDepth 100000 in
/-- What the condition gives: each cell of the table. -/
theorem of_laid {W : World} (h : laidMetH Tryd.prog laidT W) (i : Nat) (z : Int) (hz : tab64[i]? = some z) : W.cell? ⟨1, i, none⟩ = some (.int .u8 z) := by
  rw [MakeChecks.laidMetH_plain _ _ _ (by kernel_rfl)] at h
  obtain ⟨ps, ⟨g0, t0, cs0, f0, p0, q0, hg0, ht0, hv0, hd0, ⟨g1, t1, cs1, f1, p1, q1, hg1, ht1, hv1, hd1, _, _⟩, _⟩, _, _⟩ := h
  obtain rfl := Option.some.inj (glTab.symm.trans hg1)
  obtain rfl := Option.some.inj (tyTab.symm.trans ht1)
  obtain ⟨xs, m1, rfl, hx1, hlen, hn3, hel⟩ := DataW.trod_array under136 hd1
  have hi : i < 64 := by rw [← tab_len]; exact (List.getElem?_eq_some_iff.1 hz).1
  have h0 := hel i hi
  rw [cellsOf5, Nat.mul_one] at h0
  have hxi : xs[i]? = some xs[i] := List.getElem?_eq_getElem (by omega)
  rw [hxi] at h0
  obtain ⟨k, e1, e2, _⟩ := DataW.trod_int under5 h0
  have hx2 : DataW.agg (tab64.map fun n => DataW.lit (.int .u8 n)) = DataW.agg (xs.map (·.1)) := by
    rw [← laid64_eq]
    exact congrArg Prod.fst hx1
  have hx3 : (tab64.map fun n => (DataW.lit (.int .u8 n) : DataW Unit)) = xs.map (·.1) := by
    exact DataW.agg.inj hx2
  have hx4 := congrArg (·[i]?) hx3
  simp only [List.getElem?_map, hz, hxi, Option.map_some, Option.some.injEq] at hx4
  rw [e2] at hx4
  have hk : z = k := by
    have h5 : (DataW.lit (Lit.int .u8 z) : DataW Unit) = DataW.lit (Lit.int .u8 k) := hx4
    exact (Lit.int.inj (DataW.lit.inj h5)).2
  subst hk
  rw [World.var?_cell hg1 hv1 i]
  have hcl : cs1.toList[i]? = some (.int .u8 z) := by
    have := congrArg (·[0]?) e1
    simpa [List.getElem?_take, List.getElem?_drop] using this
  simpa using hcl
/-- The beginning: the table alone. -/
def hTab : H := ⟨fun b => if b = 1 then some (.row (tab64.map fun n => .int .u8 n) 5 false) else none, 2, 0⟩
def ιTab : Nat → Emb := fun g => ⟨g, 0, 64, 1⟩
set_option maxRecDepth 100000 in
theorem rel_tab {W : World} (h : laidMetH Tryd.prog laidT W) : Rel Tryd.prog E0 ιTab hTab W := by
  have hc := of_laid h
  have h0 := hc 0 0 (by decide)
  have hsz : 1 < W.heap.size := by
    unfold World.cell? at h0
    split at h0
    · rename_i hb
      rcases Nat.lt_or_ge 1 W.heap.size with h1 | h1
      · exact h1
      · rw [Array.getElem?_eq_none h1] at hb; cases hb
    · cases h0
  have hrow : ∀ n, BlkR Tryd.prog ιTab n W 1 (.row (tab64.map fun n => .int .u8 n) 5 false) := by
    intro n
    refine ⟨hsz, sz5, fun i v hv => ?_⟩
    rw [List.getElem?_map] at hv
    obtain ⟨z, hz, rfl⟩ := Option.map_eq_some_iff.1 hv
    refine ⟨.int .u8 z, ?_, .int .u8 z⟩
    have := hc i z hz
    simpa [ιTab] using this
  refine ⟨fun b k hb => ?_, fun b k hb => ?_, fun b b' k k' hb _ _ ho => ?_, Nat.le_refl _, fun g _ => ⟨rfl, rfl⟩, fun g hg => ?_, fun g k hg hk => ?_⟩
  · simp only [hTab] at hb ⊢
    split at hb
    · omega
    · cases hb
  · simp only [hTab] at hb
    split at hb
    · rename_i h1
      subst h1
      cases hb
      exact hrow _
    · cases hb
  · simp only [hTab] at hb
    split at hb
    · cases hb; cases ho
    · cases hb
  · simp only [hTab, E0]
  · simp only [E0] at hk
    split at hk
    · rename_i h1
      subst h1
      cases hk
      exact ⟨rfl, hrow _⟩
    · cases hk
theorem ro_tab : ∀ b k, hTab.blk b = some k → k.own = false := by
  intro b k hb
  simp only [hTab] at hb
  split at hb
  · cases hb; rfl
  · cases hb
end Go.AM
end
