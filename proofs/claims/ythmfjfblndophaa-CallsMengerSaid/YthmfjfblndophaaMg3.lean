/- Parts of the proof, put together: what the functions of the program answer, and plain laws. -/
import Derived.Test.YthmfjfblndophaaAmQul
import Derived.Test.YthmfjfblndophaaMg2

section

/- PLAIN: one way more. -/
namespace Go.AM
open Go.Proofs
/-- The arcs are different, and none is another one backward. -/
def ApartA (a b : Arc) : Prop := (a.1, a.2.1) ≠ (b.1, b.2.1) ∧ (a.1, a.2.1) ≠ (b.2.1, b.1)

structure SimpB (B : List Arc) : Prop where
  pw : B.Pairwise ApartA
  ne : ∀ a ∈ B, a.1 ≠ a.2.1

/-- The index of an arc's call. -/
def idxA (a : Arc) : Int := if a.1.g then a.1.t - 1 else a.1.t

theorem chunk_cases {n : Nat} {l : List Kl} {d : Nat → Bool} {i : Nat} {a : Arc} (h : a ∈ chunk n l d i) : (∃ p : Nat, p < n ∧ a = (at' p i, at' p (i + 1), 1000)) ∨
    (d i = false ∧ ∃ c, l[i]? = some c ∧ a ∈ gates c i) := by
  unfold chunk at h
  split at h
  · rename_i c hc
    rcases List.mem_append.1 h with h | h
    · obtain ⟨p, hp, e⟩ := List.mem_map.1 h
      exact .inl ⟨p, List.mem_range.1 hp, e.symm⟩
    · cases hd : d i with
      | true => rw [hd] at h; simp at h
      | false => rw [hd] at h; exact .inr ⟨rfl, c, hc, by simpa using h⟩
  · cases h

theorem gates_cases {c : Kl} {i : Nat} {a : Arc} (h : a ∈ gates c i) : a = (at' c.a i, inS i, 1) ∨ a = (outS i, at' c.a (i + 1), 1) ∨ a = (at' c.b i, inS i, 1) ∨ a = (outS i, at' c.b (i + 1), 1) ∨ a = (inS i, outS i, 1) := by
  simpa [gates] using h

/-- From when to when an arc goes: a beginning, twice its time and one more at a call. -/
def whenA (x : Sp) : Int := if x.g then 4 * x.t - 3 + x.p else 4 * x.t

theorem chunk_when {n : Nat} {l : List Kl} {d : Nat → Bool} {i : Nat} {a : Arc} (h : a ∈ chunk n l d i) : whenA a.1 < whenA a.2.1 ∧ idxA a = i := by
  rcases chunk_cases h with ⟨p, _, rfl⟩ | ⟨_, c, _, hg⟩
  · simp [whenA, idxA]; omega
  · rcases gates_cases hg with rfl | rfl | rfl | rfl | rfl <;> simp [whenA, idxA] <;> omega

theorem base_mem {n : Nat} {l : List Kl} {d : Nat → Bool} {m : Nat} {a : Arc} : a ∈ baseA n l d m ↔ ∃ i, i < m ∧ a ∈ chunk n l d i := by
  unfold baseA
  rw [List.mem_flatMap]
  simp [List.mem_range]

theorem apart_of {a b : Arc} (ha : whenA a.1 < whenA a.2.1) (hb : whenA b.1 < whenA b.2.1) (h : (a.1, a.2.1) ≠ (b.1, b.2.1)) : ApartA a b := by
  refine ⟨h, fun e => ?_⟩
  simp only [Prod.mk.injEq] at e
  rw [e.1, e.2] at ha
  omega

theorem base_simp {n : Nat} {l : List Kl} {d : Nat → Bool} {m : Nat} (hne : ∀ (i : Nat) (c : Kl), l[i]? = some c → c.a ≠ c.b) : SimpB (baseA n l d m) where
  pw := by
    unfold baseA
    rw [List.pairwise_flatMap]
    refine ⟨fun i _ => ?_, ?_⟩
    · unfold chunk
      split
      · rename_i c hc
        rw [List.pairwise_append]
        refine ⟨?_, ?_, ?_⟩
        · unfold waits
          rw [List.pairwise_map]
          refine List.Pairwise.imp ?_ List.nodup_range
          intro p q hpq
          refine apart_of (by simp [whenA]; omega) (by simp [whenA]; omega) fun e => hpq ?_
          simp only [Prod.mk.injEq, Sp.mk.injEq] at e
          omega
        · split
          · exact List.Pairwise.nil
          · have hab := hne i c hc
            unfold gates ApartA
            simp [List.pairwise_cons, inS, outS, at', hab, Ne.symm hab]
        · intro a ha b hb
          obtain ⟨p, _, rfl⟩ := List.mem_map.1 ha
          split at hb
          · cases hb
          · unfold ApartA
            rcases gates_cases hb with rfl | rfl | rfl | rfl | rfl <;> simp [inS, outS, at']
      · exact List.Pairwise.nil
    · refine List.Pairwise.imp ?_ List.nodup_range
      intro i j hij a ha b hb
      obtain ⟨a1, a2⟩ := chunk_when ha
      obtain ⟨b1, b2⟩ := chunk_when hb
      refine apart_of a1 b1 fun e => hij ?_
      simp only [Prod.mk.injEq] at e
      have : idxA a = idxA b := by unfold idxA; rw [e.1]
      omega
  ne := by
    intro a ha e
    obtain ⟨i, _, hi⟩ := base_mem.1 ha
    have := (chunk_when hi).1
    rw [e] at this
    omega

/-- One way goes along x, y. -/
def stepR (r : Sp → Sp → Int) (x y : Sp) : Sp → Sp → Int := fun u v => if u = x ∧ v = y then r u v - 1 else if u = y ∧ v = x then r u v + 1 else r u v

def onA (B : List Arc) (x y : Sp) : Prop := ∃ a ∈ B, (a.1 = x ∧ a.2.1 = y) ∨ (a.1 = y ∧ a.2.1 = x)

theorem flux_step {r : Sp → Sp → Int} {χ : Sp → Int} {x y : Sp} (hxy : x ≠ y) (a : Arc) : flux (stepR r x y) χ a = flux r χ a + if (a.1 = x ∧ a.2.1 = y) ∨ (a.1 = y ∧ a.2.1 = x) then χ x - χ y else 0 := by
  obtain ⟨u, v, c⟩ := a
  simp only [flux, stepR]
  by_cases h1 : v = x ∧ u = y
  · obtain ⟨rfl, rfl⟩ := h1
    rw [if_pos ⟨rfl, rfl⟩, if_pos (.inr ⟨rfl, rfl⟩), Int.sub_mul]
    omega
  · by_cases h2 : v = y ∧ u = x
    · obtain ⟨rfl, rfl⟩ := h2
      rw [if_neg h1, if_pos ⟨rfl, rfl⟩, if_pos (.inl ⟨rfl, rfl⟩), Int.add_mul]
      omega
    · rw [if_neg h1, if_neg h2, if_neg (fun h => h.elim (fun h => h2 ⟨h.2, h.1⟩) (fun h => h1 ⟨h.2, h.1⟩))]
      omega

theorem net_step {B : List Arc} (sb : SimpB B) {r : Sp → Sp → Int} {χ : Sp → Int} {x y : Sp} (hxy : x ≠ y) (hon : onA B x y) : net B (stepR r x y) χ = net B r χ + (χ x - χ y) := by
  have none : ∀ B : List Arc, ¬ onA B x y → net B (stepR r x y) χ = net B r χ := by
    intro B hno
    unfold net
    congr 1
    refine List.map_congr_left fun a ha => ?_
    rw [flux_step hxy, if_neg fun h => hno ⟨a, ha, h⟩, Int.add_zero]
  have pw := sb.pw
  clear sb
  induction B with
  | nil => obtain ⟨a, ha, _⟩ := hon; cases ha
  | cons b B ih =>
    rw [List.pairwise_cons] at pw
    have e : ∀ r, net (b :: B) r χ = flux r χ b + net B r χ := fun r => by simp [net]
    rw [e, e, flux_step hxy]
    by_cases hb : (b.1 = x ∧ b.2.1 = y) ∨ (b.1 = y ∧ b.2.1 = x)
    · rw [if_pos hb, none B]
      · omega
      · rintro ⟨a, ha, h⟩
        have := pw.1 a ha
        unfold ApartA at this
        simp only [ne_eq, Prod.mk.injEq] at this
        rcases hb with ⟨h1, h2⟩ | ⟨h1, h2⟩ <;> rcases h with ⟨h3, h4⟩ | ⟨h3, h4⟩
        · exact this.1 ⟨by rw [h1, h3], by rw [h2, h4]⟩
        · exact this.2 ⟨by rw [h1, h4], by rw [h2, h3]⟩
        · exact this.2 ⟨by rw [h1, h4], by rw [h2, h3]⟩
        · exact this.1 ⟨by rw [h1, h3], by rw [h2, h4]⟩
    · rw [if_neg hb, ih (by
        obtain ⟨a, ha, h⟩ := hon
        rcases List.mem_cons.1 ha with rfl | ha
        · exact absurd h hb
        · exact ⟨a, ha, h⟩) pw.2]
      omega

/-- In the midst of a change: what is behind cur has been turned. -/
structure AugOk (B : List Arc) (r : Sp → Sp → Int) (k : Nat) (S T cur : Sp) : Prop where
  nn : ∀ a ∈ B, 0 ≤ r a.1 a.2.1 ∧ 0 ≤ r a.2.1 a.1 ∧ r a.1 a.2.1 + r a.2.1 a.1 = a.2.2
  bal : ∀ χ : Sp → Int, net B r χ = k * (χ S - χ T) + (χ cur - χ T)

theorem FlowOk.start {B : List Arc} {r : Sp → Sp → Int} {k : Nat} {S T : Sp} (f : FlowOk B r k S T) : AugOk B r k S T T := ⟨f.nn, fun χ => by rw [f.bal]; omega⟩

theorem AugOk.step {B : List Arc} (sb : SimpB B) {r : Sp → Sp → Int} {k : Nat} {S T cur x : Sp} (f : AugOk B r k S T cur) (hon : onA B x cur) (hr : 1 ≤ r x cur) : AugOk B (stepR r x cur) k S T x := by
  have hxy : x ≠ cur := by
    obtain ⟨a, ha, h⟩ := hon
    have := sb.ne a ha
    rcases h with ⟨h1, h2⟩ | ⟨h1, h2⟩
    · rw [← h1, ← h2]; exact this
    · rw [← h1, ← h2]; exact Ne.symm this
  refine ⟨fun a ha => ?_, fun χ => ?_⟩
  · obtain ⟨n1, n2, n3⟩ := f.nn a ha
    have hne := sb.ne a ha
    unfold stepR
    by_cases h1 : a.1 = x ∧ a.2.1 = cur
    · obtain ⟨e1, e2⟩ := h1
      rw [e1, e2] at n1 n2 n3 ⊢
      rw [if_pos ⟨rfl, rfl⟩, if_neg (fun h => hxy h.2), if_pos ⟨rfl, rfl⟩]
      omega
    · by_cases h2 : a.2.1 = x ∧ a.1 = cur
      · obtain ⟨e1, e2⟩ := h2
        rw [e1, e2] at n1 n2 n3 ⊢
        rw [if_neg (fun h => hxy h.2), if_pos ⟨rfl, rfl⟩, if_pos ⟨rfl, rfl⟩]
        omega
      · rw [if_neg h1, if_neg (fun h => h2 ⟨h.2, h.1⟩), if_neg h2, if_neg (fun h => h1 ⟨h.2, h.1⟩)]
        exact ⟨n1, n2, n3⟩
  · rw [net_step sb hxy hon, f.bal]
    omega

theorem AugOk.done {B : List Arc} {r : Sp → Sp → Int} {k : Nat} {S T : Sp} (f : AugOk B r k S T S) : FlowOk B r (k + 1) S T := ⟨f.nn, fun χ => by
  rw [f.bal]
  rw [show (((k + 1 : Nat) : Int) * (χ S - χ T)) = k * (χ S - χ T) + (χ S - χ T) by rw [Int.natCast_add, Int.add_mul]; simp]⟩

theorem step_other {r : Sp → Sp → Int} {x y u v : Sp} (h : ¬ (u = x ∧ v = y)) : r u v ≤ stepR r x y u v := by
  unfold stepR
  rw [if_neg h]
  split <;> omega

/-! ### The network at first -/
/-- The room of each arc: what is joined last stands. -/
def room0 (B : List Arc) (u v : Sp) : Int := ((B.find? fun a => decide (a.1 = u ∧ a.2.1 = v)).map (·.2.2)).getD 0

theorem pw_any {α : Type} {R : α → α → Prop} (sym : ∀ x y, R x y → R y x) : ∀ {l : List α}, l.Pairwise R → ∀ {a b : α}, a ∈ l → b ∈ l → a ≠ b → R a b := by
  intro l
  induction l with
  | nil => intro _ a b h; cases h
  | cons x l ih =>
    intro pw a b ha hb hab
    rw [List.pairwise_cons] at pw
    rcases List.mem_cons.1 ha with e1 | h1
    · rcases List.mem_cons.1 hb with e2 | h2
      · exact absurd (e1.trans e2.symm) hab
      · rw [e1]; exact pw.1 b h2
    · rcases List.mem_cons.1 hb with e2 | h2
      · rw [e2]; exact sym _ _ (pw.1 a h1)
      · exact ih pw.2 h1 h2 hab

theorem room0_arc {B : List Arc} (sb : SimpB B) {a : Arc} (ha : a ∈ B) : room0 B a.1 a.2.1 = a.2.2 ∧ room0 B a.2.1 a.1 = 0 := by
  obtain ⟨pw, ne⟩ := sb
  unfold room0
  constructor
  · have h : B.find? (fun b => decide (b.1 = a.1 ∧ b.2.1 = a.2.1)) = some a := by
      clear ne
      induction B with
      | nil => cases ha
      | cons b B ih =>
        rw [List.pairwise_cons] at pw
        rcases List.mem_cons.1 ha with rfl | ha
        · simp
        · have := pw.1 a ha
          rw [List.find?_cons_of_neg, ih ha pw.2]
          simp only [decide_eq_true_eq]
          intro h
          exact this.1 (by rw [h.1, h.2])
    rw [h]; rfl
  · have h : B.find? (fun b => decide (b.1 = a.2.1 ∧ b.2.1 = a.1)) = none := by
      rw [List.find?_eq_none]
      intro b hb h
      simp only [decide_eq_true_eq] at h
      have hab : a ≠ b := by
        rintro rfl
        exact ne a ha h.1
      have sym : ∀ x y : Arc, ApartA x y → ApartA y x := fun x y hxy => ⟨fun e => hxy.1 e.symm, fun e => hxy.2 (by simp only [Prod.mk.injEq] at e ⊢; exact ⟨e.2.symm, e.1.symm⟩)⟩
      have := pw_any sym pw ha hb hab
      exact this.2 (by rw [h.1, h.2])
    rw [h]; rfl

theorem flow0 {B : List Arc} (sb : SimpB B) (hc : ∀ a ∈ B, 0 ≤ a.2.2) (S T : Sp) : FlowOk B (room0 B) 0 S T where
  nn a ha := by
    obtain ⟨h1, h2⟩ := room0_arc sb ha
    rw [h1, h2]
    have := hc a ha
    omega
  bal χ := by
    have : net B (room0 B) χ = 0 := by
      unfold net
      have : B.map (flux (room0 B) χ) = B.map fun _ => 0 := List.map_congr_left fun a ha => by
        unfold flux
        rw [(room0_arc sb ha).2, Int.zero_mul]
      rw [this]
      clear this sb hc
      induction B with
      | nil => rfl
      | cons b B ih => simp [ih]
    rw [this]
    simp

end Go.AM

end

section

/- The staged forms of functions 113, 102, 103, 83, 84, and what calls of these answer. -/
namespace Go.AM
open Go.Proofs
noncomputable def f113 (_rec : Rec) (_k : Nat) (v0 : Value) (v1 : Value) (v2 : Value) (n0 : Int) (h0 : H) : Option (Value × H) :=
  bx h0 113 v1 fun h1 =>
  bx h1 113 v2 fun h2 =>
  nil v0 (
    asP v0 fun b0 b1 =>
    ld Try.prog h2 115 b0 b1 fun v3 =>
    ld Try.prog h2 113 (nx h0) 0 fun v4 =>
    ld Try.prog h2 113 (nx h1) 0 fun v5 =>
    bld Try.prog 120 [(0, v4), (1, v5)] fun v6 =>
    lok Try.prog h2 115 v3 v6 true fun v7 =>
    ext v7 0 fun v8 =>
    asI .i64 v8 fun _ =>
    ext v7 1 fun v9 =>
    asB v9 fun q0 =>
    ifB (not q0) (
      nil v0 (
        asP v0 fun b2 b3 =>
        ld Try.prog h2 116 b2 (off b3 1) fun v10 =>
        ld Try.prog h2 113 (nx h0) 0 fun v11 =>
        ld Try.prog h2 113 (nx h1) 0 fun v12 =>
        bls Try.prog h2 134 1 [(0, v12)] fun v13 h3 =>
        ck (freq (nx h0) (nx h2) (same h3 h2)) (
          ck (freq b2 (nx h2) (same h3 h2)) (
            men Try.prog h3 116 v10 v11 fun v14 h4 =>
            ext v14 0 fun v15 =>
            app Try.prog h4 134 134 v15 v13 fun v16 h5 =>
            ext v14 1 fun v17 =>
            asI .i64 v17 fun n2 =>
            est h5 v10 (.int .i64 n2) v16 fun h6 =>
            nil v0 (
              asP v0 fun b4 b5 =>
              ld Try.prog h6 115 b4 b5 fun v18 =>
              ld Try.prog h6 113 (nx h1) 0 fun v19 =>
              ld Try.prog h6 113 (nx h0) 0 fun v20 =>
              bld Try.prog 120 [(0, v19), (1, v20)] fun v21 =>
              lok Try.prog h6 115 v18 v21 true fun v22 =>
              ext v22 0 fun v23 =>
              asI .i64 v23 fun _ =>
              ext v22 1 fun v24 =>
              asB v24 fun q1 =>
              ifB (not q1) (
                nil v0 (
                  asP v0 fun b6 b7 =>
                  ld Try.prog h6 115 b6 b7 fun v25 =>
                  ld Try.prog h6 113 (nx h1) 0 fun v26 =>
                  ld Try.prog h6 113 (nx h0) 0 fun v27 =>
                  bld Try.prog 120 [(0, v26), (1, v27)] fun v28 =>
                  mup Try.prog h6 115 v25 v28 (.int .i64 0) fun h7 =>
                  nil v0 (
                    asP v0 fun b8 b9 =>
                    ld Try.prog h7 116 b8 (off b9 1) fun v29 =>
                    ld Try.prog h7 113 (nx h1) 0 fun v30 =>
                    ld Try.prog h7 113 (nx h0) 0 fun v31 =>
                    bls Try.prog h7 134 1 [(0, v31)] fun v32 h8 =>
                    ck (freq (nx h1) (nx h7) (same h8 h7)) (
                      ck (freq b8 (nx h7) (same h8 h7)) (
                        men Try.prog h8 116 v29 v30 fun v33 h9 =>
                        ext v33 0 fun v34 =>
                        app Try.prog h9 134 134 v34 v32 fun v35 h10 =>
                        ext v33 1 fun v36 =>
                        asI .i64 v36 fun n4 =>
                        est h10 v29 (.int .i64 n4) v35 fun h11 =>
                        nil v0 (
                          asP v0 fun b10 b11 =>
                          ld Try.prog h11 115 b10 b11 fun v37 =>
                          ld Try.prog h11 113 (nx h0) 0 fun v38 =>
                          ld Try.prog h11 113 (nx h1) 0 fun v39 =>
                          bld Try.prog 120 [(0, v38), (1, v39)] fun v40 =>
                          lok Try.prog h11 115 v37 v40 false fun v41 =>
                          asI .i64 v41 fun n5 =>
                          men Try.prog h11 115 v37 v40 fun v42 h12 =>
                          ck (twm v37 v37) (
                            ext v42 1 fun v43 =>
                            asI .i64 v43 fun n6 =>
                            est h12 v37 (.int .i64 n6) (.int .i64 (add .i64 n5 n0)) fun h13 =>
                            some (undef, h13)))))))) (
                nil v0 (
                  asP v0 fun b12 b13 =>
                  ld Try.prog h6 115 b12 b13 fun v44 =>
                  ld Try.prog h6 113 (nx h0) 0 fun v45 =>
                  ld Try.prog h6 113 (nx h1) 0 fun v46 =>
                  bld Try.prog 120 [(0, v45), (1, v46)] fun v47 =>
                  lok Try.prog h6 115 v44 v47 false fun v48 =>
                  asI .i64 v48 fun n7 =>
                  men Try.prog h6 115 v44 v47 fun v49 h14 =>
                  ck (twm v44 v44) (
                    ext v49 1 fun v50 =>
                    asI .i64 v50 fun n8 =>
                    est h14 v44 (.int .i64 n8) (.int .i64 (add .i64 n7 n0)) fun h15 =>
                    some (undef, h15))))))))) (
      nil v0 (
        asP v0 fun b14 b15 =>
        ld Try.prog h2 115 b14 b15 fun v51 =>
        ld Try.prog h2 113 (nx h1) 0 fun v52 =>
        ld Try.prog h2 113 (nx h0) 0 fun v53 =>
        bld Try.prog 120 [(0, v52), (1, v53)] fun v54 =>
        lok Try.prog h2 115 v51 v54 true fun v55 =>
        ext v55 0 fun v56 =>
        asI .i64 v56 fun _ =>
        ext v55 1 fun v57 =>
        asB v57 fun q2 =>
        ifB (not q2) (
          nil v0 (
            asP v0 fun b16 b17 =>
            ld Try.prog h2 115 b16 b17 fun v58 =>
            ld Try.prog h2 113 (nx h1) 0 fun v59 =>
            ld Try.prog h2 113 (nx h0) 0 fun v60 =>
            bld Try.prog 120 [(0, v59), (1, v60)] fun v61 =>
            mup Try.prog h2 115 v58 v61 (.int .i64 0) fun h16 =>
            nil v0 (
              asP v0 fun b18 b19 =>
              ld Try.prog h16 116 b18 (off b19 1) fun v62 =>
              ld Try.prog h16 113 (nx h1) 0 fun v63 =>
              ld Try.prog h16 113 (nx h0) 0 fun v64 =>
              bls Try.prog h16 134 1 [(0, v64)] fun v65 h17 =>
              ck (freq (nx h1) (nx h16) (same h17 h16)) (
                ck (freq b18 (nx h16) (same h17 h16)) (
                  men Try.prog h17 116 v62 v63 fun v66 h18 =>
                  ext v66 0 fun v67 =>
                  app Try.prog h18 134 134 v67 v65 fun v68 h19 =>
                  ext v66 1 fun v69 =>
                  asI .i64 v69 fun n10 =>
                  est h19 v62 (.int .i64 n10) v68 fun h20 =>
                  nil v0 (
                    asP v0 fun b20 b21 =>
                    ld Try.prog h20 115 b20 b21 fun v70 =>
                    ld Try.prog h20 113 (nx h0) 0 fun v71 =>
                    ld Try.prog h20 113 (nx h1) 0 fun v72 =>
                    bld Try.prog 120 [(0, v71), (1, v72)] fun v73 =>
                    lok Try.prog h20 115 v70 v73 false fun v74 =>
                    asI .i64 v74 fun n11 =>
                    men Try.prog h20 115 v70 v73 fun v75 h21 =>
                    ck (twm v70 v70) (
                      ext v75 1 fun v76 =>
                      asI .i64 v76 fun n12 =>
                      est h21 v70 (.int .i64 n12) (.int .i64 (add .i64 n11 n0)) fun h22 =>
                      some (undef, h22)))))))) (
          nil v0 (
            asP v0 fun b22 b23 =>
            ld Try.prog h2 115 b22 b23 fun v77 =>
            ld Try.prog h2 113 (nx h0) 0 fun v78 =>
            ld Try.prog h2 113 (nx h1) 0 fun v79 =>
            bld Try.prog 120 [(0, v78), (1, v79)] fun v80 =>
            lok Try.prog h2 115 v77 v80 false fun v81 =>
            asI .i64 v81 fun n13 =>
            men Try.prog h2 115 v77 v80 fun v82 h23 =>
            ck (twm v77 v77) (
              ext v82 1 fun v83 =>
              asI .i64 v83 fun n14 =>
              est h23 v77 (.int .i64 n14) (.int .i64 (add .i64 n13 n0)) fun h24 =>
              some (undef, h24)))))))

theorem e113 (rec : Rec) (k : Nat) (v0 : Value) (v1 : Value) (v2 : Value) (n0 : Int) (h : H) : bodyT Try.prog E0 SC (XC Try.prog rec k) 113 (Value × H) [.opq v0, .opq v1, .opq v2, .int .i64 n0] h (fun v h => some (v, h)) = f113 rec k v0 v1 v2 n0 h := by kernel_rfl

theorem t113 {k : Nat} {v0 : Value} {v1 : Value} {v2 : Value} {n0 : Int} {h h1 : H} {v : Value} (hh : f113 rn k v0 v1 v2 n0 h = some (v, h1)) : rn 113 #[v0, v1, v2, .int .i64 n0] h = some (v, trunc Try.prog h h1 v) :=
  run_of_bodyT (args := [.opq v0, .opq v1, .opq v2, .int .i64 n0]) rfl ((e113 _ _ _ _ _ _ _).trans hh)

noncomputable def f102_l2 (rec : Rec) (_k : Nat) (h3 : H) (ws0 : List Value) (n4 : Int) (ws1 : List Value) (h8 : H) : Option (Ex × List Value × H) :=
  asI .i64 (gv ws1 0) fun n5 =>
  ifB (lt n5 n4) (
    bld Try.prog 113 [(0, gv ws1 0), (1, gv ws0 0), (2, (.bool false))] fun v5 =>
    asI .i64 (gv ws0 0) fun n6 =>
    bld Try.prog 113 [(0, gv ws1 0), (1, (.int .i64 (add .i64 n6 1))), (2, (.bool false))] fun v6 =>
    calls rec h8 113 [(pt (nx h3) 0), v5, v6, (.int .i64 1000)] fun _ h9 =>
    asI .i64 (gv ws1 0) fun n7 =>
    out .normal [(.int .i64 (add .i64 n7 1))] h9) (
    out (.exit 2) [gv ws1 0] h8)

noncomputable def f102_l3 (rec : Rec) (_k : Nat) (h3 : H) (ws0 : List Value) (h10 : H) (h11 : H) (v12 : Value) (n14 : Int) (ws3 : List Value) (h16 : H) : Option (Ex × List Value × H) :=
  asI .i64 (gv ws3 0) fun n15 =>
  ifB (lt n15 n14) (
    asK (gv ws3 0) fun n16 =>
    six v12 n16 1 fun b2 b3 =>
    ld Try.prog h16 3 b2 b3 fun v13 =>
    asI .i64 v13 fun n17 =>
    bld Try.prog 113 [(0, (.int .i64 n17)), (1, gv ws0 0), (2, (.bool false))] fun v14 =>
    ld Try.prog h16 113 (nx h10) 0 fun v15 =>
    calls rec h16 113 [(pt (nx h3) 0), v14, v15, (.int .i64 1)] fun _ h17 =>
    ld Try.prog h17 113 (nx h11) 0 fun v17 =>
    asI .i64 (gv ws0 0) fun n18 =>
    bld Try.prog 113 [(0, (.int .i64 n17)), (1, (.int .i64 (add .i64 n18 1))), (2, (.bool false))] fun v18 =>
    calls rec h17 113 [(pt (nx h3) 0), v17, v18, (.int .i64 1)] fun _ h18 =>
    asI .i64 (gv ws3 0) fun n19 =>
    out .normal [(.int .i64 (add .i64 n19 1))] h18) (
    out (.exit 4) [gv ws3 0] h16)

noncomputable def f102_l1 (rec : Rec) (k : Nat) (n0 : Int) (h0 : H) (h3 : H) (v2 : Value) (n1 : Int) (ws0 : List Value) (h5 : H) : Option (Ex × List Value × H) :=
  asI .i64 (gv ws0 0) fun n2 =>
  ifB (lt n2 n1) (
    asK (gv ws0 0) fun n3 =>
    six v2 n3 3 fun b0 b1 =>
    ld Try.prog h5 56 b0 b1 fun v3 =>
    al h5 56 [(.int .i64 0), (.int .i64 0), (.int .i64 0)] fun h6 =>
    st Try.prog h6 56 (nx h5) 0 v3 fun h7 =>
    ld Try.prog h7 3 (nx h0) 0 fun v4 =>
    asI .i64 v4 fun n4 =>
    lp k (f102_l2 rec k h3 ws0 n4) [(.int .i64 0)] h7 fun e0 _ h10 =>
    onE e0 2 (
      asK (gv ws0 0) fun n8 =>
      nn n8 (
        ifB (eq (and .i64 (shr .i64 n0 n8) 1) 1) (
          asI .i64 (gv ws0 0) fun n9 =>
          out .normal [(.int .i64 (add .i64 n9 1))] h10) (
          asI .i64 (gv ws0 0) fun n10 =>
          bld Try.prog 113 [(0, (.int .i64 0)), (1, (.int .i64 (add .i64 n10 1))), (2, (.bool true))] fun v8 =>
          asI .i64 (gv ws0 0) fun n11 =>
          bld Try.prog 113 [(0, (.int .i64 1)), (1, (.int .i64 (add .i64 n11 1))), (2, (.bool true))] fun v9 =>
          al h10 113 [(.int .i64 0), (.int .i64 0), (.bool false)] fun h11 =>
          al h11 113 [(.int .i64 0), (.int .i64 0), (.bool false)] fun h12 =>
          st Try.prog h12 113 (nx h10) 0 v8 fun h13 =>
          st Try.prog h13 113 (nx h11) 0 v9 fun h14 =>
          ld Try.prog h14 3 (nx h5) 0 fun v10 =>
          asI .i64 v10 fun n12 =>
          ld Try.prog h14 3 (nx h5) (off 0 1) fun v11 =>
          asI .i64 v11 fun n13 =>
          bls Try.prog h14 25 2 [(0, (.int .i64 n12)), (1, (.int .i64 n13))] fun v12 h15 =>
          len v12 fun n14 =>
          lp k (f102_l3 rec k h3 ws0 h10 h11 v12 n14) [(.int .i64 0)] h15 fun e1 _ h19 =>
          onE e1 4 (
            ld Try.prog h19 113 (nx h10) 0 fun v20 =>
            ld Try.prog h19 113 (nx h11) 0 fun v21 =>
            calls rec h19 113 [(pt (nx h3) 0), v20, v21, (.int .i64 1)] fun _ h20 =>
            asI .i64 (gv ws0 0) fun n20 =>
            out .normal [(.int .i64 (add .i64 n20 1))] h20) (
            none)))) (
      none)) (
    out (.exit 0) [gv ws0 0] h5)

noncomputable def f102 (rec : Rec) (k : Nat) (v0 : Value) (n0 : Int) (h0 : H) : Option (Value × H) :=
  bx h0 31 v0 fun h1 =>
  mkm h1 fun h2 =>
  mkm h2 fun h3 =>
  bld Try.prog 118 [(0, (.map (some (nx h1)))), (1, (.map (some (nx h2))))] fun v1 =>
  bx h3 118 v1 fun h4 =>
  ld Try.prog h4 29 (nx h0) (off 0 1) fun v2 =>
  len v2 fun n1 =>
  lp k (f102_l1 rec k n0 h0 h3 v2 n1) [(.int .i64 0)] h4 fun e2 _ h21 =>
  onE e2 0 (
    some ((pt (nx h3) 0), h21)) (
    none)

theorem e102 (rec : Rec) (k : Nat) (v0 : Value) (n0 : Int) (h : H) : bodyT Try.prog E0 SC (XC Try.prog rec k) 102 (Value × H) [.opq v0, .int .i64 n0] h (fun v h => some (v, h)) = f102 rec k v0 n0 h := by kernel_rfl

theorem t102 {k : Nat} {v0 : Value} {n0 : Int} {h h1 : H} {v : Value} (hh : f102 rn k v0 n0 h = some (v, h1)) : rn 102 #[v0, .int .i64 n0] h = some (v, trunc Try.prog h h1 v) :=
  run_of_bodyT (args := [.opq v0, .int .i64 n0]) rfl ((e102 _ _ _ _ _).trans hh)

theorem x102 {k : Nat} {v0 : Value} {n0 : Int} {h h1 : H} {v : Value} (hh : f102 rn k v0 n0 h = some (v, h1)) (hp : plainO v = false) : rn 102 #[v0, .int .i64 n0] h = some (v, h1) := by rw [t102 hh, trunc_not hp]

noncomputable def f103_l3 (_rec : Rec) (_k : Nat) (v0 : Value) (h0 : H) (h2 : H) (h7 : H) (_ws2 : List Value) (h13 : H) : Option (Ex × List Value × H) :=
  ld Try.prog h13 113 (nx h7) 0 fun v24 =>
  ld Try.prog h13 113 (nx h0) 0 fun v25 =>
  eqv Try.prog 113 v24 v25 fun q2 =>
  ifB (not q2) (
    nil v0 (
      asP v0 fun b12 b13 =>
      ld Try.prog h13 115 b12 b13 fun v26 =>
      ld Try.prog h13 113 (nx h7) 0 fun v27 =>
      lok Try.prog h13 133 (.map (some (nx h2))) v27 false fun v28 =>
      ld Try.prog h13 113 (nx h7) 0 fun v29 =>
      bld Try.prog 120 [(0, v28), (1, v29)] fun v30 =>
      lok Try.prog h13 115 v26 v30 false fun v31 =>
      asI .i64 v31 fun n7 =>
      men Try.prog h13 115 v26 v30 fun v32 h14 =>
      ck (twm v26 v26) (
        ext v32 1 fun v33 =>
        asI .i64 v33 fun n8 =>
        est h14 v26 (.int .i64 n8) (.int .i64 (sub .i64 n7 1)) fun h15 =>
        nil v0 (
          asP v0 fun b14 b15 =>
          ld Try.prog h15 115 b14 b15 fun v34 =>
          ld Try.prog h15 113 (nx h7) 0 fun v35 =>
          ld Try.prog h15 113 (nx h7) 0 fun v36 =>
          lok Try.prog h15 133 (.map (some (nx h2))) v36 false fun v37 =>
          bld Try.prog 120 [(0, v35), (1, v37)] fun v38 =>
          lok Try.prog h15 115 v34 v38 false fun v39 =>
          asI .i64 v39 fun n9 =>
          men Try.prog h15 115 v34 v38 fun v40 h16 =>
          ck (twm v34 v34) (
            ext v40 1 fun v41 =>
            asI .i64 v41 fun n10 =>
            est h16 v34 (.int .i64 n10) (.int .i64 (add .i64 n9 1)) fun h17 =>
            ld Try.prog h17 113 (nx h7) 0 fun v42 =>
            lok Try.prog h17 133 (.map (some (nx h2))) v42 false fun v43 =>
            st Try.prog h17 113 (nx h7) 0 v43 fun h18 =>
            out .normal [] h18))))) (
    out (.exit 4) [] h13)

noncomputable def f103_l2 (rec : Rec) (k : Nat) (v0 : Value) (h0 : H) (h1 : H) (h2 : H) (v9 : Value) (n1 : Int) (ws1 : List Value) (h7 : H) : Option (Ex × List Value × H) :=
  asI .i64 (gv ws1 2) fun n2 =>
  ifB (lt n2 n1) (
    asK (gv ws1 2) fun n3 =>
    six v9 n3 3 fun b4 b5 =>
    ld Try.prog h7 113 b4 b5 fun v10 =>
    al h7 113 [(.int .i64 0), (.int .i64 0), (.bool false)] fun h8 =>
    st Try.prog h8 113 (nx h7) 0 v10 fun h9 =>
    ld Try.prog h9 113 (nx h7) 0 fun v11 =>
    lok Try.prog h9 133 (.map (some (nx h2))) v11 true fun v12 =>
    ext v12 0 fun v13 =>
    ext v12 1 fun v14 =>
    asB v14 fun q0 =>
    al h9 113 [(.int .i64 0), (.int .i64 0), (.bool false)] fun h10 =>
    st Try.prog h10 113 (nx h9) 0 v13 fun h11 =>
    ifB q0 (
      asI .i64 (gv ws1 2) fun n4 =>
      out .normal [gv ws1 0, gv ws1 1, (.int .i64 (add .i64 n4 1))] h11) (
      nil v0 (
        asP v0 fun b6 b7 =>
        ld Try.prog h11 115 b6 b7 fun v15 =>
        six (gv ws1 1) 0 3 fun b8 b9 =>
        ld Try.prog h11 113 b8 b9 fun v16 =>
        ld Try.prog h11 113 (nx h7) 0 fun v17 =>
        bld Try.prog 120 [(0, v16), (1, v17)] fun v18 =>
        lok Try.prog h11 115 v15 v18 false fun v19 =>
        asI .i64 v19 fun n5 =>
        ifB (eq n5 0) (
          asI .i64 (gv ws1 2) fun n6 =>
          out .normal [gv ws1 0, gv ws1 1, (.int .i64 (add .i64 n6 1))] h11) (
          ld Try.prog h11 113 (nx h7) 0 fun v20 =>
          six (gv ws1 1) 0 3 fun b10 b11 =>
          ld Try.prog h11 113 b10 b11 fun v21 =>
          mup Try.prog h11 133 (.map (some (nx h2))) v20 v21 fun h12 =>
          ld Try.prog h12 113 (nx h7) 0 fun v22 =>
          ld Try.prog h12 113 (nx h1) 0 fun v23 =>
          eqv Try.prog 113 v22 v23 fun q1 =>
          ifB q1 (
            lp k (f103_l3 rec k v0 h0 h2 h7) [] h12 fun e0 _ h19 =>
            onE e0 4 (
              out .ret [(.bool true), gv ws1 1, gv ws1 2] h19) (
              none)) (
            ld Try.prog h12 113 (nx h7) 0 fun v44 =>
            bls Try.prog h12 134 1 [(0, v44)] fun v45 h20 =>
            app Try.prog h20 134 134 (gv ws1 1) v45 fun v46 h21 =>
            asI .i64 (gv ws1 2) fun n11 =>
            out .normal [gv ws1 0, v46, (.int .i64 (add .i64 n11 1))] h21))))) (
    out (.exit 2) [gv ws1 0, gv ws1 1, gv ws1 2] h7)

noncomputable def f103_l1 (rec : Rec) (k : Nat) (v0 : Value) (h0 : H) (h1 : H) (h2 : H) (ws0 : List Value) (h6 : H) : Option (Ex × List Value × H) :=
  len (gv ws0 1) fun n0 =>
  ifB (lt 0 n0) (
    nil v0 (
      asP v0 fun b0 b1 =>
      ld Try.prog h6 116 b0 (off b1 1) fun v7 =>
      six (gv ws0 1) 0 3 fun b2 b3 =>
      ld Try.prog h6 113 b2 b3 fun v8 =>
      lok Try.prog h6 116 v7 v8 false fun v9 =>
      len v9 fun n1 =>
      lp k (f103_l2 rec k v0 h0 h1 h2 v9 n1) [gv ws0 0, gv ws0 1, (.int .i64 0)] h6 fun e1 ws4 h22 =>
      onE e1 2 (
        sli Try.prog h22 134 (gv ws4 1) (some (.int .i64 1)) none none fun v47 =>
        out .normal [gv ws4 0, v47] h22) (
        onR e1 (
          out .ret [gv ws4 0, gv ws4 1] h22)))) (
    out (.exit 0) [gv ws0 0, gv ws0 1] h6)

noncomputable def f103 (rec : Rec) (k : Nat) (v0 : Value) (v1 : Value) (v2 : Value) (h0 : H) : Option (Value × H) :=
  bx h0 113 v1 fun h1 =>
  bx h1 113 v2 fun h2 =>
  mkm h2 fun h3 =>
  ld Try.prog h3 113 (nx h0) 0 fun v3 =>
  ld Try.prog h3 113 (nx h0) 0 fun v4 =>
  mup Try.prog h3 133 (.map (some (nx h2))) v3 v4 fun h4 =>
  ld Try.prog h4 113 (nx h0) 0 fun v5 =>
  bls Try.prog h4 134 1 [(0, v5)] fun v6 h5 =>
  lp k (f103_l1 rec k v0 h0 h1 h2) [(.bool false), v6] h5 fun e2 ws5 h23 =>
  onE e2 0 (
    some ((.bool false), h23)) (
    onR e2 (
      some (gv ws5 0, h23)))

theorem e103 (rec : Rec) (k : Nat) (v0 : Value) (v1 : Value) (v2 : Value) (h : H) : bodyT Try.prog E0 SC (XC Try.prog rec k) 103 (Value × H) [.opq v0, .opq v1, .opq v2] h (fun v h => some (v, h)) = f103 rec k v0 v1 v2 h := by kernel_rfl

theorem t103 {k : Nat} {v0 : Value} {v1 : Value} {v2 : Value} {h h1 : H} {v : Value} (hh : f103 rn k v0 v1 v2 h = some (v, h1)) : rn 103 #[v0, v1, v2] h = some (v, trunc Try.prog h h1 v) :=
  run_of_bodyT (args := [.opq v0, .opq v1, .opq v2]) rfl ((e103 _ _ _ _ _ _).trans hh)

theorem p103 {k : Nat} {v0 : Value} {v1 : Value} {v2 : Value} {h h1 : H} {v : Value} (hh : f103 rn k v0 v1 v2 h = some (v, h1)) (hp : plainO v = true) (x : Ext h h1) : rn 103 #[v0, v1, v2] h = some (v, h) := by rw [t103 hh, trunc_pure hp x]

noncomputable def f83_l1 (rec : Rec) (_k : Nat) (v2 : Value) (h2 : H) (h3 : H) (ws0 : List Value) (h7 : H) : Option (Ex × List Value × H) :=
  ld Try.prog h7 113 (nx h2) 0 fun v6 =>
  ld Try.prog h7 113 (nx h3) 0 fun v7 =>
  eqv Try.prog 113 v6 v7 fun q0 =>
  ifB q0 (
    out .ret [v2, gv ws0 2, gv ws0 2] h7) (
    ld Try.prog h7 113 (nx h2) 0 fun v8 =>
    ld Try.prog h7 113 (nx h3) 0 fun v9 =>
    calls rec h7 103 [v2, v8, v9] fun v10 h8 =>
    asB v10 fun q1 =>
    ifB (not q1) (
      out .ret [v2, gv ws0 2, gv ws0 2] h8) (
      asI .i64 (gv ws0 2) fun n4 =>
      out .normal [gv ws0 0, gv ws0 1, (.int .i64 (add .i64 n4 1))] h8))

noncomputable def f83 (rec : Rec) (k : Nat) (v0 : Value) (n0 : Int) (n1 : Int) (n2 : Int) (h0 : H) : Option (Value × H) :=
  bx h0 31 v0 fun h1 =>
  ld Try.prog h1 31 (nx h0) 0 fun v1 =>
  calls rec h1 102 [v1, (.int .i64 n2)] fun v2 h2 =>
  bld Try.prog 113 [(0, (.int .i64 n0)), (1, (.int .i64 0)), (2, (.bool false))] fun v3 =>
  ld Try.prog h2 29 (nx h0) (off 0 1) fun v4 =>
  len v4 fun n3 =>
  bld Try.prog 113 [(0, (.int .i64 n1)), (1, (.int .i64 n3)), (2, (.bool false))] fun v5 =>
  al h2 113 [(.int .i64 0), (.int .i64 0), (.bool false)] fun h3 =>
  ck (freq (nx h0) (nx h2) (same h3 h2)) (
    al h3 113 [(.int .i64 0), (.int .i64 0), (.bool false)] fun h4 =>
    ck (freq (nx h0) (nx h3) (same h4 h3)) (
      st Try.prog h4 113 (nx h2) 0 v3 fun h5 =>
      ck (fre (nx h0) (nx h4) (off 0 1) 1 (nx h2) 0 3) (
        st Try.prog h5 113 (nx h3) 0 v5 fun h6 =>
        lp k (f83_l1 rec k v2 h2 h3) [(.pointer none), (.int .i64 0), (.int .i64 0)] h6 fun e0 ws1 h9 =>
        onR e0 (
          some ((.tuple #[gv ws1 0, gv ws1 1]), h9)))))

theorem e83 (rec : Rec) (k : Nat) (v0 : Value) (n0 : Int) (n1 : Int) (n2 : Int) (h : H) : bodyT Try.prog E0 SC (XC Try.prog rec k) 83 (Value × H) [.opq v0, .int .i64 n0, .int .i64 n1, .int .i64 n2] h (fun v h => some (v, h)) = f83 rec k v0 n0 n1 n2 h := by kernel_rfl

theorem t83 {k : Nat} {v0 : Value} {n0 : Int} {n1 : Int} {n2 : Int} {h h1 : H} {v : Value} (hh : f83 rn k v0 n0 n1 n2 h = some (v, h1)) : rn 83 #[v0, .int .i64 n0, .int .i64 n1, .int .i64 n2] h = some (v, trunc Try.prog h h1 v) :=
  run_of_bodyT (args := [.opq v0, .int .i64 n0, .int .i64 n1, .int .i64 n2]) rfl ((e83 _ _ _ _ _ _ _).trans hh)

theorem x83 {k : Nat} {v0 : Value} {n0 : Int} {n1 : Int} {n2 : Int} {h h1 : H} {v : Value} (hh : f83 rn k v0 n0 n1 n2 h = some (v, h1)) (hp : plainO v = false) : rn 83 #[v0, .int .i64 n0, .int .i64 n1, .int .i64 n2] h = some (v, h1) := by rw [t83 hh, trunc_not hp]

noncomputable def f84_l1 (_rec : Rec) (_k : Nat) (v1 : Value) (n0 : Int) (ws0 : List Value) (h2 : H) : Option (Ex × List Value × H) :=
  asI .i64 (gv ws0 1) fun n1 =>
  ifB (lt n1 n0) (
    nil v1 (
      asP v1 fun b0 b1 =>
      ld Try.prog h2 115 b0 b1 fun v3 =>
      asI .i64 (gv ws0 1) fun n2 =>
      bld Try.prog 113 [(0, (.int .i64 1)), (1, (.int .i64 (add .i64 n2 1))), (2, (.bool true))] fun v4 =>
      asI .i64 (gv ws0 1) fun n3 =>
      bld Try.prog 113 [(0, (.int .i64 0)), (1, (.int .i64 (add .i64 n3 1))), (2, (.bool true))] fun v5 =>
      bld Try.prog 120 [(0, v4), (1, v5)] fun v6 =>
      lok Try.prog h2 115 v3 v6 false fun v7 =>
      asI .i64 v7 fun n4 =>
      ifB (lt 0 n4) (
        asK (gv ws0 1) fun n5 =>
        nn n5 (
          asI .i64 (gv ws0 0) fun n6 =>
          asI .i64 (gv ws0 1) fun n7 =>
          out .normal [(.int .i64 (or .i64 n6 (shl .i64 1 n5))), (.int .i64 (add .i64 n7 1))] h2)) (
        asI .i64 (gv ws0 1) fun n8 =>
        out .normal [gv ws0 0, (.int .i64 (add .i64 n8 1))] h2))) (
    out (.exit 0) [gv ws0 0, gv ws0 1] h2)

noncomputable def f84 (rec : Rec) (k : Nat) (v0 : Value) (v1 : Value) (h0 : H) : Option (Value × H) :=
  bx h0 31 v0 fun h1 =>
  ld Try.prog h1 29 (nx h0) (off 0 1) fun v2 =>
  len v2 fun n0 =>
  lp k (f84_l1 rec k v1 n0) [(.int .i64 0), (.int .i64 0)] h1 fun e0 ws1 h3 =>
  onE e0 0 (
    some (gv ws1 0, h3)) (
    none)

theorem e84 (rec : Rec) (k : Nat) (v0 : Value) (v1 : Value) (h : H) : bodyT Try.prog E0 SC (XC Try.prog rec k) 84 (Value × H) [.opq v0, .opq v1] h (fun v h => some (v, h)) = f84 rec k v0 v1 h := by kernel_rfl

theorem t84 {k : Nat} {v0 : Value} {v1 : Value} {h h1 : H} {v : Value} (hh : f84 rn k v0 v1 h = some (v, h1)) : rn 84 #[v0, v1] h = some (v, trunc Try.prog h h1 v) :=
  run_of_bodyT (args := [.opq v0, .opq v1]) rfl ((e84 _ _ _ _ _).trans hh)

theorem p84 {k : Nat} {v0 : Value} {v1 : Value} {h h1 : H} {v : Value} (hh : f84 rn k v0 v1 h = some (v, h1)) (hp : plainO v = true) (x : Ext h h1) : rn 84 #[v0, v1] h = some (v, h) := by rw [t84 hh, trunc_pure hp x]

end Go.AM

end

section

/- The network in a heap: the neighbours of each spot. -/
namespace Go.AM
open Go.Proofs
/-- The neighbours of each spot: a map of slices, each in a block of its own. -/
structure NextH (lo : Nat) (h : H) (xb : Nat) (nxs : List (Sp × Value)) (N : Sp → List Sp) : Prop where
  mp : h.blk xb = some (mpOf Sp.val nxs)
  xlt : xb < h.nx
  ok : ∀ u v, valK nxs u = some v → AqR lo h 113 3 v ((N u).map Sp.cells)
  no : ∀ u, valK nxs u = none → N u = []
  dis : ∀ u u' v v' b, valK nxs u = some v → valK nxs u' = some v' → blkOf v = some b → blkOf v' = some b → u = u'

/-- Is a block that of a slice of neighbours? -/
def Own (nxs : List (Sp × Value)) (c : Nat) : Prop := ∃ u v, valK nxs u = some v ∧ blkOf v = some c

theorem NextH.keep {lo : Nat} {h h' : H} {xb : Nat} {nxs : List (Sp × Value)} {N : Sp → List Sp} (a : NextH lo h xb nxs N) (hn : h.nx ≤ h'.nx) (hx : h'.blk xb = h.blk xb) (hb : ∀ c, Own nxs c → h'.blk c = h.blk c) : NextH lo h' xb nxs N where
  mp := by rw [hx, a.mp]
  xlt := by have := a.xlt; omega
  ok u v hv := (a.ok u v hv).keep hn fun b hb' => hb b ⟨u, v, hv, hb'⟩
  no := a.no
  dis := a.dis

theorem NextH.lt {lo : Nat} {h : H} {xb : Nat} {nxs : List (Sp × Value)} {N : Sp → List Sp} (a : NextH lo h xb nxs N) {c : Nat} (hc : Own nxs c) : lo ≤ c ∧ c < h.nx ∧ c ≠ xb := by
  obtain ⟨u, v, hv, hb⟩ := hc
  obtain ⟨h1, h2, h3⟩ := (a.ok u v hv).blkOf hb
  refine ⟨h1, h2, ?_⟩
  rintro rfl
  rw [a.mp] at h3
  cases h3

theorem putK_set {nxs : List (Sp × Value)} {u : Sp} {v v0 : Value} {i : Nat} (h : lookK nxs u 0 = some (i, v0)) : nxs.set i (u, v) = putK nxs u v := by unfold putK; rw [h]

/-- A neighbour more. -/
theorem next_push {lo : Nat} {h : H} {xb : Nat} {nxs : List (Sp × Value)} {N : Sp → List Sp} (nh : NextH lo h xb nxs N) (hlo : lo ≤ h.nx) (a b : Sp) (hsm : (N a).length < 1000) {h3 : H} (e3 : h3 = h.new (.row b.cells 113 true)) :
    ∃ h6 v6, (∀ {R : Type} (K : H → Option R), (men Try.prog h3 116 (.map (some xb)) a.val fun v14 h4 => ext v14 0 fun v15 => app Try.prog h4 134 134 v15 (.slice (some ⟨h.nx, 0, none⟩) 1 1) fun v16 h5 => ext v14 1 fun v17 => asI .i64 v17 fun n2 => est h5 (.map (some xb)) (.int .i64 n2) v16 K) = K h6) ∧
      NextH lo h6 xb (putK nxs a v6) (fun u => if u = a then N a ++ [b] else N u) ∧ h.nx ≤ h6.nx ∧ (∀ c, c < h.nx → c ≠ xb → ¬ Own nxs c → h6.blk c = h.blk c) ∧ (∀ c, Own (putK nxs a v6) c → Own nxs c ∨ h.nx ≤ c) := by
  have x3 : Ext h h3 := by rw [e3]; exact .new _ _
  have hxb3 : h3.blk xb = some (mpOf Sp.val nxs) := by rw [x3.blk _ nh.xlt]; exact nh.mp
  have hxne : xb ≠ h.nx := by have := nh.xlt; omega
  -- what the entry holds at first
  obtain ⟨v0, i, kv1, hm, hi, hv0, hown⟩ : ∃ v0 i kv1, (∀ {R : Type} (K : Value → H → Option R), men Try.prog h3 116 (.map (some xb)) a.val K = K (.tuple #[v0, .int .i64 (i : Nat)]) (h3.set xb (mpOf Sp.val kv1))) ∧
      (∃ p, kv1[i]? = some p ∧ p.1 = a ∧ ∀ v, kv1.set i (a, v) = putK nxs a v) ∧ AqR lo h 113 3 v0 ((N a).map Sp.cells) ∧ (∀ c, blkOf v0 = some c → ∃ v, valK nxs a = some v ∧ v = v0) := by
    cases hl : lookK nxs a 0 with
    | some p =>
      obtain ⟨i, v0⟩ := p
      obtain ⟨j, h1, h2⟩ := lookK_some nxs 0 _ hl
      simp only [Nat.zero_add] at h1
      subst h1
      have hval : valK nxs a = some v0 := by unfold valK; rw [hl]; rfl
      refine ⟨v0, i, nxs, fun K => ?_, ⟨_, h2, rfl, fun v => putK_set hl⟩, nh.ok a v0 hval, fun c _ => ⟨v0, hval, rfl⟩⟩
      rw [men_of keyS under116 zero134 hxb3, hl]
    | none =>
      have hval : valK nxs a = none := by unfold valK; rw [hl]; rfl
      refine ⟨.slice none 0 0, nxs.length, nxs ++ [(a, .slice none 0 0)], fun K => ?_, ⟨_, List.getElem?_concat_length .., rfl, fun v => ?_⟩, ?_, fun c hc => by cases hc⟩
      · rw [men_of keyS under116 zero134 hxb3, hl]
      · unfold putK
        rw [hl, List.set_append_right _ _ (Nat.le_refl _)]
        simp
      · rw [nh.no a hval]; exact .nil
  have hblk0 : ∀ c, blkOf v0 = some c → Own nxs c := fun c hc => by
    obtain ⟨v, h1, h2⟩ := hown c hc
    exact ⟨a, v, h1, by rw [h2]; exact hc⟩
  generalize e4 : h3.set xb (mpOf Sp.val kv1) = h4 at hm
  have n4 : h4.nx = h.nx + 1 := by rw [← e4, e3]; rfl
  have b4 : ∀ c, c < h.nx → c ≠ xb → h4.blk c = h.blk c := fun c hc hne => by
    rw [← e4]
    show (if c = xb then _ else h3.blk c) = _
    rw [if_neg hne, x3.blk _ hc]
  have a4 : AqR lo h4 113 3 v0 ((N a).map Sp.cells) := hv0.keep (by omega) fun c hc => b4 c (nh.lt (hblk0 c hc)).2.1 (nh.lt (hblk0 c hc)).2.2
  have y4 : SlR h4 113 3 (.slice (some ⟨h.nx, 0, none⟩) 1 1) [b.cells] := by
    have : h4.blk h.nx = some (.row b.cells 113 true) := by
      rw [← e4, e3]
      show (if h.nx = xb then _ else (if h.nx = h.nx then _ else _)) = _
      rw [if_neg (Ne.symm hxne), if_pos rfl]
    refine .at_ (l := [b.cells]) (by omega) this (by show 1 ≤ capK 1; decide) (by decide) (by simp [Sp.cells]) fun i y hi => ?_
    cases i with
    | zero =>
      simp at hi
      subst hi
      refine ⟨rfl, fun j hj => ?_⟩
      simp
    | succ i => simp at hi
  obtain ⟨v5, h5, k5, a5, n5, f5, o5⟩ := a4.app app134 app134 y4 (by simp [Sp.cells, scal]) (by simp; omega) (by omega)
  obtain ⟨b5, hb5, hb5'⟩ : ∃ b', blkOf v5 = some b' ∧ h4.nx ≤ b' := by
    rcases o5 with ⟨_, _, h⟩ | h
    · cases h
    · exact h
  have hxb5 : h5.blk xb = some (mpOf Sp.val kv1) := by
    rw [f5 xb (by have := nh.xlt; omega) (fun hc => (nh.lt (hblk0 _ hc)).2.2 rfl), ← e4]
    show (if xb = xb then _ else _) = _
    rw [if_pos rfl]
  obtain ⟨p, hp, hpa, hset⟩ := hi
  refine ⟨h5.set xb (mpOf Sp.val (putK nxs a v5)), v5, fun K => ?_, ?_, by show h.nx ≤ h5.nx; omega, fun c hc hne hno => ?_, ?_⟩
  · rw [hm]
    show ext _ 0 _ = _
    unfold ext
    simp only [show (#[v0, Value.int .i64 (i : Nat)] : Array Value)[0]? = some v0 from rfl, show (#[v0, Value.int .i64 (i : Nat)] : Array Value)[1]? = some (.int .i64 (i : Nat)) from rfl, Option.bind_some]
    rw [k5, asI_int, est_of hxb5 hp, hpa, hset]
  · have keep5 : ∀ u v, u ≠ a → valK nxs u = some v → AqR lo (h5.set xb (mpOf Sp.val (putK nxs a v5))) 113 3 v ((N u).map Sp.cells) := fun u v hu hv => by
      refine (nh.ok u v hv).keep (by show h.nx ≤ h5.nx; omega) fun c hc => ?_
      obtain ⟨l1, l2, l3⟩ := nh.lt ⟨u, v, hv, hc⟩
      show (if c = xb then _ else h5.blk c) = _
      rw [if_neg l3, f5 c (by omega) (fun hc0 => ?_), b4 c l2 l3]
      obtain ⟨v1, g1, g2⟩ := hown c hc0
      exact hu (nh.dis u a v v1 c hv g1 hc (by rw [g2]; exact hc0))
    refine ⟨?_, by show xb < h5.nx; have := nh.xlt; omega, fun u v hv => ?_, fun u hu => ?_, fun u u' v v' c hv hv' hc hc' => ?_⟩
    · show (if xb = xb then _ else _) = _
      rw [if_pos rfl]
    · rw [valK_put] at hv
      by_cases hu : u = a
      · subst hu
        rw [if_pos rfl] at hv
        cases hv
        simp only [if_true, List.map_append, List.map_cons, List.map_nil]
        refine a5.keep (Nat.le_refl _) fun c hc => ?_
        rw [hb5] at hc
        cases hc
        show (if b5 = xb then _ else h5.blk b5) = _
        rw [if_neg (by have := nh.xlt; omega)]
      · rw [if_neg hu] at hv
        simp only [if_neg hu]
        exact keep5 u v hu hv
    · rw [valK_put] at hu
      by_cases e : u = a
      · rw [if_pos e] at hu; cases hu
      · rw [if_neg e] at hu
        simp only [if_neg e]
        exact nh.no u hu
    · rw [valK_put] at hv hv'
      have new : ∀ u v, u ≠ a → valK nxs u = some v → blkOf v = some b5 → False := fun u v _ hv hc => by
        have := (nh.lt ⟨u, v, hv, hc⟩).2.1
        omega
      by_cases hu : u = a
      · by_cases hu' : u' = a
        · rw [hu, hu']
        · rw [if_pos hu] at hv
          rw [if_neg hu'] at hv'
          cases hv
          rw [hb5] at hc
          cases hc
          exact (new u' v' hu' hv' hc').elim
      · rw [if_neg hu] at hv
        by_cases hu' : u' = a
        · rw [if_pos hu'] at hv'
          cases hv'
          rw [hb5] at hc'
          cases hc'
          exact (new u v hu hv hc).elim
        · rw [if_neg hu'] at hv'
          exact nh.dis u u' v v' c hv hv' hc hc'
  · show (if c = xb then _ else h5.blk c) = _
    rw [if_neg hne, f5 c (by omega) (fun hc0 => hno (hblk0 c hc0)), b4 c hc hne]
  · rintro c ⟨u, v, hv, hc⟩
    rw [valK_put] at hv
    by_cases e : u = a
    · rw [if_pos e] at hv
      cases hv
      rw [hb5] at hc
      cases hc
      exact .inr (by omega)
    · rw [if_neg e] at hv
      exact .inl ⟨u, v, hv, hc⟩

end Go.AM

end

section

/- The network in a heap: an arc is joined. -/
namespace Go.AM
open Go.Proofs
section
variable {R : Type} {h : H}
theorem kbls134 (x : Sp) (K : Value → H → Option R) : bls Try.prog h 134 1 [(0, x.val)] K = K (.slice (some ⟨h.nx, 0, none⟩) 1 1) (h.new (.row x.cells 113 true)) := by
  unfold bls
  rw [bls134]; rfl

theorem ldS {b : Nat} {x : Sp} (hb : h.blk b = some (.row x.cells 113 true)) (K : Value → Option R) : ld Try.prog h 113 b 0 K = K x.val := by
  rw [d113, rd_all (n := 3) hb rfl]; rfl

theorem bxS (x : Sp) (K : H → Option R) : bx h 113 x.val K = K (h.new (.row x.cells 113 true)) := rfl

theorem kA (a b : Sp) (K : Value → Option R) : bld Try.prog 120 [(0, a.val), (1, b.val)] K = K (encA (a, b)) := kbld120 a b K

end
/-- What the map of rooms holds. -/
def ksA (B : List Arc) (r : Sp → Sp → Int) : List ((Sp × Sp) × Value) := B.flatMap fun a => [((a.2.1, a.1), iv (r a.2.1 a.1)), ((a.1, a.2.1), iv (r a.1 a.2.1))]

/-- The neighbours. -/
def nbrs (B : List Arc) (u : Sp) : List Sp := B.flatMap fun a => (if a.1 = u then [a.2.1] else []) ++ if a.2.1 = u then [a.1] else []

theorem lookK_app {κ : Type} [DecidableEq κ] : ∀ (x y : List (κ × Value)) (k : κ) (i : Nat), lookK (x ++ y) k i = match lookK x k i with | some r => some r | none => lookK y k (i + x.length) := by
  intro x
  induction x with
  | nil => intro y k i; simp [lookK]
  | cons p x ih =>
    intro y k i
    simp only [List.cons_append, lookK]
    by_cases hk : k = p.1
    · rw [if_pos hk, if_pos hk]
    · rw [if_neg hk, if_neg hk, ih, List.length_cons, show i + 1 + x.length = i + (x.length + 1) by omega]

theorem valK_app {κ : Type} [DecidableEq κ] (x y : List (κ × Value)) (k : κ) : valK (x ++ y) k = match valK x k with | some v => some v | none => valK y k := by
  unfold valK
  rw [lookK_app]
  cases lookK x k 0 with
  | some r => rfl
  | none =>
    simp only [Option.map_none, Nat.zero_add]
    have : ∀ (y : List (κ × Value)) (i j : Nat), (lookK y k i).map (·.2) = (lookK y k j).map (·.2) := by
      intro y
      induction y with
      | nil => intro i j; rfl
      | cons p y ih =>
        intro i j
        simp only [lookK]
        by_cases hk : k = p.1
        · rw [if_pos hk, if_pos hk]; rfl
        · rw [if_neg hk, if_neg hk]; exact ih _ _
    exact this _ _ _

theorem onA_cons {a : Arc} {B : List Arc} {u v : Sp} : onA (a :: B) u v ↔ ((a.1 = u ∧ a.2.1 = v) ∨ (a.1 = v ∧ a.2.1 = u)) ∨ onA B u v := by
  unfold onA
  constructor
  · rintro ⟨b, hb, h⟩
    rcases List.mem_cons.1 hb with rfl | hb
    · exact .inl h
    · exact .inr ⟨b, hb, h⟩
  · rintro (h | ⟨b, hb, h⟩)
    · exact ⟨a, List.mem_cons_self, h⟩
    · exact ⟨b, List.mem_cons_of_mem _ hb, h⟩

theorem valK_ks (B : List Arc) (r : Sp → Sp → Int) (u v : Sp) : (onA B u v → valK (ksA B r) (u, v) = some (iv (r u v))) ∧ (¬ onA B u v → valK (ksA B r) (u, v) = none) := by
  induction B with
  | nil =>
    refine ⟨fun h => ?_, fun _ => rfl⟩
    obtain ⟨_, h, _⟩ := h
    cases h
  | cons a B ih =>
    have e : ksA (a :: B) r = [((a.2.1, a.1), iv (r a.2.1 a.1)), ((a.1, a.2.1), iv (r a.1 a.2.1))] ++ ksA B r := rfl
    rw [e, valK_app, onA_cons]
    by_cases h1 : (u, v) = (a.2.1, a.1)
    · have : valK [((a.2.1, a.1), iv (r a.2.1 a.1)), ((a.1, a.2.1), iv (r a.1 a.2.1))] (u, v) = some (iv (r u v)) := by
        simp only [Prod.mk.injEq] at h1
        obtain ⟨rfl, rfl⟩ := h1
        simp [valK, lookK]
      rw [this]
      simp only [Prod.mk.injEq] at h1
      exact ⟨fun _ => rfl, fun hno => absurd (.inl (.inr ⟨h1.2.symm, h1.1.symm⟩)) hno⟩
    · by_cases h2 : (u, v) = (a.1, a.2.1)
      · have : valK [((a.2.1, a.1), iv (r a.2.1 a.1)), ((a.1, a.2.1), iv (r a.1 a.2.1))] (u, v) = some (iv (r u v)) := by
          unfold valK
          simp only [lookK, if_neg h1, if_pos h2]
          simp only [Prod.mk.injEq] at h2
          rw [← h2.1, ← h2.2]; rfl
        rw [this]
        simp only [Prod.mk.injEq] at h2
        exact ⟨fun _ => rfl, fun hno => absurd (.inl (.inl ⟨h2.1.symm, h2.2.symm⟩)) hno⟩
      · have : valK [((a.2.1, a.1), iv (r a.2.1 a.1)), ((a.1, a.2.1), iv (r a.1 a.2.1))] (u, v) = none := by
          unfold valK
          simp only [lookK, if_neg h1, if_neg h2, Option.map_none]
        rw [this]
        simp only [Prod.mk.injEq] at h1 h2
        refine ⟨fun h => ih.1 (h.resolve_left ?_), fun h => ih.2 fun h' => h (.inr h')⟩
        rintro (h | h)
        · exact h2 ⟨h.1.symm, h.2.symm⟩
        · exact h1 ⟨h.2.symm, h.1.symm⟩

theorem room0_snoc (B : List Arc) (x : Arc) (u v : Sp) : room0 (B ++ [x]) u v = if (B.any fun a => decide (a.1 = u ∧ a.2.1 = v)) = true then room0 B u v else if x.1 = u ∧ x.2.1 = v then x.2.2 else 0 := by
  unfold room0
  rw [List.find?_append]
  cases hf : B.find? (fun a => decide (a.1 = u ∧ a.2.1 = v)) with
  | some a =>
    have hm := List.mem_of_find?_eq_some hf
    have hp := List.find?_some hf
    have : (B.any fun a => decide (a.1 = u ∧ a.2.1 = v)) = true := List.any_eq_true.2 ⟨a, hm, hp⟩
    rw [this]
    simp
  | none =>
    have : (B.any fun a => decide (a.1 = u ∧ a.2.1 = v)) = false := by
      rw [Bool.eq_false_iff]
      intro h
      obtain ⟨a, h1, h2⟩ := List.any_eq_true.1 h
      exact (List.find?_eq_none.1 hf a h1) h2
    rw [this]
    by_cases hx : x.1 = u ∧ x.2.1 = v
    · simp [hx]
    · simp [hx]

theorem ks_snoc {B : List Arc} (hne : ∀ a ∈ B, a.1 ≠ a.2.1) {a b : Sp} {c : Int} (hab : a ≠ b) (hno : ¬ onA B a b) : ksA (B ++ [(a, b, c)]) (room0 (B ++ [(a, b, c)])) = ksA B (room0 B) ++ [((b, a), iv 0), ((a, b), iv c)] := by
  unfold ksA
  rw [List.flatMap_append]
  have any : ∀ u v, (B.any fun x => decide (x.1 = u ∧ x.2.1 = v)) = true → onA B u v := fun u v h => by
    obtain ⟨x, h1, h2⟩ := List.any_eq_true.1 h
    exact ⟨x, h1, .inl (of_decide_eq_true h2)⟩
  have onS : ∀ u v, onA B u v → onA B v u := fun u v ⟨x, h1, h2⟩ => ⟨x, h1, h2.symm⟩
  congr 1
  · have e : ∀ x ∈ B, room0 (B ++ [(a, b, c)]) x.1 x.2.1 = room0 B x.1 x.2.1 ∧ room0 (B ++ [(a, b, c)]) x.2.1 x.1 = room0 B x.2.1 x.1 := by
      intro x hx
      have hon : onA B x.1 x.2.1 := ⟨x, hx, .inl ⟨rfl, rfl⟩⟩
      have n1 : ¬ (a = x.1 ∧ b = x.2.1) := fun h => hno (by rw [h.1, h.2]; exact hon)
      have n2 : ¬ (a = x.2.1 ∧ b = x.1) := fun h => hno (by rw [h.1, h.2]; exact onS _ _ hon)
      have z : ∀ u v, (B.any fun x => decide (x.1 = u ∧ x.2.1 = v)) = false → room0 B u v = 0 := by
        intro u v h
        unfold room0
        rw [List.find?_eq_none.2 (fun y hy hp => by
          rw [Bool.eq_false_iff] at h
          exact h (List.any_eq_true.2 ⟨y, hy, hp⟩))]
        rfl
      constructor
      · rw [room0_snoc]
        cases hb : (B.any fun y => decide (y.1 = x.1 ∧ y.2.1 = x.2.1)) with
        | true => simp
        | false => rw [z _ _ hb]; simp only [Bool.false_eq_true, if_false]; rw [if_neg n1]
      · rw [room0_snoc]
        cases hb : (B.any fun y => decide (y.1 = x.2.1 ∧ y.2.1 = x.1)) with
        | true => simp
        | false => rw [z _ _ hb]; simp only [Bool.false_eq_true, if_false]; rw [if_neg n2]
    have : ∀ x ∈ B, (fun x : Arc => [((x.2.1, x.1), iv (room0 (B ++ [(a, b, c)]) x.2.1 x.1)), ((x.1, x.2.1), iv (room0 (B ++ [(a, b, c)]) x.1 x.2.1))]) x = (fun x : Arc => [((x.2.1, x.1), iv (room0 B x.2.1 x.1)), ((x.1, x.2.1), iv (room0 B x.1 x.2.1))]) x := fun x hx => by
      obtain ⟨e1, e2⟩ := e x hx
      simp only [e1, e2]
    rw [List.flatMap_def, List.flatMap_def, List.map_congr_left this]
  · have f1 : (B.any fun x => decide (x.1 = a ∧ x.2.1 = b)) = false := Bool.eq_false_iff.2 fun h => hno (any _ _ h)
    have f2 : (B.any fun x => decide (x.1 = b ∧ x.2.1 = a)) = false := Bool.eq_false_iff.2 fun h => hno (onS _ _ (any _ _ h))
    simp only [List.flatMap_cons, List.flatMap_nil, List.append_nil, room0_snoc, f1, f2, Bool.false_eq_true, if_false, and_self, if_true]
    rw [if_neg (fun h : a = b ∧ b = a => hab h.1)]

theorem nbrs_snoc {B : List Arc} {a b : Sp} {c : Int} (hab : a ≠ b) : (fun u => if u = b then (fun u => if u = a then nbrs B a ++ [b] else nbrs B u) b ++ [a] else (fun u => if u = a then nbrs B a ++ [b] else nbrs B u) u) = nbrs (B ++ [(a, b, c)]) := by
  funext u
  unfold nbrs
  rw [List.flatMap_append]
  simp only [List.flatMap_cons, List.flatMap_nil, List.append_nil]
  by_cases h1 : u = b
  · subst h1
    simp [hab, Ne.symm hab]
  · by_cases h2 : u = a
    · subst h2
      simp [hab, Ne.symm hab]
    · simp [h1, h2, Ne.symm h1, Ne.symm h2]

/-- The network in a heap. -/
structure NetH (lo : Nat) (h : H) (nb rb xb : Nat) (B : List Arc) (r : Sp → Sp → Int) (nxs : List (Sp × Value)) : Prop where
  str : h.blk nb = some (.row [.map (some rb), .map (some xb)] 118 true)
  nlt : nb < h.nx
  rm : h.blk rb = some (mpOf encA (ksA B r))
  rlt : rb < h.nx
  ne : rb ≠ xb
  next : NextH lo h xb nxs (nbrs B)
  los : lo ≤ nb ∧ lo ≤ rb ∧ lo ≤ xb

theorem NextH.notOwn {lo : Nat} {h : H} {xb : Nat} {nxs : List (Sp × Value)} {N : Sp → List Sp} (a : NextH lo h xb nxs N) {c : Nat} (hc : ∀ l, h.blk c ≠ some (.row l 113 true)) : ¬ Own nxs c := by
  rintro ⟨u, v, hv, hb⟩
  exact hc _ ((a.ok u v hv).blkOf hb).2.2

theorem NetH.nr {lo : Nat} {h : H} {nb rb xb : Nat} {B : List Arc} {r : Sp → Sp → Int} {nxs : List (Sp × Value)} (a : NetH lo h nb rb xb B r nxs) : nb ≠ rb ∧ nb ≠ xb ∧ ¬ Own nxs nb ∧ ¬ Own nxs rb := by
  refine ⟨fun e => ?_, fun e => ?_, a.next.notOwn fun l e => ?_, a.next.notOwn fun l e => ?_⟩
  · have := a.rm; rw [← e, a.str] at this; cases this
  · have := a.next.mp; rw [← e, a.str] at this; cases this
  · rw [a.str] at e; cases e
  · rw [a.rm] at e; cases e

end Go.AM

end

section

/- An arc is joined. -/
namespace Go.AM
open Go.Proofs
/-- What a step on the network leaves of the other blocks. -/
structure NFr (h h' : H) (rb xb : Nat) (nxs nxs' : List (Sp × Value)) : Prop where
  nx : h.nx ≤ h'.nx
  blk : ∀ c, c < h.nx → c ≠ rb → c ≠ xb → ¬ Own nxs c → h'.blk c = h.blk c
  own : ∀ c, Own nxs' c → Own nxs c ∨ h.nx ≤ c

theorem s113 {lo : Nat} {h : H} {nb rb xb : Nat} {B : List Arc} {nxs : List (Sp × Value)} (nt : NetH lo h nb rb xb B (room0 B) nxs) (hlo : lo ≤ h.nx) (hne : ∀ a ∈ B, a.1 ≠ a.2.1) {a b : Sp} (hab : a ≠ b) (hno : ¬ onA B a b)
    (hsm : ∀ u, (nbrs B u).length < 900) {room : Int} (hr : 0 ≤ room ∧ room < 2 ^ 31) :
    ∃ h' nxs', rn 113 #[pt nb 0, a.val, b.val, iv room] h = some (undef, h') ∧ NetH lo h' nb rb xb (B ++ [(a, b, room)]) (room0 (B ++ [(a, b, room)])) nxs' ∧ NFr h h' rb xb nxs nxs' := by
  obtain ⟨nr1, nr2, nr3, nr4⟩ := nt.nr
  have onS : ¬ onA B b a := fun ⟨x, h1, h2⟩ => hno ⟨x, h1, h2.symm⟩
  have hk1 : valK (ksA B (room0 B)) (a, b) = none := (valK_ks B _ a b).2 hno
  have hk2 : valK (ksA B (room0 B)) (b, a) = none := (valK_ks B _ b a).2 onS
  have l1 : lookK (ksA B (room0 B)) (a, b) 0 = none := by unfold valK at hk1; simpa using hk1
  have l2 : lookK (ksA B (room0 B)) (b, a) 0 = none := by unfold valK at hk2; simpa using hk2
  -- two boxes
  generalize e1 : h.new (.row a.cells 113 true) = h1
  generalize e2 : h1.new (.row b.cells 113 true) = h2
  have n1 : h1.nx = h.nx + 1 := by rw [← e1]; rfl
  have n2 : h2.nx = h.nx + 2 := by rw [← e2]; show h1.nx + 1 = _; omega
  have x2 : Ext h h2 := by rw [← e2, ← e1]; exact (Ext.new _ _).trans (.new _ _)
  have ba : h2.blk h.nx = some (.row a.cells 113 true) := by rw [← e2, blk_new, n1, if_neg (by omega), ← e1, blk_new, if_pos rfl]
  have bb : h2.blk h1.nx = some (.row b.cells 113 true) := by rw [← e2, blk_new, if_pos rfl]
  have nt2 : NextH lo h2 xb nxs (nbrs B) := nt.next.keep x2.nx (x2.blk _ nt.next.xlt) fun c hc => x2.blk _ (nt.next.lt hc).2.1
  have ownlt : ∀ c, Own nxs c → c < h.nx := fun c hc => (nt.next.lt hc).2.1
  -- b is a's neighbour
  generalize e3 : h2.new (.row b.cells 113 true) = h3
  obtain ⟨h6, v6, k6, nt6, n6, f6, o6⟩ := next_push nt2 (by omega) a b (by have := hsm a; omega) e3.symm
  have old6 : ∀ c, c < h.nx → c ≠ xb → ¬ Own nxs c → h6.blk c = h.blk c := fun c h1 h2' h3' => by rw [f6 c (by omega) h2' h3', x2.blk _ h1]
  have ba6 : h6.blk h.nx = some (.row a.cells 113 true) := by rw [f6 _ (by omega) (by have := nt.next.xlt; omega) (fun hc => by have := ownlt _ hc; omega), ba]
  have bb6 : h6.blk h1.nx = some (.row b.cells 113 true) := by rw [f6 _ (by omega) (by have := nt.next.xlt; omega) (fun hc => by have := ownlt _ hc; omega), bb]
  have str6 : h6.blk nb = some (.row [.map (some rb), .map (some xb)] 118 true) := by rw [old6 nb nt.nlt nr2 nr3, nt.str]
  have rm6 : h6.blk rb = some (mpOf encA (ksA B (room0 B))) := by rw [old6 rb nt.rlt nt.ne nr4, nt.rm]
  -- room backward
  generalize e7 : h6.set rb (mpOf encA (putK (ksA B (room0 B)) (b, a) (iv 0))) = h7
  have n7 : h7.nx = h6.nx := by rw [← e7]; rfl
  have b7 : ∀ c, c ≠ rb → h7.blk c = h6.blk c := fun c hc => by rw [← e7]; show (if c = rb then _ else _) = _; rw [if_neg hc]
  have rm7 : h7.blk rb = some (mpOf encA (putK (ksA B (room0 B)) (b, a) (iv 0))) := by rw [← e7]; show (if rb = rb then _ else _) = _; rw [if_pos rfl]
  have own6 : ∀ c, Own (putK nxs a v6) c → c ≠ rb := fun c hc => by
    rcases o6 c hc with h | h
    · rintro rfl; exact nr4 h
    · have := nt.rlt; omega
  have nt7 : NextH lo h7 xb (putK nxs a v6) (fun u => if u = a then nbrs B a ++ [b] else nbrs B u) := nt6.keep (by omega) (b7 _ (Ne.symm nt.ne)) fun c hc => b7 c (own6 c hc)
  -- a is b's neighbour
  generalize e8 : h7.new (.row a.cells 113 true) = h8
  obtain ⟨h11, v11, k11, nt11, n11, f11, o11⟩ := next_push nt7 (by omega) b a (by simp only [if_neg (Ne.symm hab)]; have := hsm b; omega) e8.symm
  have noOwn : ∀ c, c < h2.nx → ¬ Own nxs c → ¬ Own (putK nxs a v6) c := fun c h1 h2' hc => (o6 c hc).elim h2' (fun h => by omega)
  have old11 : ∀ c, c < h2.nx → c ≠ xb → c ≠ rb → ¬ Own nxs c → h11.blk c = h6.blk c := fun c h1 h2' h3' h4' => by rw [f11 c (by omega) h2' (noOwn c h1 h4'), b7 c h3']
  have ba11 : h11.blk h.nx = some (.row a.cells 113 true) := by rw [old11 _ (by omega) (by have := nt.next.xlt; omega) (by have := nt.rlt; omega) (fun hc => by have := ownlt _ hc; omega), ba6]
  have bb11 : h11.blk h1.nx = some (.row b.cells 113 true) := by rw [old11 _ (by omega) (by have := nt.next.xlt; omega) (by have := nt.rlt; omega) (fun hc => by have := ownlt _ hc; omega), bb6]
  have nlt := nt.nlt
  have rlt := nt.rlt
  have str11 : h11.blk nb = some (.row [.map (some rb), .map (some xb)] 118 true) := by rw [old11 nb (by omega) nr2 nr1 nr3, str6]
  have rm11 : h11.blk rb = some (mpOf encA (putK (ksA B (room0 B)) (b, a) (iv 0))) := by rw [f11 rb (by omega) nt.ne (noOwn rb (by omega) nr4), rm7]
  have p1 : putK (ksA B (room0 B)) (b, a) (iv 0) = ksA B (room0 B) ++ [((b, a), iv 0)] := by unfold putK; rw [l2]
  rw [p1] at rm11
  have l3 : lookK (ksA B (room0 B) ++ [((b, a), iv 0)]) (a, b) 0 = none := by
    rw [lookK_app, l1]
    simp only [lookK]
    rw [if_neg (fun e => hab (by simp only [Prod.mk.injEq] at e; exact e.1))]
  have hk3 : valK (ksA B (room0 B) ++ [((b, a), iv 0)]) (a, b) = none := by unfold valK; rw [l3]; rfl
  -- room forward
  generalize e12 : h11.set rb (mpOf encA ((ksA B (room0 B) ++ [((b, a), iv 0)]) ++ [((a, b), iv 0)])) = h12
  have rm12 : h12.blk rb = some (mpOf encA ((ksA B (room0 B) ++ [((b, a), iv 0)]) ++ [((a, b), iv 0)])) := by rw [← e12]; show (if rb = rb then _ else _) = _; rw [if_pos rfl]
  have hi12 : ((ksA B (room0 B) ++ [((b, a), iv 0)]) ++ [((a, b), iv 0)])[(ksA B (room0 B) ++ [((b, a), iv 0)]).length]? = some ((a, b), iv 0) := List.getElem?_concat_length ..
  generalize e13 : h12.set rb (mpOf encA (((ksA B (room0 B) ++ [((b, a), iv 0)]) ++ [((a, b), iv 0)]).set (ksA B (room0 B) ++ [((b, a), iv 0)]).length ((a, b), iv room))) = h13
  have n13 : h13.nx = h11.nx := by rw [← e13, ← e12]; rfl
  have b13 : ∀ c, c ≠ rb → h13.blk c = h11.blk c := fun c hc => by
    rw [← e13]
    show (if c = rb then _ else h12.blk c) = _
    rw [if_neg hc, ← e12]
    show (if c = rb then _ else h11.blk c) = _
    rw [if_neg hc]
  have rm13 : h13.blk rb = some (mpOf encA (ksA (B ++ [(a, b, room)]) (room0 (B ++ [(a, b, room)])))) := by
    rw [← e13]
    show (if rb = rb then _ else _) = _
    rw [if_pos rfl, ks_snoc hne hab hno, List.set_append_right _ _ (Nat.le_refl _)]
    simp
  have own11 : ∀ c, Own (putK (putK nxs a v6) b v11) c → c ≠ rb ∧ (Own nxs c ∨ h.nx ≤ c) := fun c hc => by
    rcases o11 c hc with h | h
    · refine ⟨own6 c h, ?_⟩
      rcases o6 c h with h | h
      · exact .inl h
      · exact .inr (by omega)
    · exact ⟨by omega, .inr (by omega)⟩
  have hrun : f113 rn 1000 (pt nb 0) a.val b.val room h = some (undef, h13) := by
    unfold f113
    rw [bxS, e1, bxS, e2]
    have str2 : h2.blk nb = some (.row [.map (some rb), .map (some xb)] 118 true) := by rw [x2.blk _ nt.nlt, nt.str]
    have rm2 : h2.blk rb = some (mpOf encA (ksA B (room0 B))) := by rw [x2.blk _ nt.rlt, nt.rm]
    simp only [nx_eq, AM.nil, asP_ptr, d115, d116, cell_of str2, List.getElem?_cons_zero, Option.bind_some]
    rw [ldS ba, ldS bb, kA, lok_of keyA under115 zero3 rm2, hk1]
    simp only [ext, show (#[iv 0, Value.bool false] : Array Value)[0]? = some (iv 0) from rfl, show (#[iv 0, Value.bool false] : Array Value)[1]? = some (Value.bool false) from rfl, Option.bind_some, asI_int, asB_bool, Bool.not_false, ifB_true]
    rw [show off 0 1 = 1 from rfl, show ([Value.map (some rb), Value.map (some xb)] : List Value)[1]? = some (.map (some xb)) from rfl]
    simp only [Option.bind_some]
    rw [ldS ba, ldS bb, kbls134, e3]
    have ck3 : ∀ c, c < h2.nx → freq c h2.nx (same h3 h2) = true := fun c hc => by
      unfold freq same
      rw [decide_eq_true hc, ← e3]
      simp [H.new]
    rw [ck3 _ (by omega), ck_true, ck3 _ (by omega), ck_true]
    refine (k6 _).trans ?_
    simp only [cell_of str6, List.getElem?_cons_zero, Option.bind_some]
    rw [ldS bb6, ldS ba6, kA, lok_of keyA under115 zero3 rm6, hk2]
    simp only [show (#[iv 0, Value.bool false] : Array Value)[0]? = some (iv 0) from rfl, show (#[iv 0, Value.bool false] : Array Value)[1]? = some (Value.bool false) from rfl, Option.bind_some, asI_int, asB_bool, Bool.not_false, ifB_true]
    rw [ldS bb6, ldS ba6, kA, mup_of keyA under115 rm6, e7]
    have str7 : h7.blk nb = some (.row [.map (some rb), .map (some xb)] 118 true) := by rw [b7 _ nr1, str6]
    have ba7 : h7.blk h.nx = some (.row a.cells 113 true) := by rw [b7 _ (by omega), ba6]
    have bb7 : h7.blk h1.nx = some (.row b.cells 113 true) := by rw [b7 _ (by omega), bb6]
    simp only [cell_of str7]
    rw [show ([Value.map (some rb), Value.map (some xb)] : List Value)[1]? = some (.map (some xb)) from rfl]
    simp only [Option.bind_some]
    rw [ldS bb7, ldS ba7, kbls134, e8]
    have ck8 : ∀ c, c < h7.nx → freq c h7.nx (same h8 h7) = true := fun c hc => by
      unfold freq same
      rw [decide_eq_true hc, ← e8]
      simp [H.new]
    rw [ck8 _ (by omega), ck_true, ck8 _ (by omega), ck_true]
    refine (k11 _).trans ?_
    simp only [cell_of str11, List.getElem?_cons_zero, Option.bind_some]
    rw [ldS ba11, ldS bb11, kA, lok_of0 keyA under115 zero3 rm11, hk3]
    simp only [Option.getD_none, asI_int]
    rw [men_of keyA under115 zero3 rm11, l3]
    simp only [twm, beq_self_eq_true, ck_true, e12]
    simp only [show ∀ x : Value, (#[iv 0, x] : Array Value)[1]? = some x from fun _ => rfl, Option.bind_some, asI_int]
    rw [add64 (by omega) (by omega), Int.zero_add, est_of rm12 hi12, e13]
  have hchg : h13.blk rb ≠ h.blk rb := by
    rw [rm13, nt.rm, ks_snoc hne hab hno]
    intro e
    injection e with e
    unfold mpOf at e
    injection e with _ e
    simp at e
  have htr : trunc Try.prog h h13 undef = h13 := by
    unfold trunc truncB
    rw [if_neg]
    intro hall
    exact hchg (hall rb nt.rlt)
  refine ⟨h13, putK (putK nxs a v6) b v11, by rw [t113 hrun, htr], ⟨?_, by omega, rm13, by omega, nt.ne, ?_, nt.los⟩, by omega, fun c c1 c2 c3 c4 => ?_, fun c hc => (own11 c hc).2⟩
  · rw [b13 _ nr1, str11]
  · have := nt11.keep (h' := h13) (by omega) (b13 _ (Ne.symm nt.ne)) fun c hc => b13 c (own11 c hc).1
    rw [nbrs_snoc hab] at this
    exact this
  · rw [b13 _ c2, old11 c (by omega) c3 c2 c4, old6 c c1 c3 c4]

end Go.AM

end

section

/- The network of a log: loops of joins. -/
namespace Go.AM
open Go.Proofs
theorem NFr.trans {h h1 h2 : H} {rb xb : Nat} {n0 n1 n2 : List (Sp × Value)} (a : NFr h h1 rb xb n0 n1) (b : NFr h1 h2 rb xb n1 n2) : NFr h h2 rb xb n0 n2 where
  nx := Nat.le_trans a.nx b.nx
  blk c h1' h2' h3' h4' := by
    rw [b.blk c (Nat.lt_of_lt_of_le h1' a.nx) h2' h3' (fun hc => (a.own c hc).elim h4' (fun h => by omega)), a.blk c h1' h2' h3' h4']
  own c hc := (b.own c hc).elim (a.own c) (fun h => .inr (Nat.le_trans a.nx h))

theorem NFr.ext {h h1 : H} {rb xb : Nat} {n0 : List (Sp × Value)} (x : Ext h h1) : NFr h h1 rb xb n0 n0 := ⟨x.nx, fun c hc _ _ _ => x.blk c hc, fun _ hc => .inl hc⟩

theorem NetH.ext {lo : Nat} {h h' : H} {nb rb xb : Nat} {B : List Arc} {r : Sp → Sp → Int} {nxs : List (Sp × Value)} (a : NetH lo h nb rb xb B r nxs) (x : Ext h h') : NetH lo h' nb rb xb B r nxs where
  str := by rw [x.blk _ a.nlt, a.str]
  nlt := Nat.lt_of_lt_of_le a.nlt x.nx
  rm := by rw [x.blk _ a.rlt, a.rm]
  rlt := Nat.lt_of_lt_of_le a.rlt x.nx
  ne := a.ne
  next := a.next.keep x.nx (x.blk _ a.next.xlt) fun c hc => x.blk c (a.next.lt hc).2.1
  los := a.los

theorem NetH.rowNe {lo : Nat} {h : H} {nb rb xb : Nat} {B : List Arc} {r : Sp → Sp → Int} {nxs : List (Sp × Value)} (a : NetH lo h nb rb xb B r nxs) {c : Nat} {l : List Value} {e : TypeId} {w : Bool} (hc : h.blk c = some (.row l e w)) : c ≠ rb ∧ c ≠ xb := by
  refine ⟨fun q => ?_, fun q => ?_⟩
  · rw [q, a.rm] at hc; cases hc
  · rw [q, a.next.mp] at hc; cases hc

theorem nbrs_len (B : List Arc) (u : Sp) : (nbrs B u).length ≤ 2 * B.length := by
  induction B with
  | nil => simp [nbrs]
  | cons a B ih =>
    unfold nbrs at ih ⊢
    rw [List.flatMap_cons, List.length_append, List.length_append, List.length_cons]
    have : (if a.1 = u then [a.2.1] else []).length ≤ 1 := by split <;> simp
    have : (if a.2.1 = u then [a.1] else []).length ≤ 1 := by split <;> simp
    omega

/-- One more of the arcs is joined. -/
theorem join_k {full B : List Arc} {a : Arc} (pre : (B ++ [a]) <+: full) (sf : SimpB full) (hl : full.length ≤ 300) (hc : 0 ≤ a.2.2 ∧ a.2.2 < 2 ^ 31) {lo : Nat} {h : H} {nb rb xb : Nat} {nxs : List (Sp × Value)}
    (nt : NetH lo h nb rb xb B (room0 B) nxs) : ∃ h' nxs', (∀ {R : Type} (K : Value → H → Option R), calls rn h 113 [pt nb 0, a.1.val, a.2.1.val, iv a.2.2] K = K undef h') ∧
      NetH lo h' nb rb xb (B ++ [a]) (room0 (B ++ [a])) nxs' ∧ NFr h h' rb xb nxs nxs' := by
  obtain ⟨post, rfl⟩ := pre
  have hlo : lo ≤ h.nx := by have := nt.los.1; have := nt.nlt; omega
  have pw := sf.pw
  rw [List.append_assoc, List.pairwise_append] at pw
  have hno : ¬ onA B a.1 a.2.1 := by
    rintro ⟨x, hx, h⟩
    have := pw.2.2 x hx a (by simp)
    rcases h with ⟨h1, h2⟩ | ⟨h1, h2⟩
    · exact this.1 (by rw [h1, h2])
    · exact this.2 (by rw [h1, h2])
  have hB : B.length ≤ 300 := by simp only [List.length_append] at hl; omega
  obtain ⟨h', nxs', e, n1, n2⟩ := s113 nt hlo (fun x hx => sf.ne x (by simp [hx])) (sf.ne a (by simp)) hno (fun u => by have := nbrs_len B u; omega) hc
  exact ⟨h', nxs', fun K => calls_eq e, n1, n2⟩

theorem kSp (p t : Int) (g : Bool) {R : Type} (K : Value → Option R) : bld Try.prog 113 [(0, iv p), (1, iv t), (2, .bool g)] K = K (Sp.val ⟨p, t, g⟩) := kbld113 p t g K

section
variable {lo nb rb xb : Nat} {full : List Arc} {k : Nat}
/-- Everybody waits. -/
theorem f102_l2_in {n j : Nat} {B0 : List Arc} {g0 h3 : H} {nxs0 : List (Sp × Value)} (sf : SimpB full) (hl : full.length ≤ 300) (pre : (B0 ++ waits n j) <+: full) (hn : n ≤ 7) (hj : j < 24) (hk : 10 < k)
    (nt : NetH lo g0 nb rb xb B0 (room0 B0) nxs0) (hnb : h3.nx = nb) :
    ∃ g nxs ws, (∀ {R : Type} (K : Ex → List Value → H → Option R), lp k (f102_l2 rn k h3 [iv j] n) [iv 0] g0 K = K (.exit 2) ws g) ∧ NetH lo g nb rb xb (B0 ++ waits n j) (room0 (B0 ++ waits n j)) nxs ∧ NFr g0 g rb xb nxs0 nxs := by
  obtain ⟨ws', g, e, e0, nxs, n1, n2⟩ := lp_for (k := k) (l := List.range n) (F := f102_l2 rn k h3 [iv j] n) (σ := Unit) (fun _ _ s => s)
    (fun i _ ws g => ws = [iv i] ∧ ∃ nxs, NetH lo g nb rb xb (B0 ++ (waits n j).take i) (room0 (B0 ++ (waits n j).take i)) nxs ∧ NFr g0 g rb xb nxs0 nxs) 2 (ws := [iv 0]) (h := g0) (s0 := ())
    ⟨rfl, nxs0, by simpa using nt, ⟨Nat.le_refl _, fun _ _ _ _ _ => rfl, fun _ h => .inl h⟩⟩ (by rw [List.length_range]; omega)
    (fun _ ws g hI => by
      obtain ⟨rfl, _⟩ := hI
      simp only [f102_l2, gv, List.getD_cons_zero, asI_int, List.length_range]
      rw [show AM.lt (n : Int) n = false by simp [AM.lt], ifB_false]; rfl)
    (fun i x _ ws g hx hI => by
      obtain ⟨rfl, nxs, n1, n2⟩ := hI
      have hi : i < n := by have := (List.getElem?_eq_some_iff.1 hx).1; rwa [List.length_range] at this
      have hw : (waits n j)[i]? = some (at' i j, at' i (j + 1), 1000) := by unfold waits; rw [List.getElem?_map, List.getElem?_range hi]; rfl
      have htk : (waits n j).take (i + 1) = (waits n j).take i ++ [(at' i j, at' i (j + 1), 1000)] := by rw [List.take_add_one, hw]; rfl
      obtain ⟨h', nxs', k1, m1, m2⟩ := join_k (a := (at' i j, at' i (j + 1), 1000)) (B := B0 ++ (waits n j).take i) (by
        rw [List.append_assoc, ← htk]
        exact ((List.prefix_append_right_inj B0).2 (List.take_prefix _ _)).trans pre) sf hl ⟨by simp, by simp⟩ n1
      refine ⟨[iv (i + 1 : Nat)], h', ?_, rfl, nxs', ?_, n2.trans m2⟩
      · simp only [f102_l2, gv, List.getD_cons_zero, asI_int]
        rw [show AM.lt (i : Int) n = true by simp [AM.lt]; omega, ifB_true, kSp, add64 (by omega) (by omega), kSp, nx_eq, hnb]
        rw [show ((j : Int) + 1) = ((j + 1 : Nat) : Int) by omega]
        refine (k1 _).trans ?_
        rw [add64 (by omega) (by omega)]
        rfl
      · rw [htk, ← List.append_assoc]
        exact m1)
  rw [List.length_range] at n1
  have hlen : (waits n j).length = n := by simp [waits]
  rw [List.take_of_length_le (by omega)] at n1
  exact ⟨g, nxs, ws', fun K => lp_eq e, n1, n2⟩

/-- The two of a call. -/
theorem f102_l3_in {j : Nat} {c : Kl} {B0 : List Arc} {g0 h3 h10 h11 : H} {v12 : Value} {nxs0 : List (Sp × Value)} (sf : SimpB full) (hl : full.length ≤ 300) (pre : (B0 ++ gates c j) <+: full) (hj : j < 24) (hk : 10 < k)
    (nt : NetH lo g0 nb rb xb B0 (room0 B0) nxs0) (hnb : h3.nx = nb) (h10b : g0.blk h10.nx = some (.row (inS j).cells 113 true)) (h11b : g0.blk h11.nx = some (.row (outS j).cells 113 true))
    (lt10 : h10.nx < g0.nx) (lt11 : h11.nx < g0.nx) (no10 : ¬ Own nxs0 h10.nx) (no11 : ¬ Own nxs0 h11.nx) (hv : v12 = .slice (some ⟨g0.nx - 1, 0, none⟩) 2 2) (hvb : g0.blk (g0.nx - 1) = some (.row [iv c.a, iv c.b] 3 true)) :
    ∃ g nxs ws, (∀ {R : Type} (K : Ex → List Value → H → Option R), lp k (f102_l3 rn k h3 [iv j] h10 h11 v12 2) [iv 0] g0 K = K (.exit 4) ws g) ∧ NetH lo g nb rb xb (B0 ++ (gates c j).take 4) (room0 (B0 ++ (gates c j).take 4)) nxs ∧ NFr g0 g rb xb nxs0 nxs := by
  have npos : 0 < g0.nx := by omega
  have noV : ¬ Own nxs0 (g0.nx - 1) := nt.next.notOwn fun l e => by rw [hvb] at e; cases e
  have ne10 : h10.nx ≠ rb ∧ h10.nx ≠ xb := nt.rowNe h10b
  have ne11 : h11.nx ≠ rb ∧ h11.nx ≠ xb := nt.rowNe h11b
  have neV : g0.nx - 1 ≠ rb ∧ g0.nx - 1 ≠ xb := nt.rowNe hvb
  obtain ⟨ws', g, e, e0, nxs, n1, n2⟩ := lp_for (k := k) (l := [c.a, c.b]) (F := f102_l3 rn k h3 [iv j] h10 h11 v12 2) (σ := Unit) (fun _ _ s => s)
    (fun i _ ws g => ws = [iv i] ∧ ∃ nxs, NetH lo g nb rb xb (B0 ++ (gates c j).take (2 * i)) (room0 (B0 ++ (gates c j).take (2 * i))) nxs ∧ NFr g0 g rb xb nxs0 nxs) 4 (ws := [iv 0]) (h := g0) (s0 := ())
    ⟨rfl, nxs0, by simpa using nt, ⟨Nat.le_refl _, fun _ _ _ _ _ => rfl, fun _ h => .inl h⟩⟩ (by show 2 < k; omega)
    (fun _ ws g hI => by
      obtain ⟨rfl, _⟩ := hI
      simp only [f102_l3, gv, List.getD_cons_zero, asI_int]
      rfl)
    (fun i x _ ws g hx hI => by
      obtain ⟨rfl, nxs, n1, n2⟩ := hI
      have hi : i < 2 := (List.getElem?_eq_some_iff.1 hx).1
      have hp : ∃ p, x = p ∧ (gates c j).take (2 * i + 1) = (gates c j).take (2 * i) ++ [(at' p j, inS j, 1)] ∧ (gates c j).take (2 * (i + 1)) = (gates c j).take (2 * i) ++ [(at' p j, inS j, 1)] ++ [(outS j, at' p (j + 1), 1)] := by
        match i, hi with
        | 0, _ => simp only [List.getElem?_cons_zero, Option.some.injEq] at hx; exact ⟨c.a, hx.symm, rfl, rfl⟩
        | 1, _ => simp only [List.getElem?_cons_succ, List.getElem?_cons_zero, Option.some.injEq] at hx; exact ⟨c.b, hx.symm, rfl, rfl⟩
      obtain ⟨p, rfl, t1, t2⟩ := hp
      obtain ⟨ha, nxa, k1, m1, m2⟩ := join_k (a := (at' x j, inS j, 1)) (B := B0 ++ (gates c j).take (2 * i)) (by
        rw [List.append_assoc, ← t1]
        exact ((List.prefix_append_right_inj B0).2 (List.take_prefix _ _)).trans pre) sf hl ⟨by simp, by simp⟩ n1
      obtain ⟨hb, nxb, k2, m3, m4⟩ := join_k (a := (outS j, at' x (j + 1), 1)) (B := B0 ++ (gates c j).take (2 * i) ++ [(at' x j, inS j, 1)]) (by
        rw [List.append_assoc, List.append_assoc, ← List.append_assoc ((gates c j).take (2 * i)), ← t2]
        exact ((List.prefix_append_right_inj B0).2 (List.take_prefix _ _)).trans pre) sf hl ⟨by simp, by simp⟩ m1
      have na := n2.trans m2
      have b10 : g.blk h10.nx = some (.row (inS j).cells 113 true) := by rw [n2.blk _ lt10 ne10.1 ne10.2 no10, h10b]
      have b11 : ha.blk h11.nx = some (.row (outS j).cells 113 true) := by rw [na.blk _ lt11 ne11.1 ne11.2 no11, h11b]
      have bv : g.blk (g0.nx - 1) = some (.row [iv c.a, iv c.b] 3 true) := by rw [n2.blk _ (by omega) neV.1 neV.2 noV, hvb]
      refine ⟨[iv (i + 1 : Nat)], hb, ?_, rfl, nxb, ?_, na.trans m4⟩
      · simp only [f102_l3, gv, List.getD_cons_zero, asI_int, asK_int]
        rw [show AM.lt (i : Int) 2 = true by simp [AM.lt]; omega, ifB_true, hv]
        simp only [six]
        rw [if_pos ⟨by omega, by omega⟩]
        rw [d3, cell_of bv, show ([iv c.a, iv c.b] : List Value)[0 + ((i : Nat) : Int).toNat * 1]? = some (iv x) by
          rw [show 0 + ((i : Nat) : Int).toNat * 1 = i by omega]
          match i, hi with
          | 0, _ => simp only [List.getElem?_cons_zero, Option.some.injEq] at hx ⊢; rw [hx]
          | 1, _ => simp only [List.getElem?_cons_succ, List.getElem?_cons_zero, Option.some.injEq] at hx ⊢; rw [hx]]
        simp only [Option.bind_some, asI_int]
        rw [kSp, nx_eq, nx_eq, ldS b10, hnb]
        refine (k1 _).trans ?_
        rw [nx_eq, ldS b11, add64 (by omega) (by omega), kSp, show ((j : Int) + 1) = ((j + 1 : Nat) : Int) by omega]
        refine (k2 _).trans ?_
        rw [add64 (by omega) (by omega)]
        rfl
      · rw [t2, ← List.append_assoc, ← List.append_assoc]
        exact m3)
  exact ⟨g, nxs, ws', fun K => lp_eq e, n1, n2⟩

end
end Go.AM

end

section

/- The network of a log. -/
namespace Go.AM
open Go.Proofs
theorem bls25_2 (x y : Int) (h : H) : buildSlice Try.prog 25 2 [(0, .int .i64 x), (1, .int .i64 y)] h = some (.slice (some ⟨h.nx, 0, none⟩) 2 2, h.new (.row [iv x, iv y] 3 true)) := by kernel_rfl

theorem st113 {h : H} {b : Nat} {x : Sp} {zs : List Value} {R : Type} {K : H → Option R} (hb : h.blk b = some (.row zs 113 true)) (hz : zs.length = 3) : st Try.prog h 113 b 0 x.val K = K (h.set b (.row x.cells 113 true)) := by
  rw [st_eq (v := x.val) (by rw [sz113]; rfl) hb (by simp [Value.cells, hz]) (by simp [Value.cells, scal])]
  have : setAt zs 0 x.val.cells.toList = x.cells := setAt_all x.cells [] zs hz
  rw [this]

/-- Which calls are gone. -/
abbrev goneD (g : Nat) : Nat → Bool := fun i => g.testBit i

theorem base_succ {n : Nat} {l : List Kl} {d : Nat → Bool} {j : Nat} : baseA n l d (j + 1) = baseA n l d j ++ chunk n l d j := by
  unfold baseA
  rw [List.range_succ, List.flatMap_append]
  simp

theorem base_pre {n : Nat} {l : List Kl} {d : Nat → Bool} {j m : Nat} (h : j ≤ m) : baseA n l d j <+: baseA n l d m := by
  induction m with
  | zero =>
    have e : j = 0 := by omega
    rw [e]
    exact List.prefix_rfl
  | succ m ih =>
    by_cases e : j = m + 1
    · subst e; exact List.prefix_rfl
    · rw [base_succ]
      exact (ih (by omega)).trans (List.prefix_append _ _)

theorem chunk_len {n : Nat} {l : List Kl} {d : Nat → Bool} {j : Nat} : (chunk n l d j).length ≤ n + 5 := by
  unfold chunk
  split
  · split <;> simp [waits, gates]
  · simp

theorem base_len {n : Nat} {l : List Kl} {d : Nat → Bool} (m : Nat) : (baseA n l d m).length ≤ m * (n + 5) := by
  induction m with
  | zero => simp [baseA]
  | succ m ih =>
    rw [base_succ, List.length_append, Nat.succ_mul]
    have := chunk_len (n := n) (l := l) (d := d) (j := m)
    omega

section
variable {lo nb rb xb : Nat} {k : Nat}
theorem f102_l1_in {n : Nat} {l : List Kl} {gone : Nat} {j : Nat} {c : Kl} (hc : l[j]? = some c) (hv : validP n l = true) (hgn : gone < 2 ^ 62) {g0 h0 h3 : H} {sl : Value} {nxs0 : List (Sp × Value)} (hk : 30 < k)
    (nt : NetH lo g0 nb rb xb (baseA n l (goneD gone) j) (room0 (baseA n l (goneD gone) j)) nxs0) (hnb : h3.nx = nb) (hs : SlR g0 56 3 sl (l.map Kl.cells)) (hbx : g0.blk h0.nx = some (.row [iv n, sl] 31 true)) (hbl : h0.nx < g0.nx) :
    ∃ g nxs, f102_l1 rn k gone h0 h3 sl l.length [iv j] g0 = some (.normal, [iv (j + 1 : Nat)], g) ∧ NetH lo g nb rb xb (baseA n l (goneD gone) (j + 1)) (room0 (baseA n l (goneD gone) (j + 1))) nxs ∧ NFr g0 g rb xb nxs0 nxs := by
  have hn := validP_ok hv
  have hjl : j < l.length := (List.getElem?_eq_some_iff.1 hc).1
  obtain ⟨hca, hcb, hcab, _⟩ := okC_iff.1 (hn.2.2.2 j c hc)
  have sf : SimpB (baseA n l (goneD gone) l.length) := base_simp fun i c' hc' => (okC_iff.1 (hn.2.2.2 i c' hc')).2.2.1
  have hfl : (baseA n l (goneD gone) l.length).length ≤ 300 := by
    refine Nat.le_trans (base_len _) (Nat.le_trans (Nat.mul_le_mul hn.2.2.1 (show n + 5 ≤ 12 by omega)) (by decide))
  have pre1 : baseA n l (goneD gone) j ++ chunk n l (goneD gone) j <+: baseA n l (goneD gone) l.length := by rw [← base_succ]; exact base_pre hjl
  have hch : chunk n l (goneD gone) j = waits n j ++ if goneD gone j then [] else gates c j := by unfold chunk; rw [hc]
  -- a copy of the call
  have x7 := (Ext.refl g0).fresh 56 [iv 0, iv 0, iv 0] c.cells
  have hcb7 := blk_fresh g0 56 [iv 0, iv 0, iv 0] c.cells
  generalize e7 : g0.fresh 56 [iv 0, iv 0, iv 0] c.cells = h7 at x7 hcb7
  have n7 : h7.nx = g0.nx + 1 := by rw [← e7]; rfl
  have hbx7 : h7.blk h0.nx = some (.row [iv n, sl] 31 true) := by rw [x7.blk _ hbl, hbx]
  obtain ⟨g1, nxs1, ws1, k1, m1, f1⟩ := f102_l2_in (n := n) (j := j) (B0 := baseA n l (goneD gone) j) (h3 := h3) (k := k) sf hfl (by
    rw [hch, ← List.append_assoc] at pre1
    exact (List.prefix_append _ _).trans pre1) (by omega) (by omega) (by omega) (nt.ext x7) hnb
  have hwl : (waits n j).length = n := by simp [waits]
  -- what the loop has left
  have no0 : ∀ {q : Nat} {L : List Value} {e : TypeId} {w : Bool}, g0.blk q = some (.row L e w) → e ≠ 113 → ¬ Own nxs0 q := fun h1 h2 => nt.next.notOwn fun L' h3 => by rw [h1] at h3; cases h3; exact h2 rfl
  have nocb : ¬ Own nxs0 g0.nx := fun h => by have := (nt.next.lt h).2.1; omega
  have nb7 := (nt.ext x7).rowNe hcb7
  have cb1 : g1.blk g0.nx = some (.row c.cells 56 true) := by rw [f1.blk _ (by omega) nb7.1 nb7.2 nocb, hcb7]
  have head : ∀ {r : Option (Ex × List Value × H)}, (∀ (b : Bool), ifB ((goneD gone j)) (out .normal [iv (j + 1 : Nat)] g1) (
      bld Try.prog 113 [(0, (.int .i64 0)), (1, iv (j + 1 : Nat)), (2, (.bool true))] fun v8 =>
          bld Try.prog 113 [(0, (.int .i64 1)), (1, iv (j + 1 : Nat)), (2, (.bool true))] fun v9 =>
          al g1 113 [(.int .i64 0), (.int .i64 0), (.bool false)] fun h11 =>
          al h11 113 [(.int .i64 0), (.int .i64 0), (.bool false)] fun h12 =>
          st Try.prog h12 113 (AM.nx g1) 0 v8 fun h13 =>
          st Try.prog h13 113 (AM.nx h11) 0 v9 fun h14 =>
          ld Try.prog h14 3 (AM.nx g0) 0 fun v10 =>
          asI .i64 v10 fun n12 =>
          ld Try.prog h14 3 (AM.nx g0) (off 0 1) fun v11 =>
          asI .i64 v11 fun n13 =>
          bls Try.prog h14 25 2 [(0, (.int .i64 n12)), (1, (.int .i64 n13))] fun v12 h15 =>
          len v12 fun n14 =>
          lp k (f102_l3 rn k h3 [iv j] g1 h11 v12 n14) [(.int .i64 0)] h15 fun e1 _ h19 =>
          onE e1 4 (
            ld Try.prog h19 113 (AM.nx g1) 0 fun v20 =>
            ld Try.prog h19 113 (AM.nx h11) 0 fun v21 =>
            calls rn h19 113 [(pt (AM.nx h3) 0), v20, v21, (.int .i64 1)] fun _ h20 =>
            out .normal [iv (j + 1 : Nat)] h20) (
            none)) = r) → f102_l1 rn k gone h0 h3 sl l.length [iv j] g0 = r := by
    intro r hr
    unfold f102_l1
    simp only [gv, List.getD_cons_zero, asI_int, asK_int]
    rw [lt_t (by omega), ifB_true, hs.ldA ag56 sz56 (by omega) (x := c.cells) (by simp [hc]), al_st (zs := [iv 0, iv 0, iv 0]) (xs := c.cells) sz56 rfl rfl, e7, nx_eq, d3, cell_of hbx7]
    simp only [List.getElem?_cons_zero, Option.bind_some, asI_int]
    rw [k1, onE_exit, if_pos rfl]
    unfold AM.nn
    rw [if_neg (by omega), bit_nat (by omega) (by omega), add64 (by omega) (by omega)]
    have := hr true
    rw [← this, show ((j : Int) + 1) = ((j + 1 : Nat) : Int) by omega]
    congr 1
    unfold goneD
    cases gone.testBit j <;> rfl
  cases hd : goneD gone j with
  | true =>
    rw [hd] at hch
    simp only [if_true, List.append_nil] at hch
    rw [base_succ, hch]
    refine ⟨g1, nxs1, head fun _ => by rw [hd, ifB_true]; rfl, m1, (NFr.ext x7).trans f1⟩
  | false =>
    rw [hd] at hch
    simp only [Bool.false_eq_true, if_false] at hch
    rw [base_succ, hch]
    rw [hch] at pre1
    -- the ends of the call
    generalize e11 : g1.new (.row [iv 0, iv 0, .bool false] 113 true) = h11
    generalize e12 : h11.new (.row [iv 0, iv 0, .bool false] 113 true) = h12
    generalize e13 : h12.set g1.nx (.row (inS j).cells 113 true) = h13
    generalize e14 : h13.set h11.nx (.row (outS j).cells 113 true) = h14
    generalize e15 : h14.new (.row [iv c.a, iv c.b] 3 true) = h15
    have n11 : h11.nx = g1.nx + 1 := by rw [← e11]; rfl
    have n14 : h14.nx = g1.nx + 2 := by rw [← e14, ← e13, ← e12]; show h11.nx + 1 = _; omega
    have n15 : h15.nx = g1.nx + 3 := by rw [← e15]; show h14.nx + 1 = _; omega
    have b12 : h12.blk g1.nx = some (.row [iv 0, iv 0, .bool false] 113 true) := by rw [← e12, blk_new, if_neg (by omega), ← e11, blk_new, if_pos rfl]
    have b13 : h13.blk h11.nx = some (.row [iv 0, iv 0, .bool false] 113 true) := by
      rw [← e13]
      show (if h11.nx = g1.nx then _ else h12.blk h11.nx) = _
      rw [if_neg (by omega), ← e12, blk_new, if_pos rfl]
    have bi14 : h14.blk g1.nx = some (.row (inS j).cells 113 true) := by
      rw [← e14]
      show (if g1.nx = h11.nx then _ else h13.blk g1.nx) = _
      rw [if_neg (by omega), ← e13]
      show (if g1.nx = g1.nx then _ else _) = _
      rw [if_pos rfl]
    have bo14 : h14.blk h11.nx = some (.row (outS j).cells 113 true) := by
      rw [← e14]
      show (if h11.nx = h11.nx then _ else _) = _
      rw [if_pos rfl]
    have x14 : Ext g1 h14 := ⟨by omega, fun q hq => by
      rw [← e14]
      show (if q = h11.nx then _ else h13.blk q) = _
      rw [if_neg (by omega), ← e13]
      show (if q = g1.nx then _ else h12.blk q) = _
      rw [if_neg (by omega), ← e12, blk_new, if_neg (by omega), ← e11, blk_new, if_neg (by omega)]⟩
    have x15 : Ext h14 h15 := by rw [← e15]; exact .new _ _
    have x1 := x14.trans x15
    have cb14 : h14.blk g0.nx = some (.row c.cells 56 true) := by rw [x14.blk _ (by have := f1.nx; omega), cb1]
    have bi15 : h15.blk g1.nx = some (.row (inS j).cells 113 true) := by rw [x15.blk _ (by omega), bi14]
    have bo15 : h15.blk h11.nx = some (.row (outS j).cells 113 true) := by rw [x15.blk _ (by omega), bo14]
    have bv15 : h15.blk (h15.nx - 1) = some (.row [iv c.a, iv c.b] 3 true) := by rw [show h15.nx - 1 = h14.nx by omega, ← e15, blk_new, if_pos rfl]
    have noi : ¬ Own nxs1 g1.nx := fun h => by have := (m1.next.lt h).2.1; omega
    have noo : ¬ Own nxs1 h11.nx := fun h => by have := (m1.next.lt h).2.1; omega
    have m15 := m1.ext x1
    obtain ⟨g2, nxs2, ws2, k2, m2, f2⟩ := f102_l3_in (c := c) (j := j) (h3 := h3) (h10 := g1) (h11 := h11) (k := k) sf hfl (by rw [List.append_assoc]; exact pre1) (by omega) (by omega) m15 hnb bi15 bo15 (by omega) (by omega) noi noo
      (v12 := .slice (some ⟨h14.nx, 0, none⟩) 2 2) (by rw [show h15.nx - 1 = h14.nx by omega]) bv15
    have gi := m15.rowNe bi15
    have go := m15.rowNe bo15
    have bi2 : g2.blk g1.nx = some (.row (inS j).cells 113 true) := by rw [f2.blk _ (by omega) gi.1 gi.2 noi, bi15]
    have bo2 : g2.blk h11.nx = some (.row (outS j).cells 113 true) := by rw [f2.blk _ (by omega) go.1 go.2 noo, bo15]
    have tk : gates c j = (gates c j).take 4 ++ [(inS j, outS j, 1)] := rfl
    obtain ⟨g3, nxs3, k3, m3, f3⟩ := join_k (a := (inS j, outS j, 1)) (B := baseA n l (goneD gone) j ++ waits n j ++ (gates c j).take 4) (by
      rw [List.append_assoc, ← tk, List.append_assoc]; exact pre1) sf hfl ⟨by simp, by simp⟩ m2
    refine ⟨g3, nxs3, head fun _ => ?_, ?_, (((NFr.ext x7).trans f1).trans (NFr.ext x1)).trans (f2.trans f3)⟩
    · rw [hd, ifB_false, kSp, kSp, al_eq, e11, al_eq, e12, nx_eq, nx_eq, nx_eq, nx_eq]
      rw [st113 (x := ⟨0, ((j + 1 : Nat) : Int), true⟩) b12 rfl, show (⟨0, ((j + 1 : Nat) : Int), true⟩ : Sp) = inS j by simp, e13]
      rw [st113 (x := ⟨1, ((j + 1 : Nat) : Int), true⟩) b13 rfl, show (⟨1, ((j + 1 : Nat) : Int), true⟩ : Sp) = outS j by simp, e14]
      rw [d3, cell_of cb14]
      simp only [Kl.cells, List.getElem?_cons_zero, Option.bind_some, asI_int]
      rw [d3, cell_of cb14, show off 0 1 = 1 from rfl]
      simp only [Kl.cells, List.getElem?_cons_succ, List.getElem?_cons_zero, Option.bind_some, asI_int]
      unfold bls
      rw [bls25_2]
      simp only [Option.bind_some, e15, len_slice]
      refine (k2 _).trans ?_
      rw [onE_exit, if_pos rfl, ldS bi2, ldS bo2, hnb]
      refine (k3 _).trans ?_
      rfl
    · rw [← List.append_assoc]
      rw [tk, ← List.append_assoc]
      exact m3

end
end Go.AM

end

section

/- The network of a log, whole. -/
namespace Go.AM
open Go.Proofs
theorem kb118 (a b : Nat) {R : Type} (K : Value → Option R) : bld Try.prog 118 [(0, .map (some a)), (1, .map (some b))] K = K (.agg #[.map (some a), .map (some b)]) := bld_some (by kernel_rfl)

theorem s102 {n : Nat} {l : List Kl} {gone : Nat} {sl : Value} {h : H} (hs : SlR h 56 3 sl (l.map Kl.cells)) (hv : validP n l = true) (hgn : gone < 2 ^ 62) :
    ∃ h' nb rb xb nxs, rn 102 #[.agg #[iv n, sl], iv gone] h = some (pt nb 0, h') ∧ NetH h.nx h' nb rb xb (baseA n l (goneD gone) l.length) (room0 (baseA n l (goneD gone) l.length)) nxs ∧ Ext h h' := by
  have hn := validP_ok hv
  obtain ⟨a, m, cp, rfl⟩ := hs.isSl
  generalize hsl : Value.slice a m cp = sl at hs
  generalize e1 : h.new (.row [iv n, sl] 31 true) = h1
  generalize e2 : h1.new (.mp [] 0) = h2
  generalize e3 : h2.new (.mp [] 0) = h3
  generalize e4 : h3.new (.row [.map (some h1.nx), .map (some h2.nx)] 118 true) = h4
  have n1 : h1.nx = h.nx + 1 := by rw [← e1]; rfl
  have n2 : h2.nx = h.nx + 2 := by rw [← e2]; show h1.nx + 1 = _; omega
  have n3 : h3.nx = h.nx + 3 := by rw [← e3]; show h2.nx + 1 = _; omega
  have n4 : h4.nx = h.nx + 4 := by rw [← e4]; show h3.nx + 1 = _; omega
  have x4 : Ext h h4 := by rw [← e4, ← e3, ← e2, ← e1]; exact (((Ext.new _ _).trans (.new _ _)).trans (.new _ _)).trans (.new _ _)
  have bx4 : h4.blk h.nx = some (.row [iv n, sl] 31 true) := by rw [← e4, blk_new, if_neg (by omega), ← e3, blk_new, if_neg (by omega), ← e2, blk_new, if_neg (by omega), ← e1, blk_new, if_pos rfl]
  have nt0 : NetH h.nx h4 h3.nx h1.nx h2.nx (baseA n l (goneD gone) 0) (room0 (baseA n l (goneD gone) 0)) [] := by
    refine ⟨?_, by omega, ?_, by omega, by omega, ⟨?_, by omega, fun u v hv => ?_, fun u _ => rfl, fun u u' v v' b hv => ?_⟩, by omega, by omega, by omega⟩
    · rw [← e4, blk_new, if_pos rfl]
    · rw [← e4, blk_new, if_neg (by omega), ← e3, blk_new, if_neg (by omega), ← e2, blk_new, if_pos rfl]; rfl
    · rw [← e4, blk_new, if_neg (by omega), ← e3, blk_new, if_pos rfl]; rfl
    · cases hv
    · cases hv
  obtain ⟨ws', g, e, e0, nxs, m1, m2⟩ := lp_for (k := 1000) (l := l) (F := f102_l1 rn 1000 gone h h3 sl l.length) (σ := Unit) (fun _ _ s => s)
    (fun i _ ws g => ws = [iv i] ∧ ∃ nxs, NetH h.nx g h3.nx h1.nx h2.nx (baseA n l (goneD gone) i) (room0 (baseA n l (goneD gone) i)) nxs ∧ NFr h4 g h1.nx h2.nx [] nxs) 0 (ws := [iv 0]) (h := h4) (s0 := ())
    ⟨rfl, [], nt0, ⟨Nat.le_refl _, fun _ _ _ _ _ => rfl, fun _ h => .inl h⟩⟩ (by omega)
    (fun _ ws g hI => by
      obtain ⟨rfl, _⟩ := hI
      simp only [f102_l1, gv, List.getD_cons_zero, asI_int]
      rw [lt_f (by omega), ifB_false]; rfl)
    (fun i c _ ws g hc hI => by
      obtain ⟨rfl, nxs, m1, m2⟩ := hI
      have no : ∀ q, ¬ Own [] q := fun q ⟨u, v, hv, _⟩ => by cases hv
      have below : ∀ q, q < h.nx + 1 → g.blk q = h4.blk q := fun q hq => m2.blk q (by omega) (by omega) (by omega) (no q)
      have hsg : SlR g 56 3 sl (l.map Kl.cells) := hs.ext ⟨by have := m2.nx; omega, fun q hq => by rw [below q (by omega), x4.blk q hq]⟩
      obtain ⟨g', nxs', f1, f2, f3⟩ := f102_l1_in (k := 1000) (h0 := h) (h3 := h3) (sl := sl) hc hv hgn (by omega) m1 rfl hsg (by rw [below _ (by omega), bx4]) (by have := m2.nx; omega)
      exact ⟨[iv (i + 1 : Nat)], g', f1, rfl, nxs', f2, m2.trans f3⟩)
  have hrun : f102 rn 1000 (.agg #[iv n, sl]) gone h = some (pt h3.nx 0, g) := by
    unfold f102
    rw [bx_eq]
    simp only [Value.cells]
    rw [e1, mkm_eq, e2, mkm_eq, e3]
    simp only [nx_eq]
    rw [kb118, bx_eq]
    simp only [Value.cells]
    rw [e4, d29, cell_of bx4, show off 0 1 = 1 from rfl]
    simp only [List.getElem?_cons_succ, List.getElem?_cons_zero, Option.bind_some]
    rw [hs.len, List.length_map, lp_eq e, onE_exit, if_pos rfl]
  have xg : Ext h g := ⟨by have := m2.nx; omega, fun q hq => by rw [m2.blk q (by omega) (by omega) (by omega) (fun ⟨u, v, hv, _⟩ => by cases hv), x4.blk q hq]⟩
  exact ⟨g, h3.nx, h1.nx, h2.nx, nxs, x102 hrun rfl, m1, xg⟩

end Go.AM

end

section

/- Rooms are turned; loops with a measure. -/
namespace Go.AM
open Go.Proofs
/-- A loop that goes on while something grows less. -/
theorem lp_meas {σ : Type} {F : List Value → H → Option (Ex × List Value × H)} (I : σ → List Value → H → Prop) (m : σ → Nat) (Q : Ex → List Value → H → Prop)
    (step : ∀ s ws h, I s ws h → ∃ e ws' h', F ws h = some (e, ws', h') ∧ ((e = .normal ∧ ∃ s', I s' ws' h' ∧ m s' < m s) ∨ (e ≠ .normal ∧ Q e ws' h'))) :
    ∀ (k : Nat) (s : σ) (ws : List Value) (h : H), m s < k → I s ws h → ∃ e ws' h', lpGo F k ws h = some (e, ws', h') ∧ Q e ws' h' := by
  intro k
  induction k with
  | zero => intro s ws h hk; omega
  | succ k ih =>
    intro s ws h hk hI
    obtain ⟨e, ws', h', e1, e2⟩ := step s ws h hI
    simp only [lpGo, e1, Option.bind_some]
    rcases e2 with ⟨rfl, s', i', lt⟩ | ⟨hne, q⟩
    · exact ih s' ws' h' (by omega) i'
    · cases e with
      | normal => exact absurd rfl hne
      | exit i => exact ⟨_, _, _, rfl, q⟩
      | ret => exact ⟨_, _, _, rfl, q⟩

/-- The keys of the map of rooms. -/
def keysA (B : List Arc) : List (Sp × Sp) := B.flatMap fun a => [(a.2.1, a.1), (a.1, a.2.1)]

theorem ks_map (B : List Arc) (r : Sp → Sp → Int) : ksA B r = (keysA B).map fun q => (q, iv (r q.1 q.2)) := by
  unfold ksA keysA
  rw [List.map_flatMap]
  rfl

theorem mem_keysA {B : List Arc} {u v : Sp} : (u, v) ∈ keysA B ↔ onA B u v := by
  unfold keysA onA
  rw [List.mem_flatMap]
  constructor
  · rintro ⟨a, ha, h⟩
    simp only [List.mem_cons, List.not_mem_nil, or_false, Prod.mk.injEq] at h
    rcases h with h | h
    · exact ⟨a, ha, .inr ⟨h.2.symm, h.1.symm⟩⟩
    · exact ⟨a, ha, .inl ⟨h.1.symm, h.2.symm⟩⟩
  · rintro ⟨a, ha, h⟩
    refine ⟨a, ha, ?_⟩
    simp only [List.mem_cons, List.not_mem_nil, or_false, Prod.mk.injEq]
    rcases h with h | h
    · exact .inr ⟨h.1.symm, h.2.symm⟩
    · exact .inl ⟨h.2.symm, h.1.symm⟩

theorem keysA_nodup {B : List Arc} (sb : SimpB B) : (keysA B).Nodup := by
  obtain ⟨pw, ne⟩ := sb
  induction B with
  | nil => exact List.nodup_nil
  | cons a B ih =>
    rw [List.pairwise_cons] at pw
    show ([(a.2.1, a.1), (a.1, a.2.1)] ++ keysA B).Nodup
    rw [List.nodup_append]
    refine ⟨?_, ih pw.2 fun b hb => ne b (List.mem_cons_of_mem _ hb), ?_⟩
    · have := ne a List.mem_cons_self
      simp only [List.nodup_cons, List.mem_cons, Prod.mk.injEq, List.not_mem_nil, or_false, not_false_eq_true, List.nodup_nil, and_true]
      exact fun h => this h.2
    · intro x hx y hy
      rintro rfl
      obtain ⟨u, v⟩ := x
      obtain ⟨b, hb, h⟩ := mem_keysA.1 hy
      have := pw.1 b hb
      unfold ApartA at this
      simp only [ne_eq, Prod.mk.injEq] at this
      simp only [List.mem_cons, List.not_mem_nil, or_false, Prod.mk.injEq] at hx
      rcases hx with ⟨h1, h2⟩ | ⟨h1, h2⟩ <;> rcases h with ⟨h3, h4⟩ | ⟨h3, h4⟩
      · exact this.2 ⟨by rw [h4, ← h2], by rw [h3, ← h1]⟩
      · exact this.1 ⟨by rw [h3, ← h2], by rw [h4, ← h1]⟩
      · exact this.1 ⟨by rw [h3, ← h1], by rw [h4, ← h2]⟩
      · exact this.2 ⟨by rw [h4, ← h1], by rw [h3, ← h2]⟩

theorem lookK_map {κ : Type} [DecidableEq κ] {f : κ → Value} : ∀ (ks : List κ) (k : κ) (i : Nat), ks.Nodup → k ∈ ks → ∃ j, ks[j]? = some k ∧ lookK (ks.map fun q => (q, f q)) k i = some (i + j, f k) := by
  intro ks
  induction ks with
  | nil => intro k i _ h; cases h
  | cons q ks ih =>
    intro k i hn hk
    rw [List.nodup_cons] at hn
    simp only [List.map_cons, lookK]
    by_cases e : k = q
    · subst e
      exact ⟨0, rfl, by rw [if_pos rfl]; rfl⟩
    · rw [if_neg e]
      obtain ⟨j, h1, h2⟩ := ih k (i + 1) hn.2 ((List.mem_cons.1 hk).resolve_left e)
      exact ⟨j + 1, by simpa using h1, by rw [h2, show i + 1 + j = i + (j + 1) by omega]⟩

theorem putK_map {κ : Type} [DecidableEq κ] {f g : κ → Value} {ks : List κ} (hn : ks.Nodup) {k : κ} (hk : k ∈ ks) {v : Value} (hv : g k = v) (ho : ∀ q, q ≠ k → g q = f q) : putK (ks.map fun q => (q, f q)) k v = ks.map fun q => (q, g q) := by
  obtain ⟨j, h1, h2⟩ := lookK_map (f := f) ks k 0 hn hk
  rw [Nat.zero_add] at h2
  unfold putK
  rw [h2]
  refine List.ext_getElem? fun i => ?_
  simp only
  rw [List.getElem?_set, List.getElem?_map, List.getElem?_map]
  by_cases e : j = i
  · subst e
    have hlt := (List.getElem?_eq_some_iff.1 h1).1
    rw [if_pos rfl, if_pos (by rw [List.length_map]; exact hlt), h1, Option.map_some, hv]
  · rw [if_neg e]
    cases hi : ks[i]? with
    | none => rfl
    | some q =>
      have : q ≠ k := by
        rintro rfl
        exact e ((List.getElem?_inj (List.getElem?_eq_some_iff.1 h1).1 hn).1 (h1.trans hi.symm))
      simp only [Option.map_some, ho q this]

/-- One room is written. -/
def updR (r : Sp → Sp → Int) (x y : Sp) (z : Int) : Sp → Sp → Int := fun u v => if u = x ∧ v = y then z else r u v

theorem ks_put {B : List Arc} (sb : SimpB B) {r : Sp → Sp → Int} {x y : Sp} (hon : onA B x y) (z : Int) : putK (ksA B r) (x, y) (iv z) = ksA B (updR r x y z) := by
  rw [ks_map, ks_map]
  refine putK_map (keysA_nodup sb) (mem_keysA.2 hon) ?_ fun q hq => ?_
  · simp [updR]
  · obtain ⟨u, v⟩ := q
    unfold updR
    rw [if_neg (fun h : u = x ∧ v = y => hq (by rw [h.1, h.2]))]

theorem upd_step {r : Sp → Sp → Int} {x y : Sp} (hxy : x ≠ y) : updR (updR r x y (r x y - 1)) y x (r y x + 1) = stepR r x y := by
  funext u v
  unfold updR stepR
  by_cases h1 : u = x ∧ v = y
  · obtain ⟨rfl, rfl⟩ := h1
    rw [if_neg (fun h => hxy h.1), if_pos ⟨rfl, rfl⟩, if_pos ⟨rfl, rfl⟩]
  · by_cases h2 : u = y ∧ v = x
    · obtain ⟨rfl, rfl⟩ := h2
      rw [if_pos ⟨rfl, rfl⟩, if_neg h1, if_pos ⟨rfl, rfl⟩]
    · rw [if_neg h2, if_neg h1, if_neg h1, if_neg h2]

/-- m[k]++ and the like, where the entry is there. -/
theorem men_est {κ : Type} [DecidableEq κ] {P : Program} {kt vt t : TypeId} {enc : κ → Value} {h : H} {b : Nat} {kv : List (κ × Value)} {k : κ} {R : Type} {z v0 v : Value} (q : Key P kt enc) (ht : P.underlying t = some (.map kt vt)) (hz : zero? P vt = some z)
    (hb : h.blk b = some (mpOf enc kv)) (hk : valK kv k = some v0) (K : H → Option R) :
    (men P h t (.map (some b)) (enc k) fun v1 h1 => ck (twm (.map (some b)) (.map (some b))) (ext v1 1 fun v2 => asI .i64 v2 fun n => est h1 (.map (some b)) (.int .i64 n) v K)) = K ((h.set b (mpOf enc kv)).set b (mpOf enc (putK kv k v))) := by
  rw [men_of q ht hz hb]
  unfold valK at hk
  obtain ⟨⟨i, v1⟩, hl, rfl⟩ := Option.map_eq_some_iff.1 hk
  obtain ⟨j, h1, h2⟩ := lookK_some kv 0 _ hl
  simp only [Nat.zero_add] at h1
  subst h1
  rw [hl]
  simp only [twm, beq_self_eq_true, ck_true, ext, show (#[v1, Value.int .i64 (i : Nat)] : Array Value)[1]? = some (.int .i64 (i : Nat)) from rfl, Option.bind_some, asI_int]
  rw [est_of (h := h.set b (mpOf enc kv)) (kv := kv) (by show (if b = b then _ else _) = _; rw [if_pos rfl]) h2]
  unfold putK
  rw [hl]

end Go.AM

end

section

/- A way is turned. -/
namespace Go.AM
open Go.Proofs
/-- From where each spot was reached, in order. -/
abbrev kvF (fr : List (Sp × Sp)) : List (Sp × Value) := fr.map fun q => (q.1, q.2.val)

structure FrOk (B : List Arc) (S : Sp) (fr : List (Sp × Sp)) : Prop where
  nd : (fr.map (·.1)).Nodup
  h0 : fr[0]? = some (S, S)
  back : ∀ (i : Nat) (y x : Sp), 1 ≤ i → fr[i]? = some (y, x) → onA B x y ∧ ∃ (i' : Nat) (x' : Sp), i' < i ∧ fr[i']? = some (x, x')

theorem valK_fr {fr : List (Sp × Sp)} (hn : (fr.map (·.1)).Nodup) {i : Nat} {y x : Sp} (h : fr[i]? = some (y, x)) : valK (kvF fr) y = some x.val := by
  have go : ∀ (fr : List (Sp × Sp)) (i j : Nat), (fr.map (·.1)).Nodup → fr[i]? = some (y, x) → (lookK (kvF fr) y j).map (·.2) = some x.val := by
    intro fr
    induction fr with
    | nil => intro i j _ h; simp at h
    | cons q fr ih =>
      intro i j hn h
      rw [List.map_cons, List.nodup_cons] at hn
      simp only [kvF, List.map_cons, lookK]
      cases i with
      | zero =>
        simp only [List.getElem?_cons_zero, Option.some.injEq] at h
        subst h
        simp
      | succ i =>
        rw [List.getElem?_cons_succ] at h
        have hne : y ≠ q.1 := by
          rintro rfl
          exact hn.1 (List.mem_map.2 ⟨_, List.mem_of_getElem? h, rfl⟩)
        rw [if_neg hne]
        exact ih i (j + 1) hn.2 h
  exact go fr i 0 hn h

theorem kEq (x y : Sp) {R : Type} (K : Bool → Option R) : eqv Try.prog 113 x.val y.val K = K (decide (x = y)) := by
  unfold eqv
  rw [show binOp Try.prog .eql 113 x.val y.val = (eqV Try.prog 10 113 x.val y.val).map Value.bool by kernel_rfl, eqS 10 _ _ (.inl rfl)]
  rfl

structure TurnI (lo nb rb xb fb sb yb : Nat) (B : List Arc) (k : Nat) (S T : Sp) (fr : List (Sp × Sp)) (nxs : List (Sp × Value)) (g0 : H) (i : Nat) (r : Sp → Sp → Int) (cur x : Sp) (g : H) : Prop where
  net : NetH lo g nb rb xb B r nxs
  aug : AugOk B r k S T cur
  at_ : fr[i]? = some (cur, x)
  pos : ∀ (j : Nat) (y x : Sp), 1 ≤ j → j ≤ i → fr[j]? = some (y, x) → 1 ≤ r x y
  small : ∀ u v, onA B u v → 0 ≤ r u v ∧ r u v ≤ 1000
  yB : g.blk yb = some (.row cur.cells 113 true)
  sB : g.blk sb = some (.row S.cells 113 true)
  fB : g.blk fb = some (mpOf Sp.val (kvF fr))
  nx : g.nx = g0.nx
  frm : ∀ c, c ≠ rb → c ≠ yb → g.blk c = g0.blk c

theorem small_of {B : List Arc} {r : Sp → Sp → Int} {k : Nat} {S T cur : Sp} (f : AugOk B r k S T cur) (hc : ∀ a ∈ B, a.2.2 ≤ 1000) (u v : Sp) (h : onA B u v) : 0 ≤ r u v ∧ r u v ≤ 1000 := by
  obtain ⟨a, ha, h⟩ := h
  have h1 := f.nn a ha
  have h2 := hc a ha
  rcases h with ⟨rfl, rfl⟩ | ⟨rfl, rfl⟩ <;> omega

theorem turn_step {lo nb rb xb fb sb yb : Nat} {B : List Arc} {k kk : Nat} {S T : Sp} {fr : List (Sp × Sp)} {nxs : List (Sp × Value)} {g0 : H} (sbB : SimpB B) (hc : ∀ a ∈ B, a.2.2 ≤ 1000) (fo : FrOk B S fr)
    {h0 h2 h7 : H} (hh0 : h0.nx = sb) (hh2 : h2.nx = fb) (hh7 : h7.nx = yb) (hfb : fb ≠ rb ∧ fb ≠ yb) (hsb : sb ≠ rb ∧ sb ≠ yb) (hyr : yb ≠ rb) (hyn : yb ≠ nb ∧ yb ≠ xb ∧ ¬ Own nxs yb)
    {i : Nat} {r : Sp → Sp → Int} {cur x : Sp} {g : H} (t : TurnI lo nb rb xb fb sb yb B k S T fr nxs g0 i r cur x g) (hcur : cur ≠ S) :
    ∃ g' i' x', f103_l3 rn kk (pt nb 0) h0 h2 h7 [] g = some (.normal, [], g') ∧ i' < i ∧ TurnI lo nb rb xb fb sb yb B k S T fr nxs g0 i' (stepR r x cur) x x' g' := by
  obtain ⟨nr1, nr2, nr3, nr4⟩ := t.net.nr
  have hi1 : 1 ≤ i := by
    refine Nat.one_le_iff_ne_zero.2 fun e => hcur ?_
    have := t.at_
    rw [e, fo.h0] at this
    simp only [Option.some.injEq, Prod.mk.injEq] at this
    exact this.1.symm
  obtain ⟨hon, i', x', hlt, hx'⟩ := fo.back i cur x hi1 t.at_
  have onS : onA B cur x := by obtain ⟨a, h1, h2⟩ := hon; exact ⟨a, h1, h2.symm⟩
  have hxy : x ≠ cur := by
    obtain ⟨a, ha, h⟩ := hon
    have := sbB.ne a ha
    rcases h with ⟨h1, h2⟩ | ⟨h1, h2⟩
    · rw [← h1, ← h2]; exact this
    · rw [← h1, ← h2]; exact Ne.symm this
  have hr1 := t.pos i cur x hi1 (Nat.le_refl _) t.at_
  have sm1 := t.small x cur hon
  have sm2 := t.small cur x onS
  have hf := valK_fr fo.nd t.at_
  have rm := t.net.rm
  have v1 := (valK_ks B r x cur).1 hon
  generalize e1 : (g.set rb (mpOf encA (ksA B r))).set rb (mpOf encA (putK (ksA B r) (x, cur) (iv (r x cur - 1)))) = g1
  have b1 : ∀ c, c ≠ rb → g1.blk c = g.blk c := fun c hc => by
    rw [← e1]
    show (if c = rb then _ else (if c = rb then _ else _)) = _
    rw [if_neg hc, if_neg hc]
  have rm1 : g1.blk rb = some (mpOf encA (ksA B (updR r x cur (r x cur - 1)))) := by
    rw [← e1, ks_put sbB hon]
    show (if rb = rb then _ else _) = _
    rw [if_pos rfl]
  have v2 := (valK_ks B (updR r x cur (r x cur - 1)) cur x).1 onS
  have eu : updR r x cur (r x cur - 1) cur x = r cur x := by unfold updR; rw [if_neg fun h => hxy h.1.symm]
  rw [eu] at v2
  generalize e2 : (g1.set rb (mpOf encA (ksA B (updR r x cur (r x cur - 1))))).set rb (mpOf encA (putK (ksA B (updR r x cur (r x cur - 1))) (cur, x) (iv (r cur x + 1)))) = g2
  have b2 : ∀ c, c ≠ rb → g2.blk c = g.blk c := fun c hc => by
    rw [← e2]
    show (if c = rb then _ else (if c = rb then _ else g1.blk c)) = _
    rw [if_neg hc, if_neg hc, b1 c hc]
  have rm2 : g2.blk rb = some (mpOf encA (ksA B (stepR r x cur))) := by
    rw [← e2, ks_put sbB onS, upd_step hxy]
    show (if rb = rb then _ else _) = _
    rw [if_pos rfl]
  generalize e3 : g2.set yb (.row x.cells 113 true) = g3
  have b3 : ∀ c, c ≠ rb → c ≠ yb → g3.blk c = g.blk c := fun c hc hy => by
    rw [← e3]
    show (if c = yb then _ else g2.blk c) = _
    rw [if_neg hy, b2 c hc]
  have n3 : g3.nx = g.nx := by rw [← e3, ← e2, ← e1]; rfl
  have aug' := t.aug.step sbB hon hr1
  refine ⟨g3, i', x', ?_, hlt, ⟨⟨?_, by rw [n3]; exact t.net.nlt, ?_, by rw [n3]; exact t.net.rlt, t.net.ne, ?_, t.net.los⟩, aug', hx', fun j y z hj1 hj2 hj => ?_, small_of aug' hc, ?_, ?_, ?_, by rw [n3, t.nx], fun c c1 c2 => by rw [b3 c c1 c2, t.frm c c1 c2]⟩⟩
  · unfold f103_l3
    simp only [nx_eq, hh0, hh2, hh7]
    rw [ldS t.yB, ldS t.sB, kEq, decide_eq_false hcur]
    simp only [Bool.not_false, ifB_true, AM.nil, asP_ptr]
    rw [d115, cell_of t.net.str]
    simp only [List.getElem?_cons_zero, Option.bind_some]
    rw [ldS t.yB, lok_of0 keyS under133 zero113 t.fB, hf]
    simp only [Option.getD_some]
    rw [ldS t.yB, kA, lok_of0 keyA under115 zero3 rm, v1]
    simp only [Option.getD_some, asI_int]
    rw [sub64 (by omega) (by omega)]
    refine (men_est keyA under115 zero3 rm v1 _).trans ?_
    rw [e1]
    rw [d115, cell_of (by rw [b1 _ nr1]; exact t.net.str)]
    simp only [List.getElem?_cons_zero, Option.bind_some]
    rw [ldS (by rw [b1 _ hyr]; exact t.yB), ldS (by rw [b1 _ hyr]; exact t.yB), lok_of0 keyS under133 zero113 (by rw [b1 _ hfb.1]; exact t.fB), hf]
    simp only [Option.getD_some]
    rw [kA, lok_of0 keyA under115 zero3 rm1, v2]
    simp only [Option.getD_some, asI_int]
    rw [add64 (by omega) (by omega)]
    refine (men_est keyA under115 zero3 rm1 v2 _).trans ?_
    rw [e2, ldS (by rw [b2 _ hyr]; exact t.yB), lok_of0 keyS under133 zero113 (by rw [b2 _ hfb.1]; exact t.fB), hf]
    simp only [Option.getD_some]
    rw [st113 (by rw [b2 _ hyr]; exact t.yB) rfl, e3]
    rfl
  · rw [b3 _ nr1 (Ne.symm hyn.1), t.net.str]
  · rw [← e3]
    show (if rb = yb then _ else g2.blk rb) = _
    rw [if_neg (Ne.symm hyr), rm2]
  · exact t.net.next.keep (by omega) (b3 _ (Ne.symm t.net.ne) (Ne.symm hyn.2.1)) fun c hc => b3 c (fun e => nr4 (by rw [← e]; exact hc)) (fun e => hyn.2.2 (by rw [← e]; exact hc))
  · have h1 := t.pos j y z hj1 (by omega) hj
    refine Int.le_trans h1 (step_other fun h => ?_)
    obtain ⟨rfl, rfl⟩ := h
    have h2 : (fr.map (·.1))[j]? = some y := by rw [List.getElem?_map, hj]; rfl
    have h3 : (fr.map (·.1))[i]? = some y := by rw [List.getElem?_map, t.at_]; rfl
    have := (List.getElem?_inj (List.getElem?_eq_some_iff.1 h2).1 fo.nd).1 (h2.trans h3.symm)
    omega
  · rw [← e3]
    show (if yb = yb then _ else _) = _
    rw [if_pos rfl]
  · rw [b3 _ hsb.1 hsb.2, t.sB]
  · rw [b3 _ hfb.1 hfb.2, t.fB]

theorem turn_all {lo nb rb xb fb sb yb : Nat} {B : List Arc} {k kk : Nat} {S T : Sp} {fr : List (Sp × Sp)} {nxs : List (Sp × Value)} {g0 : H} (sbB : SimpB B) (hc : ∀ a ∈ B, a.2.2 ≤ 1000) (fo : FrOk B S fr)
    {h0 h2 h7 : H} (hh0 : h0.nx = sb) (hh2 : h2.nx = fb) (hh7 : h7.nx = yb) (hfb : fb ≠ rb ∧ fb ≠ yb) (hsb : sb ≠ rb ∧ sb ≠ yb) (hyr : yb ≠ rb) (hyn : yb ≠ nb ∧ yb ≠ xb ∧ ¬ Own nxs yb)
    {i : Nat} {r : Sp → Sp → Int} {cur x : Sp} {g : H} (t : TurnI lo nb rb xb fb sb yb B k S T fr nxs g0 i r cur x g) (hk : i < kk) :
    ∃ g' r', (∀ {R : Type} (K : Ex → List Value → H → Option R), lp kk (f103_l3 rn kk (pt nb 0) h0 h2 h7) [] g K = K (.exit 4) [] g') ∧ NetH lo g' nb rb xb B r' nxs ∧ FlowOk B r' (k + 1) S T ∧ g'.nx = g0.nx ∧ ∀ c, c ≠ rb → c ≠ yb → g'.blk c = g0.blk c := by
  obtain ⟨e, ws, g', e1, rfl, rfl, r', h1, h2', h3, h4⟩ := lp_meas (F := f103_l3 rn kk (pt nb 0) h0 h2 h7) (σ := Nat × (Sp → Sp → Int) × Sp × Sp)
    (fun s ws g => ws = [] ∧ TurnI lo nb rb xb fb sb yb B k S T fr nxs g0 s.1 s.2.1 s.2.2.1 s.2.2.2 g) (fun s => s.1)
    (fun e ws g' => e = .exit 4 ∧ ws = [] ∧ ∃ r', NetH lo g' nb rb xb B r' nxs ∧ FlowOk B r' (k + 1) S T ∧ g'.nx = g0.nx ∧ ∀ c, c ≠ rb → c ≠ yb → g'.blk c = g0.blk c)
    (fun s ws g hI => by
      obtain ⟨i, r, cur, x⟩ := s
      obtain ⟨rfl, t⟩ := hI
      simp only at t
      by_cases hcur : cur = S
      · subst hcur
        refine ⟨.exit 4, [], g, ?_, .inr ⟨by simp, rfl, rfl, r, t.net, t.aug.done, t.nx, t.frm⟩⟩
        unfold f103_l3
        simp only [nx_eq, hh0, hh7]
        rw [ldS t.yB, ldS t.sB, kEq]
        simp [ifB, out]
      · obtain ⟨g', i', x', h1, h2, h3⟩ := turn_step (kk := kk) sbB hc fo hh0 hh2 hh7 hfb hsb hyr hyn t hcur
        exact ⟨.normal, [], g', h1, .inl ⟨rfl, (i', _, x, x'), ⟨rfl, h3⟩, h2⟩⟩) kk (i, r, cur, x) [] g hk ⟨rfl, t⟩
  exact ⟨g', r', fun K => lp_eq e1, h1, h2', h3, h4⟩

end Go.AM

end

section

/- PLAIN: the search for a way more. -/
namespace Go.AM
open Go.Proofs
/-- The search: what was reached (and from where), what is done, what waits. -/
structure Bfs (B : List Arc) (r : Sp → Sp → Int) (S T : Sp) (fr : List (Sp × Sp)) (dn q : List Sp) : Prop where
  fo : FrOk B S fr
  keys : fr.map (·.1) = dn ++ q
  pos : ∀ (i : Nat) (y x : Sp), 1 ≤ i → fr[i]? = some (y, x) → 1 ≤ r x y
  noT : T ∉ fr.map (·.1)
  cl : ∀ u ∈ dn, ∀ y ∈ nbrs B u, y ∈ fr.map (·.1) ∨ r u y = 0

theorem mem_nbrs {B : List Arc} {u v : Sp} : v ∈ nbrs B u ↔ onA B u v := by
  unfold nbrs onA
  rw [List.mem_flatMap]
  constructor
  · rintro ⟨a, ha, h⟩
    refine ⟨a, ha, ?_⟩
    rcases List.mem_append.1 h with h | h
    · split at h
      · rename_i e; exact .inl ⟨e, (List.mem_singleton.1 h).symm⟩
      · cases h
    · split at h
      · rename_i e; exact .inr ⟨(List.mem_singleton.1 h).symm, e⟩
      · cases h
  · rintro ⟨a, ha, h⟩
    refine ⟨a, ha, ?_⟩
    rcases h with ⟨h1, h2⟩ | ⟨h1, h2⟩
    · exact List.mem_append_left _ (by rw [if_pos h1]; simp [h2])
    · exact List.mem_append_right _ (by rw [if_pos h2]; simp [h1])

theorem Bfs.init {B : List Arc} {r : Sp → Sp → Int} {S T : Sp} (h : S ≠ T) : Bfs B r S T [(S, S)] [] [S] where
  fo := ⟨by simp, rfl, fun i y x hi h => by
    match i, hi with
    | i + 1, _ => simp at h⟩
  keys := rfl
  pos i y x hi h := by
    match i, hi with
    | i + 1, _ => simp at h
  noT := by simpa using Ne.symm h
  cl u hu := by cases hu

theorem FrOk.snoc {B : List Arc} {S : Sp} {fr : List (Sp × Sp)} (fo : FrOk B S fr) {u y : Sp} (hu : u ∈ fr.map (·.1)) (hy : y ∉ fr.map (·.1)) (hon : onA B u y) : FrOk B S (fr ++ [(y, u)]) where
  nd := by
    rw [List.map_append, List.nodup_append]
    refine ⟨fo.nd, by simp, fun a ha b hb => ?_⟩
    simp only [List.map_cons, List.map_nil, List.mem_singleton] at hb
    subst hb
    rintro rfl
    exact hy ha
  h0 := by
    have := (List.getElem?_eq_some_iff.1 fo.h0).1
    rw [List.getElem?_append_left this]
    exact fo.h0
  back i y' x' hi h := by
    by_cases hl : i < fr.length
    · rw [List.getElem?_append_left hl] at h
      obtain ⟨h1, i', x2, h2, h3⟩ := fo.back i y' x' hi h
      exact ⟨h1, i', x2, h2, by rw [List.getElem?_append_left (by omega)]; exact h3⟩
    · have : i = fr.length := by have := (List.getElem?_eq_some_iff.1 h).1; simp at this; omega
      subst this
      rw [List.getElem?_append_right (Nat.le_refl _)] at h
      simp only [Nat.sub_self, List.getElem?_cons_zero, Option.some.injEq, Prod.mk.injEq] at h
      obtain ⟨rfl, rfl⟩ := h
      refine ⟨hon, ?_⟩
      obtain ⟨q, hq, e⟩ := List.mem_map.1 hu
      obtain ⟨i', hi', e2⟩ := List.getElem_of_mem hq
      refine ⟨i', q.2, hi', ?_⟩
      rw [List.getElem?_append_left hi', List.getElem?_eq_getElem hi', e2, ← e]

/-- One spot more is reached. -/
theorem Bfs.add {B : List Arc} {r : Sp → Sp → Int} {S T : Sp} {fr : List (Sp × Sp)} {dn q : List Sp} (b : Bfs B r S T fr dn q) {u y : Sp} (hu : u ∈ q) (hy : y ∉ fr.map (·.1)) (hon : y ∈ nbrs B u) (hr : 1 ≤ r u y) (hT : y ≠ T) :
    Bfs B r S T (fr ++ [(y, u)]) dn (q ++ [y]) where
  fo := b.fo.snoc (by rw [b.keys]; exact List.mem_append_right _ hu) hy (mem_nbrs.1 hon)
  keys := by rw [List.map_append, b.keys, List.append_assoc]; rfl
  pos i y' x' hi h := by
    by_cases hl : i < fr.length
    · rw [List.getElem?_append_left hl] at h
      exact b.pos i y' x' hi h
    · have : i = fr.length := by have := (List.getElem?_eq_some_iff.1 h).1; simp at this; omega
      subst this
      rw [List.getElem?_append_right (Nat.le_refl _)] at h
      simp only [Nat.sub_self, List.getElem?_cons_zero, Option.some.injEq, Prod.mk.injEq] at h
      obtain ⟨rfl, rfl⟩ := h
      exact hr
  noT := by
    rw [List.map_append]
    intro h
    rcases List.mem_append.1 h with h | h
    · exact b.noT h
    · simp at h; exact hT h.symm
  cl u' hu' y' hy' := (b.cl u' hu' y' hy').imp (fun h => by rw [List.map_append]; exact List.mem_append_left _ h) id

/-- A spot is done. -/
theorem Bfs.next {B : List Arc} {r : Sp → Sp → Int} {S T : Sp} {fr : List (Sp × Sp)} {dn q : List Sp} {u : Sp} (b : Bfs B r S T fr dn (u :: q)) (h : ∀ y ∈ nbrs B u, y ∈ fr.map (·.1) ∨ r u y = 0) : Bfs B r S T fr (dn ++ [u]) q where
  fo := b.fo
  keys := by rw [b.keys, List.append_assoc]; rfl
  pos := b.pos
  noT := b.noT
  cl u' hu' := by
    rcases List.mem_append.1 hu' with h' | h'
    · exact b.cl u' h'
    · simp at h'; rw [h']; exact h

/-- Nothing waits any more: the cut is full. -/
theorem Bfs.fail {B : List Arc} {r : Sp → Sp → Int} {S T : Sp} {fr : List (Sp × Sp)} {dn : List Sp} (b : Bfs B r S T fr dn []) :
    ∃ R : Sp → Bool, R S = true ∧ R T = false ∧ ∀ a ∈ B, (R a.1 = true → R a.2.1 = false → r a.1 a.2.1 = 0) ∧ (R a.2.1 = true → R a.1 = false → r a.2.1 a.1 = 0) := by
  have hk : fr.map (·.1) = dn := by rw [b.keys, List.append_nil]
  refine ⟨fun x => decide (x ∈ dn), ?_, ?_, fun a ha => ⟨fun h1 h2 => ?_, fun h1 h2 => ?_⟩⟩
  · rw [decide_eq_true_eq, ← hk]
    exact List.mem_map.2 ⟨_, List.mem_of_getElem? b.fo.h0, rfl⟩
  · rw [decide_eq_false_iff_not, ← hk]; exact b.noT
  · rw [decide_eq_true_eq] at h1
    rw [decide_eq_false_iff_not] at h2
    rcases b.cl _ h1 a.2.1 (mem_nbrs.2 ⟨a, ha, .inl ⟨rfl, rfl⟩⟩) with h | h
    · rw [hk] at h; exact absurd h h2
    · exact h
  · rw [decide_eq_true_eq] at h1
    rw [decide_eq_false_iff_not] at h2
    rcases b.cl _ h1 a.1 (mem_nbrs.2 ⟨a, ha, .inr ⟨rfl, rfl⟩⟩) with h | h
    · rw [hk] at h; exact absurd h h2
    · exact h

theorem nodup_le {α : Type} [DecidableEq α] : ∀ {l m : List α}, l.Nodup → (∀ x ∈ l, x ∈ m) → l.length ≤ m.length := by
  intro l
  induction l with
  | nil => intro m _ _; simp
  | cons x l ih =>
    intro m hn hs
    rw [List.nodup_cons] at hn
    have hx := hs x List.mem_cons_self
    have := ih (m := m.erase x) hn.2 fun y hy => by
      have hne : y ≠ x := by rintro rfl; exact hn.1 hy
      exact (List.mem_erase_of_ne hne).2 (hs y (List.mem_cons_of_mem _ hy))
    rw [List.length_erase_of_mem hx] at this
    have := List.length_pos_of_mem hx
    simp only [List.length_cons]
    omega

/-- Not more is reached than there are ends of arcs. -/
theorem Bfs.len {B : List Arc} {r : Sp → Sp → Int} {S T : Sp} {fr : List (Sp × Sp)} {dn q : List Sp} (b : Bfs B r S T fr dn q) : (dn ++ q).length ≤ 2 * B.length + 1 := by
  rw [← b.keys]
  refine Nat.le_trans (nodup_le (m := S :: B.flatMap fun a => [a.1, a.2.1]) b.fo.nd fun y hy => ?_) ?_
  · obtain ⟨p, hp, rfl⟩ := List.mem_map.1 hy
    obtain ⟨i, hi, e⟩ := List.getElem_of_mem hp
    have hg : fr[i]? = some p := by rw [List.getElem?_eq_getElem hi, e]
    by_cases h0 : i = 0
    · rw [h0, b.fo.h0] at hg
      cases hg
      exact List.mem_cons_self
    · obtain ⟨⟨a, ha, h⟩, _⟩ := b.fo.back i p.1 p.2 (by omega) hg
      refine List.mem_cons_of_mem _ (List.mem_flatMap.2 ⟨a, ha, ?_⟩)
      rcases h with ⟨_, h⟩ | ⟨h, _⟩ <;> simp [h]
  · rw [List.length_cons]
    have : ∀ B : List Arc, (B.flatMap fun a => [a.1, a.2.1]).length = 2 * B.length := by
      intro B
      induction B with
      | nil => rfl
      | cons a B ih => rw [List.flatMap_cons, List.length_append, ih, List.length_cons]; simp; omega
    rw [this]
    omega

end Go.AM

end

section

/- The search for a way more, in a heap. -/
namespace Go.AM
open Go.Proofs
/-- The heap of a search that began at g0: the boxes of both ends, the map, the queue. -/
structure BfsH (lo nb rb xb : Nat) (B : List Arc) (r : Sp → Sp → Int) (nxs : List (Sp × Value)) (S T : Sp) (g0 : H) (fr : List (Sp × Sp)) (q : List Sp) (qv : Value) (g : H) : Prop where
  net : NetH lo g0 nb rb xb B r nxs
  sB : g.blk g0.nx = some (.row S.cells 113 true)
  tB : g.blk (g0.nx + 1) = some (.row T.cells 113 true)
  fB : g.blk (g0.nx + 2) = some (mpOf Sp.val (kvF fr))
  qB : QlR (g0.nx + 3) g 113 3 qv (q.map Sp.cells)
  nx : g0.nx + 3 ≤ g.nx
  old : ∀ c, c < g0.nx → g.blk c = g0.blk c

theorem BfsH.netg {lo nb rb xb : Nat} {B : List Arc} {r : Sp → Sp → Int} {nxs : List (Sp × Value)} {S T : Sp} {g0 : H} {fr : List (Sp × Sp)} {q : List Sp} {qv : Value} {g : H} (a : BfsH lo nb rb xb B r nxs S T g0 fr q qv g) : NetH lo g nb rb xb B r nxs :=
  a.net.ext ⟨by have := a.nx; omega, a.old⟩

theorem BfsH.ext {lo nb rb xb : Nat} {B : List Arc} {r : Sp → Sp → Int} {nxs : List (Sp × Value)} {S T : Sp} {g0 : H} {fr : List (Sp × Sp)} {q : List Sp} {qv : Value} {g g' : H} (a : BfsH lo nb rb xb B r nxs S T g0 fr q qv g) (x : Ext g g') : BfsH lo nb rb xb B r nxs S T g0 fr q qv g' where
  net := a.net
  sB := by rw [x.blk _ (by have := a.nx; omega), a.sB]
  tB := by rw [x.blk _ (by have := a.nx; omega), a.tB]
  fB := by rw [x.blk _ (by have := a.nx; omega), a.fB]
  qB := a.qB.keep x.nx fun b hb => x.blk b (by obtain ⟨b', h1, _, h2, _⟩ := a.qB.blkOf; rw [hb] at h1; cases h1; exact h2)
  nx := by have := a.nx; have := x.nx; omega
  old c hc := by rw [x.blk c (by have := a.nx; omega), a.old c hc]

theorem valK_fr_none {fr : List (Sp × Sp)} {y : Sp} (h : y ∉ fr.map (·.1)) : valK (kvF fr) y = none := by
  unfold valK
  rw [Option.map_eq_none_iff, lookK_none]
  intro p hp e
  obtain ⟨q, hq, rfl⟩ := List.mem_map.1 hp
  exact h (List.mem_map.2 ⟨q, hq, e⟩)

theorem putK_fr {fr : List (Sp × Sp)} {y x : Sp} (h : y ∉ fr.map (·.1)) : putK (kvF fr) y x.val = kvF (fr ++ [(y, x)]) := by
  have : lookK (kvF fr) y 0 = none := by
    have := valK_fr_none h
    unfold valK at this
    simpa using this
  unfold putK
  rw [this]
  simp [kvF]

theorem BfsH.boxed {lo nb rb xb : Nat} {B : List Arc} {r : Sp → Sp → Int} {nxs : List (Sp × Value)} {S T : Sp} {g0 : H} {fr : List (Sp × Sp)} {q : List Sp} {qv : Value} {g : H} (a : BfsH lo nb rb xb B r nxs S T g0 fr q qv g) (y z : Sp) :
    ∃ g1 g2, (∀ {R : Type} (K : Nat → H → Nat → H → Option R), True) ∧ g.fresh 113 [iv 0, iv 0, .bool false] y.cells = g1 ∧ g1.fresh 113 [iv 0, iv 0, .bool false] z.cells = g2 ∧ g1.nx = g.nx + 1 ∧ g2.nx = g.nx + 2 ∧ g1.blk g.nx = some (.row y.cells 113 true) ∧ g2.blk g.nx = some (.row y.cells 113 true) ∧
      BfsH lo nb rb xb B r nxs S T g0 fr q qv g1 ∧ BfsH lo nb rb xb B r nxs S T g0 fr q qv g2 := by
  have x1 := (Ext.refl g).fresh 113 [iv 0, iv 0, .bool false] y.cells
  have b1 := blk_fresh g 113 [iv 0, iv 0, .bool false] y.cells
  generalize e1 : g.fresh 113 [iv 0, iv 0, .bool false] y.cells = g1 at x1 b1
  have n1 : g1.nx = g.nx + 1 := by rw [← e1]; rfl
  have x2 := (Ext.refl g1).fresh 113 [iv 0, iv 0, .bool false] z.cells
  generalize e2 : g1.fresh 113 [iv 0, iv 0, .bool false] z.cells = g2 at x2
  have n2 : g2.nx = g.nx + 2 := by rw [← e2]; show g1.nx + 1 = _; omega
  exact ⟨g1, g2, fun _ => trivial, rfl, e2, n1, n2, b1, by rw [x2.blk _ (by omega), b1], a.ext x1, (a.ext x1).ext x2⟩

theorem al_stS {h : H} (x : Sp) {R : Type} (K : H → Option R) : (al h 113 [.int .i64 0, .int .i64 0, .bool false] fun h3 => st Try.prog h3 113 (AM.nx h) 0 x.val K) = K (h.fresh 113 [iv 0, iv 0, .bool false] x.cells) :=
  al_st (zs := [iv 0, iv 0, .bool false]) (xs := x.cells) sz113 rfl rfl

/-- A neighbour that was reached before, or to which nothing more can flow. -/
theorem l2_skip {lo nb rb xb kk : Nat} {B : List Arc} {r : Sp → Sp → Int} {nxs : List (Sp × Value)} {S T : Sp} {g0 h0 h1 h2 : H} {fr : List (Sp × Sp)} {q : List Sp} {u y : Sp} {qv v9 a0 : Value} {g : H} {N : List Sp} {j : Nat}
    (hh2 : h2.nx = g0.nx + 2) (bh : BfsH lo nb rb xb B r nxs S T g0 fr (u :: q) qv g) (fo : FrOk B S fr) (hv : SlR g 113 3 v9 (N.map Sp.cells)) (hj : N[j]? = some y) (hjs : j < 1000) (hon : onA B u y) (h : y ∈ fr.map (·.1) ∨ r u y = 0) :
    ∃ g', f103_l2 rn kk (pt nb 0) h0 h1 h2 v9 N.length [a0, qv, iv j] g = some (.normal, [a0, qv, iv (j + 1 : Nat)], g') ∧ Ext g g' := by
  have hlt := (List.getElem?_eq_some_iff.1 hj).1
  have hget : (N.map Sp.cells)[((j : Nat) : Int).toNat]? = some y.cells := by rw [List.getElem?_map, Int.toNat_natCast, hj]; rfl
  by_cases hs : y ∈ fr.map (·.1)
  · obtain ⟨p, hp, rfl⟩ := List.mem_map.1 hs
    obtain ⟨i, hi, e⟩ := List.getElem_of_mem hp
    have hg : fr[i]? = some (p.1, p.2) := by rw [List.getElem?_eq_getElem hi, e]
    have hk := valK_fr fo.nd hg
    obtain ⟨g1, g2, _, e1, e2, n1, n2, b1, b2, bh1, bh2⟩ := bh.boxed p.1 p.2
    refine ⟨g2, ?_, ?_⟩
    · unfold f103_l2
      simp only [gv, List.getD_cons_zero, List.getD_cons_succ, asI_int, asK_int]
      rw [lt_t (by omega), ifB_true, hv.ldA ag113 sz113 (by omega) hget]
      rw [show (Value.agg p.1.cells.toArray) = p.1.val from rfl, al_stS, e1, nx_eq, ldS b1, nx_eq, hh2, lok_of keyS under133 zero113 bh1.fB, hk]
      simp only [ext, show (#[p.2.val, Value.bool true] : Array Value)[0]? = some p.2.val from rfl, show (#[p.2.val, Value.bool true] : Array Value)[1]? = some (Value.bool true) from rfl, Option.bind_some, asB_bool]
      rw [al_stS, e2, ifB_true, add64 (by omega) (by omega)]
      rfl
    · rw [← e2, ← e1]; exact ((Ext.refl g).fresh _ _ _).fresh _ _ _
  · have h0 := h.resolve_left hs
    have hk := valK_fr_none hs
    obtain ⟨g1, g2, _, e1, e2, n1, n2, b1, b2, bh1, bh2⟩ := bh.boxed y ⟨0, 0, false⟩
    have net2 := bh2.netg
    have v1 := (valK_ks B r u y).1 hon
    refine ⟨g2, ?_, ?_⟩
    · unfold f103_l2
      simp only [gv, List.getD_cons_zero, List.getD_cons_succ, asI_int, asK_int]
      rw [lt_t (by omega), ifB_true, hv.ldA ag113 sz113 (by omega) hget]
      rw [show (Value.agg y.cells.toArray) = y.val from rfl, al_stS, e1, nx_eq, ldS b1, nx_eq, hh2, lok_of keyS under133 zero113 bh1.fB, hk]
      simp only [ext, show ∀ z : Value, (#[z, Value.bool false] : Array Value)[0]? = some z from fun _ => rfl, show ∀ z : Value, (#[z, Value.bool false] : Array Value)[1]? = some (Value.bool false) from fun _ => rfl, Option.bind_some, asB_bool]
      rw [al_stS, e2, ifB_false]
      simp only [AM.nil, asP_ptr]
      rw [d115, cell_of net2.str]
      simp only [List.getElem?_cons_zero, Option.bind_some]
      rw [bh2.qB.slR.ldA ag113 sz113 (by omega) (x := u.cells) (by simp), show (Value.agg u.cells.toArray) = u.val from rfl, nx_eq, ldS b2, kA, lok_of0 keyA under115 zero3 net2.rm, v1]
      simp only [Option.getD_some, asI_int]
      rw [h0, show AM.eq 0 0 = true from rfl, ifB_true, add64 (by omega) (by omega)]
      rfl
    · rw [← e2, ← e1]; exact ((Ext.refl g).fresh _ _ _).fresh _ _ _

/-- A new spot, that is not the end. -/
theorem l2_add {lo nb rb xb kk : Nat} {B : List Arc} {r : Sp → Sp → Int} {nxs : List (Sp × Value)} {S T : Sp} {g0 h0 h1 h2 : H} {fr : List (Sp × Sp)} {q : List Sp} {u y : Sp} {qv v9 a0 : Value} {g : H} {N : List Sp} {j : Nat}
    (hh1 : h1.nx = g0.nx + 1) (hh2 : h2.nx = g0.nx + 2) (bh : BfsH lo nb rb xb B r nxs S T g0 fr (u :: q) qv g) (hv : SlR g 113 3 v9 (N.map Sp.cells)) (hj : N[j]? = some y) (hjs : j < 1000) (hq : q.length < 1000) (hon : onA B u y)
    (hs : y ∉ fr.map (·.1)) (hr : r u y ≠ 0) (hT : y ≠ T) :
    ∃ g' qv', f103_l2 rn kk (pt nb 0) h0 h1 h2 v9 N.length [a0, qv, iv j] g = some (.normal, [a0, qv', iv (j + 1 : Nat)], g') ∧ BfsH lo nb rb xb B r nxs S T g0 (fr ++ [(y, u)]) (u :: q ++ [y]) qv' g' ∧ g.nx ≤ g'.nx := by
  have hlt := (List.getElem?_eq_some_iff.1 hj).1
  have hget : (N.map Sp.cells)[((j : Nat) : Int).toNat]? = some y.cells := by rw [List.getElem?_map, Int.toNat_natCast, hj]; rfl
  have hk := valK_fr_none hs
  obtain ⟨g1, g2, _, e1, e2, n1, n2, b1, b2, bh1, bh2⟩ := bh.boxed y ⟨0, 0, false⟩
  have net2 := bh2.netg
  have v1 := (valK_ks B r u y).1 hon
  have gnx := bh.nx
  generalize e3 : g2.set (g0.nx + 2) (mpOf Sp.val (kvF (fr ++ [(y, u)]))) = g3
  have b3 : ∀ c, c ≠ g0.nx + 2 → g3.blk c = g2.blk c := fun c hc => by rw [← e3]; show (if c = g0.nx + 2 then _ else _) = _; rw [if_neg hc]
  have n3 : g3.nx = g2.nx := by rw [← e3]; rfl
  have fb3 : g3.blk (g0.nx + 2) = some (mpOf Sp.val (kvF (fr ++ [(y, u)]))) := by rw [← e3]; show (if g0.nx + 2 = g0.nx + 2 then _ else _) = _; rw [if_pos rfl]
  obtain ⟨qb, hqb, hqlo, hqlt, _⟩ := bh2.qB.blkOf
  have q3 : QlR (g0.nx + 3) g3 113 3 qv ((u :: q).map Sp.cells) := bh2.qB.keep (by omega) fun b hb => b3 b (by rw [hqb] at hb; cases hb; omega)
  obtain ⟨qv', g4, k4, q4, n4, f4, bb, hbb, hbn⟩ := q3.push (t2 := 134) (xv := y.val) (x := y.cells) app134 app134 (bls134 y) rfl (by simp [Sp.cells, scal]) (by simp; omega) (by omega)
  have old4 : ∀ c, c < g.nx → c ≠ g0.nx + 2 → c < g0.nx + 3 → g4.blk c = g2.blk c := fun c hc hne hlt => by rw [f4 c (by omega) (by rw [hqb]; intro e; cases e; omega), b3 c hne]
  refine ⟨g4, qv', ?_, ⟨bh.net, ?_, ?_, ?_, ?_, by omega, fun c hc => ?_⟩, by omega⟩
  · unfold f103_l2
    simp only [gv, List.getD_cons_zero, List.getD_cons_succ, asI_int, asK_int]
    rw [lt_t (by omega), ifB_true, hv.ldA ag113 sz113 (by omega) hget]
    rw [show (Value.agg y.cells.toArray) = y.val from rfl, al_stS, e1, nx_eq, ldS b1, nx_eq, hh2, lok_of keyS under133 zero113 bh1.fB, hk]
    simp only [ext, show ∀ z : Value, (#[z, Value.bool false] : Array Value)[0]? = some z from fun _ => rfl, show ∀ z : Value, (#[z, Value.bool false] : Array Value)[1]? = some (Value.bool false) from fun _ => rfl, Option.bind_some, asB_bool]
    rw [al_stS, e2, ifB_false]
    simp only [AM.nil, asP_ptr]
    rw [d115, cell_of net2.str]
    simp only [List.getElem?_cons_zero, Option.bind_some]
    rw [bh2.qB.slR.ldA ag113 sz113 (by omega) (x := u.cells) (by simp), show (Value.agg u.cells.toArray) = u.val from rfl, nx_eq, ldS b2, kA, lok_of0 keyA under115 zero3 net2.rm, v1]
    simp only [Option.getD_some, asI_int]
    rw [show AM.eq (r u y) 0 = false by simp [AM.eq, hr], ifB_false, ldS b2, bh2.qB.slR.ldA ag113 sz113 (by omega) (x := u.cells) (by simp), show (Value.agg u.cells.toArray) = u.val from rfl]
    rw [mup_of keyS under133 bh2.fB, putK_fr hs, e3, ldS (by rw [b3 _ (by omega), b2]), hh1, ldS (by rw [b3 _ (by omega), bh2.tB]), kEq, decide_eq_false hT, ifB_false, ldS (by rw [b3 _ (by omega), b2])]
    refine (k4 _).trans ?_
    rw [add64 (by omega) (by omega)]
    rfl
  · rw [old4 _ (by omega) (by omega) (by omega), bh2.sB]
  · rw [old4 _ (by omega) (by omega) (by omega), bh2.tB]
  · rw [f4 _ (by omega) (by rw [hqb]; intro e; cases e; omega), fb3]
  · rw [List.map_append]; exact q4
  · rw [old4 _ (by omega) (by omega) (by omega), bh2.old c hc]

/-- The end is reached: the way is turned. -/
theorem l2_found {lo nb rb xb kk k : Nat} {B : List Arc} {r : Sp → Sp → Int} {nxs : List (Sp × Value)} {S T : Sp} {g0 h0 h1 h2 : H} {fr : List (Sp × Sp)} {dn q : List Sp} {u : Sp} {qv v9 a0 : Value} {g : H} {N : List Sp} {j : Nat}
    (hh0 : h0.nx = g0.nx) (hh1 : h1.nx = g0.nx + 1) (hh2 : h2.nx = g0.nx + 2) (bh : BfsH lo nb rb xb B r nxs S T g0 fr (u :: q) qv g) (b : Bfs B r S T fr dn (u :: q)) (sbB : SimpB B) (hc : ∀ a ∈ B, a.2.2 ≤ 1000) (fl : FlowOk B r k S T)
    (hv : SlR g 113 3 v9 (N.map Sp.cells)) (hj : N[j]? = some T) (hjs : j < 1000) (hkk : fr.length < kk) (hon : onA B u T) (hr : r u T ≠ 0) :
    ∃ g' r', f103_l2 rn kk (pt nb 0) h0 h1 h2 v9 N.length [a0, qv, iv j] g = some (.ret, [.bool true, qv, iv j], g') ∧ NetH lo g' nb rb xb B r' nxs ∧ FlowOk B r' (k + 1) S T ∧ g0.nx ≤ g'.nx ∧ ∀ c, c < g0.nx → c ≠ rb → g'.blk c = g0.blk c := by
  have hlt := (List.getElem?_eq_some_iff.1 hj).1
  have hget : (N.map Sp.cells)[((j : Nat) : Int).toNat]? = some T.cells := by rw [List.getElem?_map, Int.toNat_natCast, hj]; rfl
  have hs := b.noT
  have hk := valK_fr_none hs
  obtain ⟨g1, g2, _, e1, e2, n1, n2, b1, b2, bh1, bh2⟩ := bh.boxed T ⟨0, 0, false⟩
  have net2 := bh2.netg
  have v1 := (valK_ks B r u T).1 hon
  have gnx := bh.nx
  have aug := fl.start
  have hr1 : 1 ≤ r u T := by have := (small_of aug hc u T hon).1; omega
  generalize e3 : g2.set (g0.nx + 2) (mpOf Sp.val (kvF (fr ++ [(T, u)]))) = g3
  have b3 : ∀ c, c ≠ g0.nx + 2 → g3.blk c = g2.blk c := fun c hc => by rw [← e3]; show (if c = g0.nx + 2 then _ else _) = _; rw [if_neg hc]
  have n3 : g3.nx = g2.nx := by rw [← e3]; rfl
  have fb3 : g3.blk (g0.nx + 2) = some (mpOf Sp.val (kvF (fr ++ [(T, u)]))) := by rw [← e3]; show (if g0.nx + 2 = g0.nx + 2 then _ else _) = _; rw [if_pos rfl]
  have old3 : ∀ c, c < g0.nx → g3.blk c = g0.blk c := fun c hc => by rw [b3 c (by omega), bh2.old c hc]
  have fo' := b.fo.snoc (u := u) (y := T) (by rw [b.keys]; simp) hs hon
  have nlt := bh.net.nlt
  have rlt := bh.net.rlt
  have xlt := bh.net.next.xlt
  have ti : TurnI lo nb rb xb (g0.nx + 2) g0.nx g.nx B k S T (fr ++ [(T, u)]) nxs g3 fr.length r T u g3 := by
    refine ⟨bh.net.ext ⟨by omega, old3⟩, aug, by rw [List.getElem?_append_right (Nat.le_refl _)]; simp, fun i y x hi _ h => ?_, small_of aug hc, by rw [b3 _ (by omega), b2], by rw [b3 _ (by omega), bh2.sB], fb3, rfl, fun _ _ _ => rfl⟩
    by_cases hl : i < fr.length
    · rw [List.getElem?_append_left hl] at h
      exact b.pos i y x hi h
    · have : i = fr.length := by have := (List.getElem?_eq_some_iff.1 h).1; simp at this; omega
      subst this
      rw [List.getElem?_append_right (Nat.le_refl _)] at h
      simp only [Nat.sub_self, List.getElem?_cons_zero, Option.some.injEq, Prod.mk.injEq] at h
      obtain ⟨rfl, rfl⟩ := h
      exact hr1
  obtain ⟨g', r', k1, m1, m2, m3, m4⟩ := turn_all (kk := kk) sbB hc fo' hh0 hh2 (h7 := g) rfl ⟨by omega, by omega⟩ ⟨by omega, by omega⟩ (by omega) ⟨by omega, by omega, fun h => by have := (bh.net.next.lt h).2.1; omega⟩ ti hkk
  refine ⟨g', r', ?_, m1, m2, by omega, fun c c1 c2 => by rw [m4 c c2 (by omega), old3 c c1]⟩
  unfold f103_l2
  simp only [gv, List.getD_cons_zero, List.getD_cons_succ, asI_int, asK_int]
  rw [lt_t (by omega), ifB_true, hv.ldA ag113 sz113 (by omega) hget]
  rw [show (Value.agg T.cells.toArray) = T.val from rfl, al_stS, e1, nx_eq, ldS b1, nx_eq, hh2, lok_of keyS under133 zero113 bh1.fB, hk]
  simp only [ext, show ∀ z : Value, (#[z, Value.bool false] : Array Value)[0]? = some z from fun _ => rfl, show ∀ z : Value, (#[z, Value.bool false] : Array Value)[1]? = some (Value.bool false) from fun _ => rfl, Option.bind_some, asB_bool]
  rw [al_stS, e2, ifB_false]
  simp only [AM.nil, asP_ptr]
  rw [d115, cell_of net2.str]
  simp only [List.getElem?_cons_zero, Option.bind_some]
  rw [bh2.qB.slR.ldA ag113 sz113 (by omega) (x := u.cells) (by simp), show (Value.agg u.cells.toArray) = u.val from rfl, nx_eq, ldS b2, kA, lok_of0 keyA under115 zero3 net2.rm, v1]
  simp only [Option.getD_some, asI_int]
  rw [show AM.eq (r u T) 0 = false by simp [AM.eq, hr], ifB_false, ldS b2, bh2.qB.slR.ldA ag113 sz113 (by omega) (x := u.cells) (by simp), show (Value.agg u.cells.toArray) = u.val from rfl]
  rw [mup_of keyS under133 bh2.fB, putK_fr hs, e3, ldS (by rw [b3 _ (by omega), b2]), hh1, ldS (by rw [b3 _ (by omega), bh2.tB]), kEq, decide_eq_true rfl, ifB_true]
  refine (k1 _).trans ?_
  rw [onE_exit, if_pos rfl]
  rfl

end Go.AM

end

section

/- The search for a way more: its loops. -/
namespace Go.AM
open Go.Proofs
/-- A way more was found. -/
def Found (lo nb rb xb : Nat) (B : List Arc) (nxs : List (Sp × Value)) (k : Nat) (S T : Sp) (g0 g' : H) : Prop :=
  ∃ r', NetH lo g' nb rb xb B r' nxs ∧ FlowOk B r' (k + 1) S T ∧ g0.nx ≤ g'.nx ∧ ∀ c, c < g0.nx → c ≠ rb → g'.blk c = g0.blk c

theorem l2_loop {lo nb rb xb k : Nat} {B : List Arc} {r : Sp → Sp → Int} {nxs : List (Sp × Value)} {S T : Sp} {g0 h0 h1 h2 : H} {fr : List (Sp × Sp)} {dn q : List Sp} {u : Sp} {qv v9 a0 : Value} {g : H}
    (hh0 : h0.nx = g0.nx) (hh1 : h1.nx = g0.nx + 1) (hh2 : h2.nx = g0.nx + 2) (bh : BfsH lo nb rb xb B r nxs S T g0 fr (u :: q) qv g) (b : Bfs B r S T fr dn (u :: q)) (sbB : SimpB B) (hc : ∀ a ∈ B, a.2.2 ≤ 1000) (fl : FlowOk B r k S T) (hB : B.length ≤ 300)
    (hv : SlR g0 113 3 v9 ((nbrs B u).map Sp.cells)) :
    ∃ e ws g', (∀ {R : Type} (K : Ex → List Value → H → Option R), lp 1000 (f103_l2 rn 1000 (pt nb 0) h0 h1 h2 v9 (nbrs B u).length) [a0, qv, iv 0] g K = K e ws g') ∧
      ((e = .exit 2 ∧ ∃ fr' q' qv' j, ws = [a0, qv', j] ∧ BfsH lo nb rb xb B r nxs S T g0 fr' (u :: q') qv' g' ∧ Bfs B r S T fr' dn (u :: q') ∧ ∀ y ∈ nbrs B u, y ∈ fr'.map (·.1) ∨ r u y = 0) ∨
       (e = .ret ∧ ∃ qv' j, ws = [.bool true, qv', j] ∧ Found lo nb rb xb B nxs k S T g0 g')) := by
  have hN := nbrs_len B u
  obtain ⟨e, ws, g', e1, e2⟩ := lp_meas (F := f103_l2 rn 1000 (pt nb 0) h0 h1 h2 v9 (nbrs B u).length) (σ := Nat × List (Sp × Sp) × List Sp × Value)
    (fun s ws g => ws = [a0, s.2.2.2, iv s.1] ∧ s.1 ≤ (nbrs B u).length ∧ BfsH lo nb rb xb B r nxs S T g0 s.2.1 (u :: s.2.2.1) s.2.2.2 g ∧ Bfs B r S T s.2.1 dn (u :: s.2.2.1) ∧ ∀ y ∈ (nbrs B u).take s.1, y ∈ s.2.1.map (·.1) ∨ r u y = 0)
    (fun s => (nbrs B u).length - s.1)
    (fun e ws g' => (e = .exit 2 ∧ ∃ fr' q' qv' j, ws = [a0, qv', j] ∧ BfsH lo nb rb xb B r nxs S T g0 fr' (u :: q') qv' g' ∧ Bfs B r S T fr' dn (u :: q') ∧ ∀ y ∈ nbrs B u, y ∈ fr'.map (·.1) ∨ r u y = 0) ∨
       (e = .ret ∧ ∃ qv' j, ws = [.bool true, qv', j] ∧ Found lo nb rb xb B nxs k S T g0 g'))
    (fun s ws g hI => by
      obtain ⟨j, fr, q, qv⟩ := s
      obtain ⟨rfl, hj, bh, b, hd⟩ := hI
      simp only at hj bh b hd ⊢
      have hlen := b.len
      rw [List.length_append, List.length_cons] at hlen
      have hfl : fr.length = dn.length + (q.length + 1) := by
        have := congrArg List.length b.keys
        simpa using this
      by_cases hlt : j < (nbrs B u).length
      · obtain ⟨y, hy⟩ : ∃ y, (nbrs B u)[j]? = some y := ⟨_, List.getElem?_eq_getElem hlt⟩
        have hyN := List.mem_of_getElem? hy
        have hon := mem_nbrs.1 hyN
        have hvg : SlR g 113 3 v9 ((nbrs B u).map Sp.cells) := hv.ext ⟨by have := bh.nx; omega, bh.old⟩
        have htk : ∀ y' ∈ (nbrs B u).take (j + 1), y' ∈ (nbrs B u).take j ∨ y' = y := fun y' h => by
          rw [List.take_add_one, hy] at h
          simpa using h
        by_cases hs : y ∈ fr.map (·.1) ∨ r u y = 0
        · obtain ⟨g', f1, x1⟩ := l2_skip (kk := 1000) (a0 := a0) (h0 := h0) (h1 := h1) hh2 bh b.fo hvg hy (by omega) hon hs
          exact ⟨_, _, g', f1, .inl ⟨rfl, (j + 1, fr, q, qv), ⟨rfl, hlt, bh.ext x1, b, fun y' h => (htk y' h).elim (hd y') (fun e => by rw [e]; exact hs)⟩, by simp only; omega⟩⟩
        · have hs1 : y ∉ fr.map (·.1) := fun h => hs (.inl h)
          have hr : r u y ≠ 0 := fun h => hs (.inr h)
          by_cases hT : y = T
          · subst hT
            obtain ⟨g', r', f1, f2, f3, f4, f5⟩ := l2_found (kk := 1000) (a0 := a0) hh0 hh1 hh2 bh b sbB hc fl hvg hy (by omega) (by omega) hon hr
            exact ⟨_, _, g', f1, .inr ⟨by simp, .inr ⟨rfl, _, _, rfl, r', f2, f3, f4, f5⟩⟩⟩
          · have hr1 : 1 ≤ r u y := by have := (small_of fl.start hc u y hon).1; omega
            obtain ⟨g', qv', f1, f2, _⟩ := l2_add (kk := 1000) (a0 := a0) (h0 := h0) hh1 hh2 bh hvg hy (by omega) (by omega) hon hs1 hr hT
            refine ⟨_, _, g', f1, .inl ⟨rfl, (j + 1, fr ++ [(y, u)], q ++ [y], qv'), ⟨rfl, hlt, f2, b.add List.mem_cons_self hs1 hyN hr1 hT, fun y' h => ?_⟩, by simp only; omega⟩⟩
            rw [List.map_append]
            rcases htk y' h with h | h
            · exact (hd y' h).imp (fun h => List.mem_append_left _ h) id
            · exact .inl (List.mem_append_right _ (by simp [h]))
      · have : j = (nbrs B u).length := by omega
        subst this
        refine ⟨.exit 2, [a0, qv, iv (nbrs B u).length], g, ?_, .inr ⟨by simp, .inl ⟨rfl, fr, q, qv, _, rfl, bh, b, fun y hy => hd y (by rw [List.take_length]; exact hy)⟩⟩⟩
        unfold f103_l2
        simp only [gv, List.getD_cons_zero, List.getD_cons_succ, asI_int]
        rw [lt_f (by omega), ifB_false]; rfl) 1000 (0, fr, q, qv) [a0, qv, iv 0] g (by simp only; omega) ⟨rfl, Nat.zero_le _, bh, b, fun y hy => by simp at hy⟩
  exact ⟨e, ws, g', fun K => lp_eq e1, e2⟩

theorem nbr_slice {lo nb rb xb : Nat} {B : List Arc} {r : Sp → Sp → Int} {nxs : List (Sp × Value)} {h : H} (nt : NetH lo h nb rb xb B r nxs) (u : Sp) : ∃ v9, (valK nxs u).getD (.slice none 0 0) = v9 ∧ SlR h 113 3 v9 ((nbrs B u).map Sp.cells) := by
  cases hv : valK nxs u with
  | some v => exact ⟨v, rfl, (nt.next.ok u v hv).slR⟩
  | none => exact ⟨_, rfl, by rw [nt.next.no u hv]; exact .nil⟩

theorem l1_loop {lo nb rb xb k : Nat} {B : List Arc} {r : Sp → Sp → Int} {nxs : List (Sp × Value)} {S T : Sp} {g0 h0 h1 h2 : H} {qv : Value} {g : H}
    (hh0 : h0.nx = g0.nx) (hh1 : h1.nx = g0.nx + 1) (hh2 : h2.nx = g0.nx + 2) (bh : BfsH lo nb rb xb B r nxs S T g0 [(S, S)] [S] qv g) (hST : S ≠ T) (sbB : SimpB B) (hc : ∀ a ∈ B, a.2.2 ≤ 1000) (fl : FlowOk B r k S T) (hB : B.length ≤ 300) :
    ∃ e ws g', (∀ {R : Type} (K : Ex → List Value → H → Option R), lp 1000 (f103_l1 rn 1000 (pt nb 0) h0 h1 h2) [.bool false, qv] g K = K e ws g') ∧
      ((e = .exit 0 ∧ (∃ qv', ws = [.bool false, qv']) ∧ (∃ R : Sp → Bool, R S = true ∧ R T = false ∧ ∀ a ∈ B, (R a.1 = true → R a.2.1 = false → r a.1 a.2.1 = 0) ∧ (R a.2.1 = true → R a.1 = false → r a.2.1 a.1 = 0)) ∧ Ext g0 g') ∨
       (e = .ret ∧ (∃ qv', ws = [.bool true, qv']) ∧ Found lo nb rb xb B nxs k S T g0 g')) := by
  obtain ⟨e, ws, g', e1, e2⟩ := lp_meas (F := f103_l1 rn 1000 (pt nb 0) h0 h1 h2) (σ := List (Sp × Sp) × List Sp × List Sp × Value)
    (fun s ws g => ws = [.bool false, s.2.2.2] ∧ Bfs B r S T s.1 s.2.1 s.2.2.1 ∧ g0.nx + 3 ≤ g.nx ∧ (∀ c, c < g0.nx → g.blk c = g0.blk c) ∧ ((s.2.2.1 = [] ∧ ∃ a m c, s.2.2.2 = .slice a 0 c ∧ m = 0) ∨ BfsH lo nb rb xb B r nxs S T g0 s.1 s.2.2.1 s.2.2.2 g))
    (fun s => 2 * B.length + 1 - s.2.1.length)
    (fun e ws g' => (e = .exit 0 ∧ (∃ qv', ws = [.bool false, qv']) ∧ (∃ R : Sp → Bool, R S = true ∧ R T = false ∧ ∀ a ∈ B, (R a.1 = true → R a.2.1 = false → r a.1 a.2.1 = 0) ∧ (R a.2.1 = true → R a.1 = false → r a.2.1 a.1 = 0)) ∧ Ext g0 g') ∨
       (e = .ret ∧ (∃ qv', ws = [.bool true, qv']) ∧ Found lo nb rb xb B nxs k S T g0 g'))
    (fun s ws g hI => by
      obtain ⟨fr, dn, q, qv⟩ := s
      obtain ⟨rfl, b, gn, old, hh⟩ := hI
      simp only at b hh ⊢
      cases q with
      | nil =>
        have hlen : ∃ a n c, qv = .slice a n c ∧ n = 0 := by
          rcases hh with ⟨_, a, m, c, h, _⟩ | bh
          · exact ⟨a, 0, c, h, rfl⟩
          · obtain ⟨a, n, c, h⟩ := bh.qB.slR.isSl
            have hl := fun (K : Int → Option Unit) => bh.qB.slR.len (K := K)
            refine ⟨a, n, c, h, ?_⟩
            have := hl fun n => if n = 0 then some () else none
            rw [h] at this
            simp only [len_slice, List.map_nil, List.length_nil] at this
            by_cases hn : (n : Int) = 0
            · omega
            · rw [if_neg hn] at this; simp at this
        obtain ⟨a, n, c, rfl, rfl⟩ := hlen
        refine ⟨.exit 0, [.bool false, .slice a 0 c], g, ?_, .inr ⟨by simp, .inl ⟨rfl, ⟨_, rfl⟩, b.fail, by omega, old⟩⟩⟩
        unfold f103_l1
        simp only [gv, List.getD_cons_zero, List.getD_cons_succ, len_slice]
        rfl
      | cons u q =>
        have bh : BfsH lo nb rb xb B r nxs S T g0 fr (u :: q) qv g := hh.resolve_left (fun h => by cases h.1)
        have hlen := b.len
        rw [List.length_append, List.length_cons] at hlen
        obtain ⟨v9, hv9, sl9⟩ := nbr_slice bh.net u
        obtain ⟨a0, n0, c0, hq0⟩ := bh.qB.slR.isSl
        obtain ⟨e, ws, g', k1, k2⟩ := l2_loop (a0 := .bool false) hh0 hh1 hh2 bh b sbB hc fl hB sl9
        have net := bh.netg
        have pre : ∀ {z : Option (Ex × List Value × H)}, (onE e 2 (sli Try.prog g' 134 (gv ws 1) (some (.int .i64 1)) none none fun v47 => out .normal [gv ws 0, v47] g') (onR e (out .ret [gv ws 0, gv ws 1] g'))) = z → f103_l1 rn 1000 (pt nb 0) h0 h1 h2 [.bool false, qv] g = z := by
          intro z hz
          unfold f103_l1
          simp only [gv, List.getD_cons_zero, List.getD_cons_succ]
          rw [bh.qB.slR.len, lt_t (by simp), ifB_true]
          simp only [AM.nil, asP_ptr]
          rw [d116, cell_of net.str, show off 0 1 = 1 from rfl]
          simp only [List.getElem?_cons_succ, List.getElem?_cons_zero, Option.bind_some]
          rw [bh.qB.slR.ldA ag113 sz113 (by omega) (x := u.cells) (by simp), show (Value.agg u.cells.toArray) = u.val from rfl, lok_of0 keyS under116 zero134 net.next.mp, hv9, (sl9.ext ⟨by omega, old⟩).len, List.length_map]
          exact (k1 _).trans hz
        rcases k2 with ⟨rfl, fr', q', qv', j, rfl, bh', b', cl⟩ | ⟨rfl, qv', j, rfl, fd⟩
        · obtain ⟨v', s1, s2, s3, _⟩ := bh'.qB.tail (by omega) under134 sz113
          refine ⟨.normal, [.bool false, v'], g', pre ?_, .inl ⟨rfl, (fr', dn ++ [u], q', v'), ⟨rfl, b'.next cl, bh'.nx, bh'.old, ?_⟩, by simp only [List.length_append, List.length_singleton]; omega⟩⟩
          · rw [onE_exit, if_pos rfl]
            exact s1 _
          · cases q' with
            | nil =>
              obtain ⟨b1, o1, c1, h1⟩ := s3 rfl
              exact .inl ⟨rfl, _, 0, _, h1, rfl⟩
            | cons u' q' => exact .inr ⟨bh'.net, bh'.sB, bh'.tB, bh'.fB, s2 (by simp), bh'.nx, bh'.old⟩
        · exact ⟨.ret, [.bool true, qv'], g', pre rfl, .inr ⟨by simp, .inr ⟨rfl, ⟨_, rfl⟩, fd⟩⟩⟩) 1000 ([(S, S)], [], [S], qv) [.bool false, qv] g (by simp only [List.length_nil]; omega)
    ⟨rfl, .init hST, bh.nx, bh.old, .inr bh⟩
  exact ⟨e, ws, g', fun K => lp_eq e1, e2⟩

end Go.AM

end

section

/- One way more, or none. -/
namespace Go.AM
open Go.Proofs
theorem s103 {lo nb rb xb k : Nat} {B : List Arc} {r : Sp → Sp → Int} {nxs : List (Sp × Value)} {S T : Sp} {h : H} (nt : NetH lo h nb rb xb B r nxs) (hST : S ≠ T) (sbB : SimpB B) (hc : ∀ a ∈ B, a.2.2 ≤ 1000) (fl : FlowOk B r k S T) (hB : B.length ≤ 300) :
    (∃ h' r', rn 103 #[pt nb 0, S.val, T.val] h = some (.bool true, h') ∧ NetH lo h' nb rb xb B r' nxs ∧ FlowOk B r' (k + 1) S T ∧ h.nx ≤ h'.nx ∧ ∀ c, c < h.nx → c ≠ rb → h'.blk c = h.blk c) ∨
    (rn 103 #[pt nb 0, S.val, T.val] h = some (.bool false, h) ∧ ∃ R : Sp → Bool, R S = true ∧ R T = false ∧ ∀ a ∈ B, (R a.1 = true → R a.2.1 = false → r a.1 a.2.1 = 0) ∧ (R a.2.1 = true → R a.1 = false → r a.2.1 a.1 = 0)) := by
  generalize e1 : h.new (.row S.cells 113 true) = h1
  generalize e2 : h1.new (.row T.cells 113 true) = h2
  generalize e3 : h2.new (.mp [] 0) = h3
  generalize e4 : h3.set h2.nx (mpOf Sp.val (kvF [(S, S)])) = h4
  generalize e5 : h4.new (.row S.cells 113 true) = h5
  have n1 : h1.nx = h.nx + 1 := by rw [← e1]; rfl
  have n2 : h2.nx = h.nx + 2 := by rw [← e2]; show h1.nx + 1 = _; omega
  have n3 : h3.nx = h.nx + 3 := by rw [← e3]; show h2.nx + 1 = _; omega
  have n4 : h4.nx = h.nx + 3 := by rw [← e4]; exact n3
  have n5 : h5.nx = h.nx + 4 := by rw [← e5]; show h4.nx + 1 = _; omega
  have s3 : h3.blk h.nx = some (.row S.cells 113 true) := by rw [← e3, blk_new, if_neg (by omega), ← e2, blk_new, if_neg (by omega), ← e1, blk_new, if_pos rfl]
  have t3 : h3.blk h1.nx = some (.row T.cells 113 true) := by rw [← e3, blk_new, if_neg (by omega), ← e2, blk_new, if_pos rfl]
  have f3 : h3.blk h2.nx = some (mpOf Sp.val []) := by rw [← e3, blk_new, if_pos rfl]; rfl
  have b4 : ∀ c, c ≠ h2.nx → h4.blk c = h3.blk c := fun c hc => by rw [← e4]; show (if c = h2.nx then _ else _) = _; rw [if_neg hc]
  have f4 : h4.blk h2.nx = some (mpOf Sp.val (kvF [(S, S)])) := by rw [← e4]; show (if h2.nx = h2.nx then _ else _) = _; rw [if_pos rfl]
  have b5 : ∀ c, c < h4.nx → h5.blk c = h4.blk c := fun c hc => by rw [← e5, blk_new, if_neg (by omega)]
  have old3 : ∀ c, c < h.nx → h3.blk c = h.blk c := fun c hc => by rw [← e3, blk_new, if_neg (by omega), ← e2, blk_new, if_neg (by omega), ← e1, blk_new, if_neg (by omega)]
  have qB : QlR (h.nx + 3) h5 113 3 (.slice (some ⟨h4.nx, 0, none⟩) 1 1) ([S].map Sp.cells) := by rw [← e5]; exact QlR.lit (by omega) rfl
  have bh : BfsH lo nb rb xb B r nxs S T h [(S, S)] [S] (.slice (some ⟨h4.nx, 0, none⟩) 1 1) h5 := ⟨nt, by rw [b5 _ (by omega), b4 _ (by omega), s3], by rw [b5 _ (by omega), b4 _ (by omega), ← n1, t3], by rw [b5 _ (by omega), ← n2, f4], qB, by omega, fun c hc => by rw [b5 _ (by omega), b4 _ (by omega), old3 c hc]⟩
  obtain ⟨e, ws, g', k1, k2⟩ := l1_loop (h0 := h) (h1 := h1) (h2 := h2) rfl n1 n2 bh hST sbB hc fl hB
  have pre : ∀ {z : Option (Value × H)}, onE e 0 (some (.bool false, g')) (onR e (some (gv ws 0, g'))) = z → f103 rn 1000 (pt nb 0) S.val T.val h = z := by
    intro z hz
    unfold f103
    rw [bxS, e1, bxS, e2, mkm_eq, e3]
    simp only [nx_eq]
    rw [ldS s3, ldS s3, mup_of keyS under133 f3, show putK ([] : List (Sp × Value)) S S.val = kvF [(S, S)] from rfl, e4, ldS (by rw [b4 _ (by omega), s3]), kbls134, e5]
    exact (k1 _).trans hz
  rcases k2 with ⟨rfl, ⟨qv', rfl⟩, hR, x⟩ | ⟨rfl, ⟨qv', rfl⟩, r', m1, m2, m3, m4⟩
  · exact .inr ⟨p103 (pre rfl) rfl x, hR⟩
  · refine .inl ⟨_, r', t103 (pre rfl), ?_, m2, ?_, ?_⟩
    · obtain ⟨t1, t2, t3⟩ := trunc_blk (P := Try.prog) (h := h) (h1 := g') (v := .bool true) m3
      have old : ∀ c, c < h.nx → (trunc Try.prog h g' (.bool true)).blk c = g'.blk c := t3
      have l1 := nt.nlt
      have l2 := nt.rlt
      have l3 := nt.next.xlt
      exact ⟨by rw [old _ l1, m1.str], by omega, by rw [old _ l2, m1.rm], by omega, m1.ne, ⟨by rw [old _ l3, m1.next.mp], by omega, fun u v hv => by
        have a := nt.next.ok u v hv
        have b := m1.next.ok u v hv
        generalize (nbrs B u).map Sp.cells = L at a b ⊢
        cases b with
        | nil => exact .nil
        | @at_ b c l hlo hb hr hx hm hc =>
          have hbl := (a.blkOf (b := b) rfl).2.1
          exact .at_ hlo (by omega) (by rw [old b hbl, hr]) hx hm hc, m1.next.no, m1.next.dis⟩, m1.los⟩
    · exact (trunc_blk (P := Try.prog) (h := h) (h1 := g') (v := .bool true) m3).1
    · intro c c1 c2
      rw [(trunc_blk (P := Try.prog) (h := h) (h1 := g') (v := .bool true) m3).2.2 c c1, m4 c c1 c2]

end Go.AM

end

section

/- As much flows as no cut forbids. -/
namespace Go.AM
open Go.Proofs
theorem base_cap {n : Nat} {l : List Kl} {d : Nat → Bool} {m : Nat} : ∀ a ∈ baseA n l d m, 0 ≤ a.2.2 ∧ a.2.2 ≤ 1000 := by
  intro a ha
  obtain ⟨i, _, h⟩ := base_mem.1 ha
  rcases chunk_cases h with ⟨p, _, rfl⟩ | ⟨_, c, _, hg⟩
  · simp
  · rcases gates_cases hg with rfl | rfl | rfl | rfl | rfl <;> simp

theorem flow_small {n : Nat} {l : List Kl} {d : Nat → Bool} {r : Sp → Sp → Int} {k : Nat} {s t : Int} (f : FlowOk (baseA n l d l.length) r k (at' s 0) (at' t l.length)) (hst : s ≠ t) : k ≤ l.length := by
  have := flow_le f (u := fun _ => true) (fun i _ _ h => by cases h) (X := fun _ p => p == s) (fun _ _ => .refl _) (by simp) (by simpa using Ne.symm hst)
  refine Nat.le_trans this ?_
  rw [penS_sum, maskL_len]
  refine Nat.le_trans (sumR_le (g := fun _ => 1) fun i _ => ?_) ?_
  · split
    · exact penB_le _ _ _
    · omega
  · generalize l.length = m
    induction m with
    | zero => simp [sumR]
    | succ m ih => rw [sumR_succ]; omega

/-- A flow that cannot be more. -/
structure MaxF (n : Nat) (l : List Kl) (d : Nat → Bool) (s t : Int) (r : Sp → Sp → Int) (k : Nat) : Prop where
  fl : FlowOk (baseA n l d l.length) r k (at' s 0) (at' t l.length)
  gm : k = GM 1000 t (maskL l d) (fun p => p == s)

theorem s83 {n : Nat} {l : List Kl} {gone : Nat} {sl : Value} {h : H} {s t : Int} (hs : SlR h 56 3 sl (l.map Kl.cells)) (hv : validP n l = true) (hgn : gone < 2 ^ 62) (hsr : 0 ≤ s ∧ s < n) (htr : 0 ≤ t ∧ t < n) (hst : s ≠ t) :
    ∃ (h' : H) (lo nb rb xb : Nat) (nxs : List (Sp × Value)) (r : Sp → Sp → Int) (k : Nat), rn 83 #[.agg #[iv n, sl], iv s, iv t, iv gone] h = some (.tuple #[pt nb 0, iv k], h') ∧ NetH lo h' nb rb xb (baseA n l (goneD gone) l.length) r nxs ∧ MaxF n l (goneD gone) s t r k ∧ Ext h h' ∧ h.nx ≤ lo := by
  have hn := validP_ok hv
  have hok := fun (i : Nat) (c : Kl) (hc : l[i]? = some c) => okC_iff.1 (hn.2.2.2 i c hc)
  have sbB : SimpB (baseA n l (goneD gone) l.length) := base_simp fun i c hc => (hok i c hc).2.2.1
  have hB : (baseA n l (goneD gone) l.length).length ≤ 300 := Nat.le_trans (base_len _) (Nat.le_trans (Nat.mul_le_mul hn.2.2.1 (show n + 5 ≤ 12 by omega)) (by decide))
  have hST : at' s 0 ≠ at' t l.length := fun e => hst (by simp only [Sp.mk.injEq] at e; exact e.1)
  generalize e1 : h.new (.row [iv n, sl] 31 true) = h1
  have n1 : h1.nx = h.nx + 1 := by rw [← e1]; rfl
  have x1 : Ext h h1 := by rw [← e1]; exact .new _ _
  have bx1 : h1.blk h.nx = some (.row [iv n, sl] 31 true) := by rw [← e1, blk_new, if_pos rfl]
  obtain ⟨h2, nb, rb, xb, nxs, c102, nt2, x2⟩ := s102 (hs.ext x1) hv hgn
  have bx2 : h2.blk h.nx = some (.row [iv n, sl] 31 true) := by rw [x2.blk _ (by omega), bx1]
  generalize e3 : h2.new (.row [iv 0, iv 0, .bool false] 113 true) = h3
  generalize e4 : h3.new (.row [iv 0, iv 0, .bool false] 113 true) = h4
  generalize e5 : h4.set h2.nx (.row (at' s 0).cells 113 true) = h5
  generalize e6 : h5.set h3.nx (.row (at' t l.length).cells 113 true) = h6
  have n3 : h3.nx = h2.nx + 1 := by rw [← e3]; rfl
  have n4 : h4.nx = h2.nx + 2 := by rw [← e4]; show h3.nx + 1 = _; omega
  have n6 : h6.nx = h2.nx + 2 := by rw [← e6, ← e5]; exact n4
  have b4 : h4.blk h2.nx = some (.row [iv 0, iv 0, .bool false] 113 true) := by rw [← e4, blk_new, if_neg (by omega), ← e3, blk_new, if_pos rfl]
  have b5 : h5.blk h3.nx = some (.row [iv 0, iv 0, .bool false] 113 true) := by
    rw [← e5]
    show (if h3.nx = h2.nx then _ else h4.blk h3.nx) = _
    rw [if_neg (by omega), ← e4, blk_new, if_pos rfl]
  have s6 : h6.blk h2.nx = some (.row (at' s 0).cells 113 true) := by
    rw [← e6]
    show (if h2.nx = h3.nx then _ else h5.blk h2.nx) = _
    rw [if_neg (by omega), ← e5]
    show (if h2.nx = h2.nx then _ else _) = _
    rw [if_pos rfl]
  have t6 : h6.blk h3.nx = some (.row (at' t l.length).cells 113 true) := by
    rw [← e6]
    show (if h3.nx = h3.nx then _ else _) = _
    rw [if_pos rfl]
  have x6 : Ext h2 h6 := ⟨by omega, fun q hq => by
    rw [← e6]
    show (if q = h3.nx then _ else h5.blk q) = _
    rw [if_neg (by omega), ← e5]
    show (if q = h2.nx then _ else h4.blk q) = _
    rw [if_neg (by omega), ← e4, blk_new, if_neg (by omega), ← e3, blk_new, if_neg (by omega)]⟩
  have nt6 := nt2.ext x6
  have fl0 := flow0 sbB (fun a ha => (base_cap a ha).1) (at' s 0) (at' t l.length)
  have hrblo : h1.nx ≤ rb := nt2.los.2.1
  have rlt2 := nt2.rlt
  obtain ⟨e, ws, g', q1, rfl, r, k, rfl, m1, m2, m3⟩ := lp_meas (F := f83_l1 rn 1000 (pt nb 0) h2 h3) (σ := (Sp → Sp → Int) × Nat)
    (fun s' ws g => ws = [.pointer none, iv 0, iv s'.2] ∧ NetH h1.nx g nb rb xb (baseA n l (goneD gone) l.length) s'.1 nxs ∧ FlowOk (baseA n l (goneD gone) l.length) s'.1 s'.2 (at' s 0) (at' t l.length) ∧ h6.nx ≤ g.nx ∧ ∀ c, c < h6.nx → c ≠ rb → g.blk c = h6.blk c)
    (fun s' => l.length + 1 - s'.2)
    (fun e ws g' => e = .ret ∧ ∃ (r : Sp → Sp → Int) (k : Nat), ws = [pt nb 0, iv k, iv k] ∧ NetH h1.nx g' nb rb xb (baseA n l (goneD gone) l.length) r nxs ∧ MaxF n l (goneD gone) s t r k ∧ (h6.nx ≤ g'.nx ∧ ∀ c, c < h6.nx → c ≠ rb → g'.blk c = h6.blk c))
    (fun s' ws g hI => by
      obtain ⟨r, k⟩ := s'
      obtain ⟨rfl, nt, fl, gn, old⟩ := hI
      simp only at nt fl ⊢
      have hk := flow_small fl hst
      have sg : g.blk h2.nx = some (.row (at' s 0).cells 113 true) := by rw [old _ (by omega) (by omega), s6]
      have tg : g.blk h3.nx = some (.row (at' t l.length).cells 113 true) := by rw [old _ (by omega) (by omega), t6]
      rcases s103 nt hST sbB (fun a ha => (base_cap a ha).2) fl hB with ⟨g', r', c103, p1, p2, p3, p4⟩ | ⟨c103, R, R1, R2, R3⟩
      · have hk' := flow_small p2 hst
        refine ⟨.normal, [.pointer none, iv 0, iv (k + 1 : Nat)], g', ?_, .inl ⟨rfl, (r', k + 1), ⟨rfl, p1, p2, by omega, fun c c1 c2 => by rw [p4 c (by omega) c2, old c c1 c2]⟩, by simp only; omega⟩⟩
        unfold f83_l1
        simp only [nx_eq]
        rw [ldS sg, ldS tg, kEq, decide_eq_false hST, ifB_false, ldS sg, ldS tg]
        refine (calls_eq c103).trans ?_
        simp only [asB_bool, Bool.not_true, ifB_false, gv, List.getD_cons_zero, List.getD_cons_succ, asI_int]
        rw [add64 (by omega) (by omega)]
        rfl
      · refine ⟨.ret, [pt nb 0, iv k, iv k], g, ?_, .inr ⟨by simp, rfl, r, k, rfl, nt, ⟨fl, flow_ge fl (fun i c hc => ⟨(hok i c hc).1, (hok i c hc).2.1⟩) (by omega) hst hsr htr R1 R2 R3⟩, gn, old⟩⟩
        unfold f83_l1
        simp only [nx_eq]
        rw [ldS sg, ldS tg, kEq, decide_eq_false hST, ifB_false, ldS sg, ldS tg]
        refine (calls_eq c103).trans ?_
        simp only [asB_bool, Bool.not_false, ifB_true, gv, List.getD_cons_zero, List.getD_cons_succ]
        rfl) 1000 (room0 (baseA n l (goneD gone) l.length), 0) [.pointer none, iv 0, iv 0] h6 (by simp only; omega) ⟨rfl, nt6, fl0, Nat.le_refl _, fun _ _ _ => rfl⟩
  have hrun : f83 rn 1000 (.agg #[iv n, sl]) s t gone h = some (.tuple #[pt nb 0, iv k], g') := by
    unfold f83
    rw [bx_eq]
    simp only [Value.cells]
    rw [e1]
    simp only [nx_eq]
    rw [d31, rd_all (n := 2) bx1 rfl, Option.bind_some]
    refine (calls_eq c102).trans ?_
    rw [kSp, d29, cell_of bx2, show off 0 1 = 1 from rfl]
    simp only [List.getElem?_cons_succ, List.getElem?_cons_zero, Option.bind_some]
    rw [(hs.ext (x1.trans x2)).len, List.length_map, kSp, al_eq, e3]
    have ck1 : freq h.nx h2.nx (same h3 h2) = true := by
      unfold freq same
      rw [decide_eq_true (by have := x2.nx; omega), ← e3]
      simp [H.new]
    have ck2 : freq h.nx h3.nx (same h4 h3) = true := by
      unfold freq same
      rw [decide_eq_true (by have := x2.nx; omega), ← e4]
      simp [H.new]
    have ck3 : fre h.nx h4.nx 1 1 h2.nx 0 3 = true := by
      unfold fre
      have := x2.nx
      rw [decide_eq_true (by omega), decide_eq_true (.inl (by omega))]
      rfl
    rw [ck1, ck_true, al_eq, e4, ck2, ck_true, st113 (x := ⟨s, 0, false⟩) b4 rfl, show (⟨s, 0, false⟩ : Sp) = at' s 0 from rfl, e5, ck3, ck_true, st113 b5 rfl, e6, lp_eq q1, onR_ret]
    rfl
  have xg : Ext h g' := ⟨by have := x2.nx; omega, fun q hq => by
    have := x2.nx
    rw [m3.2 q (by omega) (by omega), x6.blk _ (by omega), x2.blk _ (by omega), x1.blk _ hq]⟩
  exact ⟨g', h1.nx, nb, rb, xb, nxs, r, k, x83 hrun rfl, m1, m2, xg, by omega⟩

end Go.AM

end

section

/- The calls through which something flows. -/
namespace Go.AM
open Go.Proofs
def usedN (r : Sp → Sp → Int) : Nat → Nat
  | 0 => 0
  | i + 1 => if 0 < r (outS i) (inS i) then usedN r i ||| 2 ^ i else usedN r i

theorem usedN_lt (r : Sp → Sp → Int) : ∀ m, usedN r m < 2 ^ m := by
  intro m
  induction m with
  | zero => simp [usedN]
  | succ m ih =>
    simp only [usedN]
    have : (2 : Nat) ^ m < 2 ^ (m + 1) := Nat.pow_lt_pow_right (by decide) (by omega)
    split
    · exact Nat.or_lt_two_pow (by omega) this
    · omega

theorem usedN_bit (r : Sp → Sp → Int) (i : Nat) : ∀ m, (usedN r m).testBit i = (decide (i < m) && decide (0 < r (outS i) (inS i))) := by
  intro m
  induction m with
  | zero => simp [usedN]
  | succ m ih =>
    simp only [usedN]
    by_cases h : 0 < r (outS m) (inS m)
    · rw [if_pos h, Nat.testBit_or, ih, Nat.testBit_two_pow]
      by_cases e : m = i
      · subst e; simp [h]
      · have : (decide (i < m + 1)) = decide (i < m) := by
          by_cases h : i < m
          · rw [decide_eq_true h, decide_eq_true (by omega)]
          · rw [decide_eq_false h, decide_eq_false (by omega)]
        rw [this]; simp [e]
    · rw [if_neg h, ih]
      by_cases e : i = m
      · subst e; simp [h]
      · have : (decide (i < m + 1)) = decide (i < m) := by
          by_cases h : i < m
          · rw [decide_eq_true h, decide_eq_true (by omega)]
          · rw [decide_eq_false h, decide_eq_false (by omega)]
        rw [this]

theorem on_gate {n : Nat} {l : List Kl} {d : Nat → Bool} {i : Nat} {c : Kl} (hc : l[i]? = some c) (hd : d i = false) : onA (baseA n l d l.length) (outS i) (inS i) := by
  refine ⟨(inS i, outS i, 1), base_mem.2 ⟨i, (List.getElem?_eq_some_iff.1 hc).1, ?_⟩, .inr ⟨rfl, rfl⟩⟩
  unfold chunk
  rw [hc]
  simp [hd, gates]

theorem s84 {n : Nat} {l : List Kl} {sl : Value} {h : H} {lo nb rb xb : Nat} {nxs : List (Sp × Value)} {r : Sp → Sp → Int} (hs : SlR h 56 3 sl (l.map Kl.cells)) (hl : l.length ≤ 24) (nt : NetH lo h nb rb xb (baseA n l (goneD 0) l.length) r nxs) :
    rn 84 #[.agg #[iv n, sl], pt nb 0] h = some (iv (usedN r l.length), h) := by
  generalize e1 : h.new (.row [iv n, sl] 31 true) = h1
  have n1 : h1.nx = h.nx + 1 := by rw [← e1]; rfl
  have x1 : Ext h h1 := by rw [← e1]; exact .new _ _
  have bx1 : h1.blk h.nx = some (.row [iv n, sl] 31 true) := by rw [← e1, blk_new, if_pos rfl]
  have nt1 := nt.ext x1
  obtain ⟨ws', g, q1, rfl, hg⟩ := lp_for (k := 1000) (l := l) (F := f84_l1 rn 1000 (pt nb 0) l.length) (σ := Unit) (fun _ _ s => s)
    (fun i _ ws g => ws = [iv (usedN r i), iv i] ∧ g = h1) 0 (ws := [iv 0, iv 0]) (h := h1) (s0 := ()) ⟨rfl, rfl⟩ (by omega)
    (fun _ ws g hI => by
      obtain ⟨rfl, rfl⟩ := hI
      unfold f84_l1
      simp only [gv, List.getD_cons_zero, List.getD_cons_succ, asI_int]
      rw [lt_f (by omega), ifB_false]; rfl)
    (fun i c _ ws g hc hI => by
      obtain ⟨rfl, rfl⟩ := hI
      have hi := (List.getElem?_eq_some_iff.1 hc).1
      have hv := (valK_ks (baseA n l (goneD 0) l.length) r (outS i) (inS i)).1 (on_gate hc (by simp))
      refine ⟨[iv (usedN r (i + 1)), iv (i + 1 : Nat)], g, ?_, rfl, rfl⟩
      have hp : (2:Nat) ^ i < 2 ^ 24 := Nat.pow_lt_pow_right (by decide) (by omega)
      have hu := usedN_lt r i
      unfold f84_l1
      simp only [gv, List.getD_cons_zero, List.getD_cons_succ, asI_int, asK_int]
      rw [lt_t (by omega), ifB_true]
      simp only [AM.nil, asP_ptr]
      rw [d115, cell_of nt1.str]
      simp only [List.getElem?_cons_zero, Option.bind_some]
      rw [add64 (by omega) (by omega), kSp, kSp, kA, show ((⟨1, (i : Int) + 1, true⟩ : Sp), (⟨0, (i : Int) + 1, true⟩ : Sp)) = (outS i, inS i) from rfl, lok_of0 keyA under115 zero3 nt1.rm, hv]
      simp only [Option.getD_some, asI_int]
      by_cases h : 0 < r (outS i) (inS i)
      · rw [lt_t h, ifB_true]
        unfold AM.nn
        rw [if_neg (by omega), show (1 : Int) = ((1 : Nat) : Int) from rfl, shl_nat (by omega) (by omega), or_nat (by omega) (by omega)]
        simp only [usedN, if_pos h, Nat.one_mul]
        rfl
      · rw [lt_f h, ifB_false]
        simp only [usedN, if_neg h]
        rfl)
  rw [hg] at q1
  refine p84 (k := 1000) (h1 := h1) ?_ rfl x1
  unfold f84
  rw [bx_eq]
  simp only [Value.cells]
  rw [e1]
  simp only [nx_eq]
  rw [d29, cell_of bx1, show off 0 1 = 1 from rfl]
  simp only [List.getElem?_cons_succ, List.getElem?_cons_zero, Option.bind_some]
  rw [(hs.ext x1).len, List.length_map, lp_eq q1, onE_exit, if_pos rfl]
  rfl

/-- The calls that a greatest flow uses are enough. -/
theorem used_gm {n : Nat} {l : List Kl} {s t : Int} {r : Sp → Sp → Int} {k : Nat} (hl : l.length ≤ 24) (hst : s ≠ t) (m : MaxF n l (goneD 0) s t r k) : GM 1000 t (maskL l fun i => !(usedN r l.length).testBit i) (fun p => p == s) = k := by
  have hX : (fun p => p == s) t = false := by simpa using Ne.symm hst
  have h1 : GM 1000 t (maskL l fun i => !(usedN r l.length).testBit i) (fun p => p == s) ≤ k := by
    rw [m.gm]
    exact GM_more (fun i h => by simp at h) hX (by omega)
  refine Nat.le_antisymm h1 ?_
  have hk := flow_small m.fl hst
  obtain ⟨X, e0, hs, he, hp⟩ := GM_seq (K := 1000) (t := t) (maskL l fun i => !(usedN r l.length).testBit i) (fun p => p == s) (by omega)
  have hm := seq_mono hs
  rw [maskL_len] at he hm
  have := flow_le m.fl (u := fun i => (usedN r l.length).testBit i) (fun i hi _ hu => by
    rw [usedN_bit] at hu
    simp only [Bool.and_eq_false_iff, decide_eq_false_iff_not] at hu
    omega) hm (by rw [e0]; simp) he
  rw [← hp]
  refine Nat.le_trans this (Nat.le_of_eq ?_)
  congr 1
  unfold maskL
  congr 1
  funext q
  simp

end Go.AM

end

section

/- The staged forms of functions 86, 48, 49, and what calls of these answer. -/
namespace Go.AM
open Go.Proofs
noncomputable def f86_l1 (_rec : Rec) (_k : Nat) (v0 : Value) (n0 : Int) (ws0 : List Value) (h1 : H) : Option (Ex × List Value × H) :=
  asI .i64 (gv ws0 1) fun n1 =>
  ifB (lt n1 n0) (
    asK (gv ws0 1) fun n2 =>
    six v0 n2 1 fun b2 b3 =>
    ld Try.prog h1 3 b2 b3 fun v8 =>
    asI .i64 v8 fun n3 =>
    nn n3 (
      asI .i64 (gv ws0 0) fun n4 =>
      asI .i64 (gv ws0 1) fun n5 =>
      out .normal [(.int .i64 (or .i64 n4 (shl .i64 1 n3))), (.int .i64 (add .i64 n5 1))] h1)) (
    out (.exit 0) [gv ws0 0, gv ws0 1] h1)

noncomputable def f86 (rec : Rec) (k : Nat) (v0 : Value) (v1 : Value) (v2 : Value) (v3 : Value) (v4 : Value) (v5 : Value) (v6 : Value) (h0 : H) : Option (Value × H) :=
  asP v1 fun b0 b1 =>
  ld Try.prog h0 25 b0 b1 fun v7 =>
  eqv Try.prog 25 v7 (.slice none 0 0) fun q0 =>
  ifB (not q0) (
    some (undef, h0)) (
    len v0 fun n0 =>
    lp k (f86_l1 rec k v0 n0) [(.int .i64 0), (.int .i64 0)] h0 fun e0 ws1 h2 =>
    onE e0 0 (
      asP v2 fun b4 b5 =>
      ld Try.prog h2 31 b4 b5 fun v9 =>
      asP v3 fun b6 b7 =>
      ld Try.prog h2 3 b6 b7 fun v10 =>
      asI .i64 v10 fun n6 =>
      asP v4 fun b8 b9 =>
      ld Try.prog h2 3 b8 b9 fun v11 =>
      asI .i64 v11 fun n7 =>
      calls rec h2 83 [v9, (.int .i64 n6), (.int .i64 n7), gv ws1 0] fun v12 h3 =>
      ext v12 0 fun _ =>
      ext v12 1 fun v14 =>
      asI .i64 v14 fun n8 =>
      asP v5 fun b10 b11 =>
      ld Try.prog h3 3 b10 b11 fun v15 =>
      asI .i64 v15 fun n9 =>
      asP v6 fun b12 b13 =>
      ld Try.prog h3 58 b12 b13 fun v16 =>
      len v16 fun n10 =>
      ifB (eq n8 (sub .i64 (sub .i64 n9 n10) 1)) (
        calls rec h3 75 [v0] fun v17 h4 =>
        asP v1 fun b14 b15 =>
        st Try.prog h4 25 b14 b15 v17 fun h5 =>
        some (undef, h5)) (
        some (undef, h3))) (
      none))

theorem e86 (rec : Rec) (k : Nat) (v0 : Value) (v1 : Value) (v2 : Value) (v3 : Value) (v4 : Value) (v5 : Value) (v6 : Value) (h : H) : bodyT Try.prog E0 SC (XC Try.prog rec k) 86 (Value × H) [.opq v0, .opq v1, .opq v2, .opq v3, .opq v4, .opq v5, .opq v6] h (fun v h => some (v, h)) = f86 rec k v0 v1 v2 v3 v4 v5 v6 h := by kernel_rfl

theorem t86 {k : Nat} {v0 : Value} {v1 : Value} {v2 : Value} {v3 : Value} {v4 : Value} {v5 : Value} {v6 : Value} {h h1 : H} {v : Value} (hh : f86 rn k v0 v1 v2 v3 v4 v5 v6 h = some (v, h1)) : rn 86 #[v0, v1, v2, v3, v4, v5, v6] h = some (v, trunc Try.prog h h1 v) :=
  run_of_bodyT (args := [.opq v0, .opq v1, .opq v2, .opq v3, .opq v4, .opq v5, .opq v6]) rfl ((e86 _ _ _ _ _ _ _ _ _ _).trans hh)

theorem x86 {k : Nat} {v0 : Value} {v1 : Value} {v2 : Value} {v3 : Value} {v4 : Value} {v5 : Value} {v6 : Value} {h h1 : H} {v : Value} (hh : f86 rn k v0 v1 v2 v3 v4 v5 v6 h = some (v, h1)) (hp : plainO v = false) : rn 86 #[v0, v1, v2, v3, v4, v5, v6] h = some (v, h1) := by rw [t86 hh, trunc_not hp]

noncomputable def f48_l2 (_rec : Rec) (_k : Nat) (ws0 : List Value) (h10 : H) (v17 : Value) (n11 : Int) (ws1 : List Value) (h13 : H) : Option (Ex × List Value × H) :=
  asI .i64 (gv ws1 1) fun n12 =>
  ifB (lt n12 n11) (
    asK (gv ws1 1) fun n13 =>
    six v17 n13 3 fun b0 b1 =>
    ld Try.prog h13 56 b0 b1 fun v18 =>
    al h13 56 [(.int .i64 0), (.int .i64 0), (.int .i64 0)] fun h14 =>
    st Try.prog h14 56 (nx h13) 0 v18 fun h15 =>
    asI .i64 (gv ws0 0) fun n14 =>
    asK (gv ws1 1) fun n15 =>
    nn n15 (
      ifB (eq (and .i64 (shr .i64 n14 n15) 1) 1) (
        ld Try.prog h15 29 (nx h10) (off 0 1) fun v19 =>
        ld Try.prog h15 56 (nx h13) 0 fun v20 =>
        bls Try.prog h15 29 1 [(0, v20)] fun v21 h16 =>
        app Try.prog h16 29 29 v19 v21 fun v22 h17 =>
        st Try.prog h17 29 (nx h10) (off 0 1) v22 fun h18 =>
        bls Try.prog h18 25 1 [(0, gv ws1 1)] fun v23 h19 =>
        app Try.prog h19 25 25 (gv ws1 0) v23 fun v24 h20 =>
        asI .i64 (gv ws1 1) fun n16 =>
        out .normal [v24, (.int .i64 (add .i64 n16 1))] h20) (
        asI .i64 (gv ws1 1) fun n17 =>
        out .normal [gv ws1 0, (.int .i64 (add .i64 n17 1))] h15))) (
    out (.exit 2) [gv ws1 0, gv ws1 1] h13)

noncomputable def f48_l3 (_rec : Rec) (_k : Nat) (ws2 : List Value) (h21 : H) (v29 : Value) (n20 : Int) (ws3 : List Value) (h24 : H) : Option (Ex × List Value × H) :=
  asI .i64 (gv ws3 1) fun n21 =>
  ifB (lt n21 n20) (
    asK (gv ws3 1) fun n22 =>
    six v29 n22 1 fun b2 b3 =>
    ld Try.prog h24 3 b2 b3 fun v30 =>
    asI .i64 v30 fun n23 =>
    ld Try.prog h24 25 (nx h21) 0 fun v31 =>
    six (gv ws2 0) n23 1 fun b4 b5 =>
    ld Try.prog h24 3 b4 b5 fun v32 =>
    asI .i64 v32 fun n24 =>
    asK (gv ws3 1) fun n25 =>
    six v31 n25 1 fun b6 b7 =>
    st Try.prog h24 3 b6 b7 (.int .i64 n24) fun h25 =>
    six (gv ws2 0) n23 1 fun b8 b9 =>
    ld Try.prog h25 3 b8 b9 fun v33 =>
    asI .i64 v33 fun n26 =>
    nn n26 (
      asI .i64 (gv ws3 0) fun n27 =>
      asI .i64 (gv ws3 1) fun n28 =>
      out .normal [(.int .i64 (andNot .i64 n27 (shl .i64 1 n26))), (.int .i64 (add .i64 n28 1))] h25)) (
    out (.exit 4) [gv ws3 0, gv ws3 1] h24)

noncomputable def f48_l1 (rec : Rec) (k : Nat) (h0 : H) (h1 : H) (h2 : H) (h5 : H) (h8 : H) (ws0 : List Value) (h10 : H) : Option (Ex × List Value × H) :=
  ld Try.prog h10 58 (nx h8) 0 fun v13 =>
  len v13 fun n8 =>
  ld Try.prog h10 3 (nx h5) 0 fun v14 =>
  asI .i64 v14 fun n9 =>
  ifB (lt n8 n9) (
    ld Try.prog h10 3 (nx h0) 0 fun v15 =>
    asI .i64 v15 fun n10 =>
    bld Try.prog 31 [(0, (.int .i64 n10))] fun v16 =>
    al h10 31 [(.int .i64 0), (.slice none 0 0)] fun h11 =>
    st Try.prog h11 31 (nx h10) 0 v16 fun h12 =>
    ld Try.prog h12 29 (nx h0) (off 0 1) fun v17 =>
    len v17 fun n11 =>
    lp k (f48_l2 rec k ws0 h10 v17 n11) [(.slice none 0 0), (.int .i64 0)] h12 fun e0 ws2 h21 =>
    onE e0 2 (
      al h21 25 [(.slice none 0 0)] fun h22 =>
      ld Try.prog h22 31 (nx h10) 0 fun v25 =>
      ld Try.prog h22 3 (nx h1) 0 fun v26 =>
      asI .i64 v26 fun n18 =>
      ld Try.prog h22 3 (nx h2) 0 fun v27 =>
      asI .i64 v27 fun n19 =>
      calls rec h22 85 [v25, (.int .i64 n18), (.int .i64 n19), (.func (.func 86) #[] #[(pt (nx h21) 0), (pt (nx h10) 0), (pt (nx h1) 0), (pt (nx h2) 0), (pt (nx h5) 0), (pt (nx h8) 0)])] fun _ h23 =>
      ld Try.prog h23 25 (nx h21) 0 fun v29 =>
      len v29 fun n20 =>
      lp k (f48_l3 rec k ws2 h21 v29 n20) [gv ws0 0, (.int .i64 0)] h23 fun e1 ws4 h26 =>
      onE e1 4 (
        ld Try.prog h26 58 (nx h8) 0 fun v34 =>
        ld Try.prog h26 25 (nx h21) 0 fun v35 =>
        bls Try.prog h26 58 1 [(0, v35)] fun v36 h27 =>
        app Try.prog h27 58 58 v34 v36 fun v37 h28 =>
        st Try.prog h28 58 (nx h8) 0 v37 fun h29 =>
        out .normal [gv ws4 0] h29) (
        none)) (
      none)) (
    out (.exit 0) [gv ws0 0] h10)

noncomputable def f48 (rec : Rec) (k : Nat) (v0 : Value) (n0 : Int) (n1 : Int) (h0 : H) : Option (Value × H) :=
  bx h0 31 v0 fun h1 =>
  bx h1 3 (.int .i64 n0) fun h2 =>
  bx h2 3 (.int .i64 n1) fun h3 =>
  ld Try.prog h3 31 (nx h0) 0 fun v1 =>
  ld Try.prog h3 3 (nx h1) 0 fun v2 =>
  asI .i64 v2 fun n2 =>
  ld Try.prog h3 3 (nx h2) 0 fun v3 =>
  asI .i64 v3 fun n3 =>
  calls rec h3 82 [v1, (.int .i64 n2), (.int .i64 n3)] fun v4 h4 =>
  asB v4 fun q0 =>
  ifB (not q0) (
    some ((.tuple #[(.slice none 0 0), (.int .i64 2)]), h4)) (
    ld Try.prog h4 31 (nx h0) 0 fun v5 =>
    ld Try.prog h4 3 (nx h1) 0 fun v6 =>
    asI .i64 v6 fun n4 =>
    ld Try.prog h4 3 (nx h2) 0 fun v7 =>
    asI .i64 v7 fun n5 =>
    calls rec h4 83 [v5, (.int .i64 n4), (.int .i64 n5), (.int .i64 0)] fun v8 h5 =>
    ext v8 0 fun v9 =>
    ext v8 1 fun v10 =>
    asI .i64 v10 fun n6 =>
    al h5 3 [(.int .i64 0)] fun h6 =>
    st Try.prog h6 3 (nx h5) 0 (.int .i64 n6) fun h7 =>
    ld Try.prog h7 31 (nx h0) 0 fun v11 =>
    calls rec h7 84 [v11, v9] fun v12 h8 =>
    asI .i64 v12 fun n7 =>
    al h8 58 [(.slice none 0 0)] fun h9 =>
    lp k (f48_l1 rec k h0 h1 h2 h5 h8) [(.int .i64 n7)] h9 fun e2 _ h30 =>
    onE e2 0 (
      ld Try.prog h30 58 (nx h8) 0 fun v38 =>
      some ((.tuple #[v38, (.int .i64 0)]), h30)) (
      none))

theorem e48 (rec : Rec) (k : Nat) (v0 : Value) (n0 : Int) (n1 : Int) (h : H) : bodyT Try.prog E0 SC (XC Try.prog rec k) 48 (Value × H) [.opq v0, .int .i64 n0, .int .i64 n1] h (fun v h => some (v, h)) = f48 rec k v0 n0 n1 h := by kernel_rfl

theorem t48 {k : Nat} {v0 : Value} {n0 : Int} {n1 : Int} {h h1 : H} {v : Value} (hh : f48 rn k v0 n0 n1 h = some (v, h1)) : rn 48 #[v0, .int .i64 n0, .int .i64 n1] h = some (v, trunc Try.prog h h1 v) :=
  run_of_bodyT (args := [.opq v0, .int .i64 n0, .int .i64 n1]) rfl ((e48 _ _ _ _ _ _).trans hh)

theorem x48 {k : Nat} {v0 : Value} {n0 : Int} {n1 : Int} {h h1 : H} {v : Value} (hh : f48 rn k v0 n0 n1 h = some (v, h1)) (hp : plainO v = false) : rn 48 #[v0, .int .i64 n0, .int .i64 n1] h = some (v, h1) := by rw [t48 hh, trunc_not hp]

noncomputable def f49_l1 (rec : Rec) (_k : Nat) (n0 : Int) (n1 : Int) (h0 : H) (n3 : Int) (ws0 : List Value) (h5 : H) : Option (Ex × List Value × H) :=
  asI .i64 (gv ws0 3) fun n4 =>
  ifB (lt n4 n3) (
    ld Try.prog h5 31 (nx h0) 0 fun v9 =>
    asK (gv ws0 3) fun n5 =>
    nn n5 (
      asI .i64 (gv ws0 1) fun n6 =>
      calls rec h5 83 [v9, (.int .i64 n0), (.int .i64 n1), (.int .i64 (or .i64 n6 (shl .i64 1 n5)))] fun v10 h6 =>
      ext v10 0 fun _ =>
      ext v10 1 fun v12 =>
      asI .i64 v12 fun n7 =>
      asI .i64 (gv ws0 2) fun n8 =>
      ifB (lt n7 n8) (
        bls Try.prog h6 25 1 [(0, gv ws0 3)] fun v13 h7 =>
        app Try.prog h7 25 25 (gv ws0 0) v13 fun v14 h8 =>
        asK (gv ws0 3) fun n9 =>
        nn n9 (
          asI .i64 (gv ws0 1) fun n10 =>
          asI .i64 (gv ws0 3) fun n11 =>
          out .normal [v14, (.int .i64 (or .i64 n10 (shl .i64 1 n9))), (.int .i64 n7), (.int .i64 (add .i64 n11 1))] h8)) (
        asI .i64 (gv ws0 3) fun n12 =>
        out .normal [gv ws0 0, gv ws0 1, gv ws0 2, (.int .i64 (add .i64 n12 1))] h6))) (
    out (.exit 0) [gv ws0 0, gv ws0 1, gv ws0 2, gv ws0 3] h5)

noncomputable def f49 (rec : Rec) (k : Nat) (v0 : Value) (n0 : Int) (n1 : Int) (h0 : H) : Option (Value × H) :=
  bx h0 31 v0 fun h1 =>
  ld Try.prog h1 31 (nx h0) 0 fun v1 =>
  calls rec h1 82 [v1, (.int .i64 n0), (.int .i64 n1)] fun v2 h2 =>
  asB v2 fun q0 =>
  ifB (not q0) (
    some ((.tuple #[(.slice none 0 0), (.int .i64 2)]), h2)) (
    bls Try.prog h2 25 0 [] fun v3 h3 =>
    ld Try.prog h3 31 (nx h0) 0 fun v4 =>
    calls rec h3 83 [v4, (.int .i64 n0), (.int .i64 n1), (.int .i64 0)] fun v5 h4 =>
    ext v5 0 fun _ =>
    ext v5 1 fun v7 =>
    asI .i64 v7 fun n2 =>
    ld Try.prog h4 29 (nx h0) (off 0 1) fun v8 =>
    len v8 fun n3 =>
    lp k (f49_l1 rec k n0 n1 h0 n3) [v3, (.int .i64 0), (.int .i64 n2), (.int .i64 0)] h4 fun e0 ws1 h9 =>
    onE e0 0 (
      some ((.tuple #[gv ws1 0, (.int .i64 0)]), h9)) (
      none))

theorem e49 (rec : Rec) (k : Nat) (v0 : Value) (n0 : Int) (n1 : Int) (h : H) : bodyT Try.prog E0 SC (XC Try.prog rec k) 49 (Value × H) [.opq v0, .int .i64 n0, .int .i64 n1] h (fun v h => some (v, h)) = f49 rec k v0 n0 n1 h := by kernel_rfl

theorem t49 {k : Nat} {v0 : Value} {n0 : Int} {n1 : Int} {h h1 : H} {v : Value} (hh : f49 rn k v0 n0 n1 h = some (v, h1)) : rn 49 #[v0, .int .i64 n0, .int .i64 n1] h = some (v, trunc Try.prog h h1 v) :=
  run_of_bodyT (args := [.opq v0, .int .i64 n0, .int .i64 n1]) rfl ((e49 _ _ _ _ _ _).trans hh)

theorem x49 {k : Nat} {v0 : Value} {n0 : Int} {n1 : Int} {h h1 : H} {v : Value} (hh : f49 rn k v0 n0 n1 h = some (v, h1)) (hp : plainO v = false) : rn 49 #[v0, .int .i64 n0, .int .i64 n1] h = some (v, h1) := by rw [t49 hh, trunc_not hp]

end Go.AM

end

section

/- Cut: call by call, those without which less can flow. -/
namespace Go.AM
open Go.Proofs
/-- How many calls more must be left out. -/
def mcP (l : List Kl) (s t : Int) (gone : Nat) : Nat := GM 1000 t (maskL l (goneD gone)) (fun p => p == s)

/-- What Cut has after some calls: the calls, as a set too, and how much still flows. -/
def cutG (l : List Kl) (s t : Int) (i : Nat) (_ : Kl) (z : List Int × Nat × Nat) : List Int × Nat × Nat :=
  if mcP l s t (z.2.1 ||| 2 ^ i) < z.2.2 then (z.1 ++ [(i : Int)], z.2.1 ||| 2 ^ i, mcP l s t (z.2.1 ||| 2 ^ i)) else z

def cutP (l : List Kl) (s t : Int) : List Int := (foldI (cutG l s t) l 0 ([], 0, mcP l s t 0)).1

theorem pairP_parts {n s t : Int} {l : List Kl} (h : pairP n l s t = true) : validP n l = true ∧ (0 ≤ s ∧ s < n) ∧ (0 ≤ t ∧ t < n) ∧ s ≠ t := by
  unfold pairP at h
  simp only [Bool.and_eq_true, decide_eq_true_eq, Bool.not_eq_true', beq_eq_false_iff_ne] at h
  exact ⟨h.1.1.1, h.1.1.2, h.1.2, h.2⟩

theorem mcP_le {l : List Kl} {s t : Int} (hst : s ≠ t) (gone : Nat) : mcP l s t gone ≤ l.length := by
  have := GM_len (K := 1000) (t := t) (cs := maskL l (goneD gone)) (X := fun p => p == s) (by simpa using Ne.symm hst)
  rwa [maskL_len] at this

theorem k82 {R : Type} {n s t : Int} {sl : Value} {l : List Kl} {h : H} (hs : SlR h 56 3 sl (l.map Kl.cells)) (K : Value → H → Option R) : calls rn h 82 [.agg #[iv n, sl], iv s, iv t] K = K (.bool (pairP n l s t)) h := by
  refine calls_eq (xs := [_, _, _]) ?_
  have x1 : Ext h (h.new (.row [iv n, sl] 31 true)) := .new _ _
  refine p82 (k := 0) (h1 := h.new (.row [iv n, sl] 31 true)) ?_ rfl x1
  have hb : ∀ (m o : Nat), (h.new (.row [iv n, sl] 31 true)).rd h.nx o m = if o + m ≤ 2 then some (([iv n, sl].drop o).take m) else none := fun m o => rd_of (blk_new_self _ _)
  unfold f82
  rw [bx_eq]
  simp only [nx_eq, d31, Value.cells]
  rw [hb, if_pos (by omega), Option.bind_some]
  show calls rn _ 71 [.agg #[iv n, sl]] _ = _
  rw [k71 (hs.ext x1), asB_bool]
  cases hv : validP n l with
  | false => simp only [ifB_false, pairP, hv]; rfl
  | true =>
    rw [ifB_true, hb, if_pos (by omega), Option.bind_some]
    show calls rn _ 72 [.agg #[iv n, sl], iv s] _ = _
    rw [k72, asB_bool]
    by_cases hsn : 0 ≤ s ∧ s < n
    · rw [decide_eq_true hsn, ifB_true, hb, if_pos (by omega), Option.bind_some]
      show calls rn _ 72 [.agg #[iv n, sl], iv t] _ = _
      rw [k72, asB_bool]
      by_cases htn : 0 ≤ t ∧ t < n
      · rw [decide_eq_true htn, ifB_true]
        simp only [pairP, hv, decide_eq_true hsn, decide_eq_true htn]
        rfl
      · rw [decide_eq_false htn, ifB_false]
        simp only [pairP, decide_eq_false htn]
        simp
    · rw [decide_eq_false hsn, ifB_false]
      simp only [pairP, decide_eq_false hsn]
      simp

/-- How much flows, in short. -/
theorem s83g {n : Nat} {l : List Kl} {gone : Nat} {sl : Value} {h : H} {s t : Int} (hs : SlR h 56 3 sl (l.map Kl.cells)) (hv : pairP n l s t = true) (hgn : gone < 2 ^ 62) :
    ∃ h' nb, rn 83 #[.agg #[iv n, sl], iv s, iv t, iv gone] h = some (.tuple #[pt nb 0, iv (mcP l s t gone)], h') ∧ Ext h h' := by
  obtain ⟨h1, h2, h3, h4⟩ := pairP_parts hv
  obtain ⟨h', lo, nb, rb, xb, nxs, r, k, e, nt, mf, x, _⟩ := s83 hs h1 hgn h2 h3 h4
  refine ⟨h', nb, ?_, x⟩
  rw [e, mf.gm]
  rfl

theorem s49_bad {n s t : Int} {sl : Value} {l : List Kl} {h : H} (hs : SlR h 56 3 sl (l.map Kl.cells)) (hp : pairP n l s t = false) : ∃ h', rn 49 #[.agg #[iv n, sl], iv s, iv t] h = some (.tuple #[.slice none 0 0, iv 2], h') ∧ Ext h h' := by
  have x1 : Ext h (h.new (.row [iv n, sl] 31 true)) := .new _ _
  refine ⟨_, x49 (k := 0) (h1 := h.new (.row [iv n, sl] 31 true)) ?_ rfl, x1⟩
  have hb : ∀ (m o : Nat), (h.new (.row [iv n, sl] 31 true)).rd h.nx o m = if o + m ≤ 2 then some (([iv n, sl].drop o).take m) else none := fun m o => rd_of (blk_new_self _ _)
  unfold f49
  rw [bx_eq]
  simp only [nx_eq, d31, Value.cells]
  rw [hb, if_pos (by omega), Option.bind_some]
  show calls rn _ 82 [.agg #[iv n, sl], iv s, iv t] _ = _
  rw [k82 (hs.ext x1), asB_bool, hp]
  rfl

theorem cutG_ok {l : List Kl} {s t : Int} {i : Nat} {c : Kl} {z : List Int × Nat × Nat} (h1 : z.1.length ≤ i) (h2 : z.2.1 < 2 ^ i) (h3 : z.2.2 = mcP l s t z.2.1) :
    (cutG l s t i c z).1.length ≤ i + 1 ∧ (cutG l s t i c z).2.1 < 2 ^ (i + 1) ∧ (cutG l s t i c z).2.2 = mcP l s t (cutG l s t i c z).2.1 := by
  have : (2 : Nat) ^ i < 2 ^ (i + 1) := Nat.pow_lt_pow_right (by decide) (by omega)
  unfold cutG
  split
  · refine ⟨by simp; omega, Nat.or_lt_two_pow (by omega) this, rfl⟩
  · exact ⟨by omega, by omega, h3⟩

theorem s49 {n : Nat} {s t : Int} {sl : Value} {l : List Kl} {h : H} (hs : SlR h 56 3 sl (l.map Kl.cells)) (hp : pairP n l s t = true) :
    ∃ v h', rn 49 #[.agg #[iv n, sl], iv s, iv t] h = some (.tuple #[v, iv 0], h') ∧ Ext h h' ∧ SlR h' 3 1 v (cellsI (cutP l s t)) := by
  obtain ⟨hv, hsn, htn, hst⟩ := pairP_parts hp
  have hl24 := (validP_ok hv).2.2.1
  generalize e1 : h.new (.row [iv n, sl] 31 true) = h1
  have n1 : h1.nx = h.nx + 1 := by rw [← e1]; rfl
  have x1 : Ext h h1 := by rw [← e1]; exact .new _ _
  have b1 : h1.blk h.nx = some (.row [iv n, sl] 31 true) := by rw [← e1, blk_new, if_pos rfl]
  generalize e2 : h1.new (.row [] 3 true) = h2
  have n2 : h2.nx = h.nx + 2 := by rw [← e2]; show h1.nx + 1 = _; omega
  have x2 : Ext h1 h2 := by rw [← e2]; exact .new _ _
  have a2 : AqR h1.nx h2 3 1 (.slice (some ⟨h1.nx, 0, none⟩) 0 0) (cellsI []) := by rw [← e2]; exact AqR.lit (l := []) (Nat.le_refl _) rfl (by simp) (by simp)
  obtain ⟨h3, nb, c83, x3⟩ := s83g (gone := 0) (hs.ext (x1.trans x2)) hp (by decide)
  have x13 := x2.trans x3
  obtain ⟨ws', g, q1, hx, hlen, hg, hm, v, ha, rfl⟩ := lp_for (k := 1000) (l := l) (F := f49_l1 rn 1000 s t h l.length) (cutG l s t)
    (fun i z ws g => Ext h1 g ∧ z.1.length ≤ i ∧ z.2.1 < 2 ^ i ∧ z.2.2 = mcP l s t z.2.1 ∧ ∃ v, AqR h1.nx g 3 1 v (cellsI z.1) ∧ ws = [v, iv z.2.1, iv z.2.2, iv i]) 0
    (ws := [.slice (some ⟨h1.nx, 0, none⟩) 0 0, iv 0, iv (mcP l s t 0), iv 0]) (h := h3) (s0 := ([], 0, mcP l s t 0))
    ⟨x13, Nat.le_refl _, Nat.zero_lt_one, rfl, _, a2.ext x3, rfl⟩ (by omega)
    (fun z ws g hI => by
      obtain ⟨hx, hlen, hg, hm, v, ha, rfl⟩ := hI
      unfold f49_l1
      simp only [gv, List.getD_cons_zero, List.getD_cons_succ, asI_int]
      rw [lt_f (by omega), ifB_false]; rfl)
    (fun i c z ws g hc hI => by
      obtain ⟨hx, hlen, hg, hm, v, ha, rfl⟩ := hI
      have hi := (List.getElem?_eq_some_iff.1 hc).1
      have hgo := cutG_ok (l := l) (s := s) (t := t) (c := c) hlen hg hm
      have p1 : (2 : Nat) ^ i < 2 ^ 24 := Nat.pow_lt_pow_right (by decide) (by omega)
      have hor : z.2.1 ||| 2 ^ i < 2 ^ 24 := Nat.or_lt_two_pow (by omega) p1
      have bg : g.blk h.nx = some (.row [iv n, sl] 31 true) := by rw [hx.blk _ (by omega), b1]
      obtain ⟨h6, nb6, c6, x6⟩ := s83g (gone := z.2.1 ||| 2 ^ i) (hs.ext (x1.trans hx)) hp (by omega)
      have hm6 := mcP_le (l := l) hst (z.2.1 ||| 2 ^ i)
      have hm0 := mcP_le (l := l) hst z.2.1
      have start : f49_l1 rn 1000 s t h l.length [v, iv z.2.1, iv z.2.2, iv i] g = (if mcP l s t (z.2.1 ||| 2 ^ i) < z.2.2 then
          bls Try.prog h6 25 1 [(0, iv i)] fun v13 h7 => app Try.prog h7 25 25 v v13 fun v14 h8 => some (.normal, [v14, iv (z.2.1 ||| 2 ^ i : Nat), iv (mcP l s t (z.2.1 ||| 2 ^ i)), iv (i + 1 : Nat)], h8)
          else some (.normal, [v, iv z.2.1, iv z.2.2, iv (i + 1 : Nat)], h6)) := by
        unfold f49_l1
        simp only [gv, List.getD_cons_zero, List.getD_cons_succ, asI_int, asK_int]
        rw [lt_t (by omega), ifB_true]
        simp only [nx_eq, d31]
        rw [rd_all (n := 2) bg rfl, Option.bind_some]
        unfold AM.nn
        rw [if_neg (by omega), shl1_nat (by omega), or_nat (by omega) (by omega)]
        refine (calls_eq (xs := [_, _, _, _]) c6).trans ?_
        rw [ext20, ext21, asI_int]
        rw [add64 (by omega) (by omega)]
        by_cases hlt : mcP l s t (z.2.1 ||| 2 ^ i) < z.2.2
        · rw [lt_t (by omega), ifB_true, if_pos hlt]
          simp only [if_neg (show ¬ ((i : Int) < 0) by omega)]
          rfl
        · rw [lt_f (by omega), ifB_false, if_neg hlt]
          rfl
      rw [start]
      have a6 := ha.ext x6
      by_cases hlt : mcP l s t (z.2.1 ||| 2 ^ i) < z.2.2
      · rw [if_pos hlt]
        obtain ⟨v', h9, e9, a9, n9, k9, b9, hb9, hb9'⟩ := a6.push app25 app25 (bls25 (i : Int)) rfl rfl (by simp; omega) (by have := x6.nx; have := hx.nx; omega)
        refine ⟨_, h9, e9 _, ⟨by have := hx.nx; have := x6.nx; omega, fun q hq => ?_⟩, hgo.1, hgo.2.1, hgo.2.2, v', ?_, ?_⟩
        · rw [k9 q (by have := hx.nx; have := x6.nx; omega) (fun e => by have := (a6.blkOf e).1; omega)]
          rw [x6.blk _ (by have := hx.nx; omega), hx.blk _ hq]
        · simp only [cutG, if_pos hlt]
          simpa using a9
        · simp only [cutG, if_pos hlt]
      · rw [if_neg hlt]
        refine ⟨_, h6, rfl, hx.trans x6, hgo.1, hgo.2.1, hgo.2.2, v, ?_, ?_⟩
        · simp only [cutG, if_neg hlt]; exact a6
        · simp only [cutG, if_neg hlt])
  refine ⟨v, g, x49 (k := 1000) ?_ (by obtain ⟨x, y, z, hz⟩ := ha.isSl; rw [hz]; rfl), x1.trans hx, ha.slR⟩
  unfold f49
  rw [bx_eq]
  simp only [nx_eq, d31, d29, Value.cells]
  rw [e1, rd_all (n := 2) b1 rfl, Option.bind_some]
  refine (k82 (hs.ext x1) _).trans ?_
  rw [asB_bool, hp, Bool.not_true, ifB_false, bls_some (bls25e h1), e2]
  have b2 : h2.blk h.nx = some (.row [iv n, sl] 31 true) := by rw [x2.blk _ (by omega), b1]
  have b3 : h3.blk h.nx = some (.row [iv n, sl] 31 true) := by rw [x3.blk _ (by omega), b2]
  rw [rd_all (n := 2) b2 rfl, Option.bind_some]
  refine (calls_eq (xs := [_, _, _, _]) c83).trans ?_
  rw [ext20, ext21, asI_int, cell_of b3, show off 0 1 = 1 from rfl]
  simp only [List.getElem?_cons_succ, List.getElem?_cons_zero, Option.bind_some]
  rw [(hs.ext (x1.trans x13)).len, List.length_map, lp_eq q1, onE_exit, if_pos rfl]
  rfl

end Go.AM

end

section

/- The staged forms of functions 108, 109, 114, 117, 119, 120, and what calls of these answer. -/
namespace Go.AM
open Go.Proofs
noncomputable def f119_l1 (rec : Rec) (_k : Nat) (v0 : Value) (n1 : Int) (v1 : Value) (ws0 : List Value) (h1 : H) : Option (Ex × List Value × H) :=
  asI .i64 (gv ws0 0) fun n3 =>
  asI .i64 (gv ws0 1) fun n4 =>
  ifB (not (eq n3 n4)) (
    asI .i64 (gv ws0 0) fun n5 =>
    asI .i64 (gv ws0 1) fun n6 =>
    ifB (lt n6 n5) (
      asI .i64 (gv ws0 0) fun n7 =>
      calls rec h1 120 [v0, (.int .i64 (sub .i64 n1 n7)), (.int .i64 n1), gv ws0 1, v1] fun _ h2 =>
      asI .i64 (gv ws0 0) fun n8 =>
      asI .i64 (gv ws0 1) fun n9 =>
      out .normal [(.int .i64 (sub .i64 n8 n9)), gv ws0 1] h2) (
      asI .i64 (gv ws0 0) fun n10 =>
      asI .i64 (gv ws0 1) fun n11 =>
      asI .i64 (gv ws0 0) fun n12 =>
      calls rec h1 120 [v0, (.int .i64 (sub .i64 n1 n10)), (.int .i64 (sub .i64 (add .i64 n1 n11) n12)), gv ws0 0, v1] fun _ h3 =>
      asI .i64 (gv ws0 1) fun n13 =>
      asI .i64 (gv ws0 0) fun n14 =>
      out .normal [gv ws0 0, (.int .i64 (sub .i64 n13 n14))] h3)) (
    out (.exit 0) [gv ws0 0, gv ws0 1] h1)

noncomputable def f119 (rec : Rec) (k : Nat) (v0 : Value) (n0 : Int) (n1 : Int) (n2 : Int) (v1 : Value) (h0 : H) : Option (Value × H) :=
  lp k (f119_l1 rec k v0 n1 v1) [(.int .i64 (sub .i64 n1 n0)), (.int .i64 (sub .i64 n2 n1))] h0 fun e0 ws1 h4 =>
  onE e0 0 (
    asI .i64 (gv ws1 0) fun n15 =>
    calls rec h4 120 [v0, (.int .i64 (sub .i64 n1 n15)), (.int .i64 n1), gv ws1 0, v1] fun _ h5 =>
    some (undef, h5)) (
    none)

theorem e119 (rec : Rec) (k : Nat) (v0 : Value) (n0 : Int) (n1 : Int) (n2 : Int) (v1 : Value) (h : H) : bodyT Try.prog E0 SC (XC Try.prog rec k) 119 (Value × H) [.opq v0, .int .i64 n0, .int .i64 n1, .int .i64 n2, .opq v1] h (fun v h => some (v, h)) = f119 rec k v0 n0 n1 n2 v1 h := by kernel_rfl

theorem t119 {k : Nat} {v0 : Value} {n0 : Int} {n1 : Int} {n2 : Int} {v1 : Value} {h h1 : H} {v : Value} (hh : f119 rn k v0 n0 n1 n2 v1 h = some (v, h1)) : rn 119 #[v0, .int .i64 n0, .int .i64 n1, .int .i64 n2, v1] h = some (v, trunc Try.prog h h1 v) :=
  run_of_bodyT (args := [.opq v0, .int .i64 n0, .int .i64 n1, .int .i64 n2, .opq v1]) rfl ((e119 _ _ _ _ _ _ _ _).trans hh)

theorem x119 {k : Nat} {v0 : Value} {n0 : Int} {n1 : Int} {n2 : Int} {v1 : Value} {h h1 : H} {v : Value} (hh : f119 rn k v0 n0 n1 n2 v1 h = some (v, h1)) (hp : plainO v = false) : rn 119 #[v0, .int .i64 n0, .int .i64 n1, .int .i64 n2, v1] h = some (v, h1) := by rw [t119 hh, trunc_not hp]

end Go.AM

end

section

/- PLAIN: the log backward. -/
namespace Go.AM
def turnK (c : Kl) : Kl := ⟨c.a, c.b, 31 - c.t⟩

def bkt (L : List Kl) : List Kl := (List.range 30).flatMap fun (x : Nat) => L.filter fun y => decide (y.t = ((x + 1 : Nat) : Int))

theorem flat_perm {α : Type} (f : α → Int) (T : List α) : ∀ n : Nat, ((List.range n).flatMap fun (x : Nat) => T.filter fun y => decide (f y = ((x + 1 : Nat) : Int))).Perm (T.filter fun y => decide (1 ≤ f y ∧ f y ≤ n))
  | 0 => by
    have : (T.filter fun y => decide (1 ≤ f y ∧ f y ≤ ((0 : Nat) : Int))) = [] := by
      rw [List.filter_eq_nil_iff]; intro x _; simp; omega
    rw [this]; exact .refl _
  | n + 1 => by
    rw [List.range_succ, List.flatMap_append]
    refine ((flat_perm f T n).append_right _).trans ?_
    simp only [List.flatMap_cons, List.flatMap_nil, List.append_nil]
    induction T with
    | nil => exact .refl _
    | cons a T ih =>
      simp only [List.filter_cons]
      by_cases h1 : 1 ≤ f a ∧ f a ≤ n
      · rw [if_pos (by simpa using h1), if_neg (by simp; omega), if_pos (by simp; omega)]
        exact ih.cons a
      · rw [if_neg (by simpa using h1)]
        by_cases h2 : f a = ((n + 1 : Nat) : Int)
        · rw [if_pos (by simpa using h2), if_pos (by simp; omega)]
          exact List.perm_middle.trans (ih.cons a)
        · rw [if_neg (by simpa using h2), if_neg (by simp; omega)]
          exact ih

theorem filter_all {α : Type} {T : List α} {f : α → Int} (h : ∀ y ∈ T, 1 ≤ f y ∧ f y ≤ 30) : (T.filter fun y => decide (1 ≤ f y ∧ f y ≤ ((30 : Nat) : Int))) = T :=
  List.filter_eq_self.2 fun y hy => by simpa using h y hy

def turnP (L : List Kl) : List Kl := bkt (L.map turnK)

/-! ### Valid logs -/
/-- No two calls at one time share a person. -/
def apartK (c d : Kl) : Prop := c.t ≤ d.t ∧ (c.t = d.t → c.a ≠ d.a ∧ c.a ≠ d.b ∧ c.b ≠ d.a ∧ c.b ≠ d.b)

structure VP (n : Int) (l : List Kl) : Prop where
  n1 : 1 ≤ n
  n7 : n ≤ 7
  len : l.length ≤ 24
  ok : ∀ c ∈ l, okC n c = true
  two : l.Pairwise apartK

theorem clash_f {c d : Kl} : clash c d = false ↔ (d.t = c.t → d.a ≠ c.a ∧ d.a ≠ c.b ∧ d.b ≠ c.a ∧ d.b ≠ c.b) := by
  unfold clash Kl.has
  simp
  constructor
  · intro h e
    have := h e
    grind
  · intro h e
    have := h e
    grind

theorem vp_iff {n : Int} {l : List Kl} : validP n l = true ↔ VP n l := by
  constructor
  · intro h
    obtain ⟨h1, h2, h3, h4⟩ := validP_ok h
    refine ⟨h1, h2, by omega, fun c hc => ?_, ?_⟩
    · obtain ⟨i, hi⟩ := List.getElem?_of_mem hc
      have := h4 i c hi
      first | exact this | exact this.1
    · rw [List.pairwise_iff_getElem]
      intro i j hi hj hij
      obtain ⟨q1, q2⟩ := validP_sorted h hij (List.getElem?_eq_getElem hi) (List.getElem?_eq_getElem hj)
      exact ⟨q1, fun e => (clash_f.1 q2) e⟩
  · rintro ⟨h1, h2, h3, h4, h5⟩
    unfold validP
    simp only [Bool.and_eq_true, Bool.not_eq_true', decide_eq_false_iff_not, Int.not_lt, List.all_eq_true, List.mem_range]
    refine ⟨⟨⟨h1, h2⟩, by omega⟩, fun i hi => ?_⟩
    unfold rowOk
    rw [List.getElem?_eq_getElem hi]
    simp only [Bool.and_eq_true, Bool.not_eq_true']
    refine ⟨⟨h4 _ (List.getElem_mem hi), ?_⟩, ?_⟩
    · by_cases h0 : 0 < i
      · have h6 : i - 1 < l.length := by omega
        have := (List.pairwise_iff_getElem.1 h5 (i - 1) i h6 hi (by omega)).1
        simp [h6]
        omega
      · simp [h0]
    · rw [List.any_eq_false]
      intro d hd
      obtain ⟨j, hj⟩ := List.getElem?_of_mem hd
      have hji : j < i := by have := (List.getElem?_eq_some_iff.1 hj).1; rw [List.length_take] at this; omega
      rw [List.getElem?_take_of_lt hji] at hj
      obtain ⟨hj1, rfl⟩ := List.getElem?_eq_some_iff.1 hj
      have := (List.pairwise_iff_getElem.1 h5 j i hj1 hi hji).2
      rw [Bool.not_eq_true, clash_f]
      exact this

theorem mem_bkt {L : List Kl} {c : Kl} (h : c ∈ bkt L) : c ∈ L := by
  unfold bkt at h
  rw [List.mem_flatMap] at h
  obtain ⟨x, _, h⟩ := h
  exact (List.mem_filter.1 h).1

theorem bkt_perm {L : List Kl} (h : ∀ y ∈ L, 1 ≤ y.t ∧ y.t ≤ 30) : (bkt L).Perm L := by
  have := flat_perm (fun y : Kl => y.t) L 30
  rw [filter_all h] at this
  exact this

theorem ok_t {n : Int} {c : Kl} (h : okC n c = true) : 1 ≤ c.t ∧ c.t ≤ 30 := (okC_iff.1 h).2.2.2

theorem ok_turn {n : Int} {c : Kl} (h : okC n c = true) : okC n (turnK c) = true := by
  rw [okC_iff] at *
  simp only [turnK]
  omega

theorem VP.tOk {n : Int} {l : List Kl} (v : VP n l) : ∀ y ∈ l.map turnK, 1 ≤ y.t ∧ y.t ≤ 30 := by
  intro y hy
  obtain ⟨x, hx, rfl⟩ := List.mem_map.1 hy
  exact ok_t (ok_turn (v.ok x hx))

/-- Calls of different places are apart if their times are the same. -/
theorem two_flat {L : List Kl} (h : L.Pairwise fun c d => c.t = d.t → c.a ≠ d.a ∧ c.a ≠ d.b ∧ c.b ≠ d.a ∧ c.b ≠ d.b) : ∀ n : Nat, ((List.range n).flatMap fun (x : Nat) => L.filter fun y => decide (y.t = ((x + 1 : Nat) : Int))).Pairwise apartK
  | 0 => List.Pairwise.nil
  | n + 1 => by
    rw [List.range_succ, List.flatMap_append, List.pairwise_append]
    refine ⟨two_flat h n, ?_, ?_⟩
    · simp only [List.flatMap_cons, List.flatMap_nil, List.append_nil]
      have h1 := List.Pairwise.filter (fun y : Kl => decide (y.t = ((n + 1 : Nat) : Int))) h
      refine h1.imp_of_mem fun {x y} hx hy h => ?_
      simp at hx hy
      exact ⟨by omega, h⟩
    · intro x hx y hy
      simp at hx hy
      exact ⟨by omega, fun e => by omega⟩

theorem VP.turn {n : Int} {l : List Kl} (v : VP n l) : VP n (turnP l) := by
  refine ⟨v.n1, v.n7, ?_, fun c hc => ?_, ?_⟩
  · have := (bkt_perm v.tOk).length_eq
    rw [List.length_map] at this
    have := v.len
    unfold turnP
    omega
  · obtain ⟨x, hx, rfl⟩ := List.mem_map.1 (mem_bkt hc)
    exact ok_turn (v.ok x hx)
  · refine two_flat ?_ 30
    rw [List.pairwise_map]
    exact v.two.imp fun {c d} h e => h.2 (by simp only [turnK] at e; omega)

end Go.AM

end

section

/- PLAIN: ways in time are walks through calls; one way after the other is taken. -/
namespace Go.AM
open Go.Proofs
/-- The set of a way's calls. -/
def maskN (w : List Int) : Nat := w.foldl (fun a i => a ||| 2 ^ i.toNat) 0

theorem maskN_go : ∀ (w : List Int) (a j : Nat), (w.foldl (fun a i => a ||| 2 ^ i.toNat) a).testBit j = (a.testBit j || w.any fun i => i.toNat == j) := by
  intro w
  induction w with
  | nil => intro a j; simp
  | cons i w ih =>
    intro a j
    rw [List.foldl_cons, ih, Nat.testBit_or, Nat.testBit_two_pow, List.any_cons, Bool.or_assoc]
    congr 2

theorem maskN_bit (w : List Int) (j : Nat) : (maskN w).testBit j = true ↔ ∃ i ∈ w, i.toNat = j := by
  unfold maskN
  rw [maskN_go]
  simp

theorem maskN_lt {w : List Int} {m : Nat} (h : ∀ i ∈ w, i.toNat < m) : maskN w < 2 ^ m := by
  refine Nat.lt_of_not_le fun hc => ?_
  obtain ⟨j, hj, hb⟩ := Nat.exists_ge_and_testBit_of_ge_two_pow hc
  obtain ⟨i, hi, e⟩ := (maskN_bit w j).1 hb
  have := h i hi
  omega

theorem oth_a {c : Kl} {p : Int} (h : c.a = p) : c.oth p = c.b := by unfold Kl.oth; omega

theorem oth_b {c : Kl} {p : Int} (h : c.b = p) : c.oth p = c.a := by unfold Kl.oth; omega

theorem two_get {l : List Kl} (h : l.Pairwise apartK) {i j : Nat} {c d : Kl} (hc : l[i]? = some c) (hd : l[j]? = some d) (hij : i < j) : apartK c d := by
  obtain ⟨hi, e1⟩ := List.getElem?_eq_some_iff.1 hc
  obtain ⟨hj, e2⟩ := List.getElem?_eq_some_iff.1 hd
  have := List.pairwise_iff_getElem.1 h i j hi hj hij
  rw [e1, e2] at this
  exact this

/-- A way in time is a walk. -/
theorem run_walk {n : Int} {l : List Kl} (v : VP n l) {d : Nat → Bool} : ∀ (w : List Int) (st st' : Int × Int × Int) (m : Nat), (∀ (k : Nat) (c : Kl), k < m → l[k]? = some c → c.t ≤ st.2.1) → runP l w st = some st' → (∀ i ∈ w, d i.toNat = false) →
    runW (maskL l d) (w.map Int.toNat) st.1 = some st'.1 ∧ Asc m (w.map Int.toNat) := by
  intro w
  induction w with
  | nil => intro st st' m _ h _; cases h; exact ⟨rfl, trivial⟩
  | cons i w ih =>
    intro st st' m hm h hd
    simp only [runP] at h
    split at h
    · rename_i hi
      split at h
      · cases h
      · rename_i c hc
        split at h
        · rename_i hg
          obtain ⟨g1, g2, g3, _⟩ := goes_spec v.n7 (v.ok c (List.mem_of_getElem? hc)) hg
          have hdi := hd i List.mem_cons_self
          obtain ⟨r1, r2⟩ := ih _ st' (i.toNat + 1) (fun k c' hk hc' => by
            simp only
            rcases Nat.lt_or_ge k i.toNat with h1 | h1
            · exact (two_get v.two hc' hc h1).1
            · have : k = i.toNat := by omega
              subst this
              rw [hc] at hc'; cases hc'; exact Int.le_refl _) h fun j hj => hd j (List.mem_cons_of_mem _ hj)
          simp only at r1
          refine ⟨?_, ?_, r2⟩
          · simp only [List.map_cons, runW, maskL_get, hc, Option.map_some, hdi, Bool.not_false]
            unfold Kl.has at g2
            simp only [Bool.or_eq_true, beq_iff_eq] at g2
            by_cases ha : c.a = st.1
            · rw [if_pos ha]; rw [oth_a ha] at r1; exact r1
            · rw [if_neg ha]
              have hb := g2.resolve_left ha
              rw [if_pos hb]; rw [oth_b hb] at r1; exact r1
          · rcases Nat.lt_or_ge i.toNat m with h1 | h1
            · have := hm _ _ h1 hc; omega
            · exact h1
        · cases h
    · cases h

theorem vis_nn {n : Int} {l : List Kl} (v : VP n l) {d : Nat → Bool} : ∀ (w : List Nat) (q x : Int), x ∈ visits (maskL l d) w q → 0 ≤ x := by
  intro w
  induction w with
  | nil => intro q x hx; cases hx
  | cons j w ihw =>
    intro q x hx
    simp only [visits, maskL_get] at hx
    cases hj : l[j]? with
    | none => rw [hj] at hx; cases hx
    | some c' =>
      rw [hj] at hx
      obtain ⟨o1, o2, _⟩ := okC_iff.1 (v.ok c' (List.mem_of_getElem? hj))
      simp only [Option.map_some] at hx
      cases hdj : d j with
      | true => rw [hdj] at hx; cases hx
      | false =>
        rw [hdj] at hx
        simp only [Bool.not_false] at hx
        split at hx
        · rcases List.mem_cons.1 hx with h | h
          · rw [h]; exact o2.1
          · exact ihw _ _ h
        · split at hx
          · rcases List.mem_cons.1 hx with h | h
            · rw [h]; exact o1.1
            · exact ihw _ _ h
          · cases hx

/-- A walk that meets nobody twice is a way in time. -/
theorem walk_run {n : Int} {l : List Kl} (v : VP n l) {d : Nat → Bool} {t : Int} : ∀ (w : List Nat) (p tm : Int) (K m : Nat), K < 2 ^ 7 → runW (maskL l d) w p = some t → Asc m w →
    (∀ (k : Nat) (c : Kl), m ≤ k → l[k]? = some c → c.has p = true → tm < c.t) → (∀ q ∈ visits (maskL l d) w p, K.testBit q.toNat = false) → (visits (maskL l d) w p).Nodup →
    ∃ st', runP l (w.map fun (i : Nat) => (i : Int)) (p, tm, (K : Int)) = some st' ∧ st'.1 = t := by
  intro w
  induction w with
  | nil => intro p tm K m _ h _ _ _ _; cases h; exact ⟨_, rfl, rfl⟩
  | cons i w ih =>
    intro p tm K m hK h ha hT hs hn
    simp only [runW, maskL_get] at h
    simp only [visits, maskL_get] at hs hn
    cases hc : l[i]? with
    | none => rw [hc] at h; cases h
    | some c =>
      rw [hc] at h hs hn
      simp only [Option.map_some] at h hs hn
      cases hd : d i with
      | true => rw [hd] at h; cases h
      | false =>
        rw [hd] at h hs hn
        simp only [Bool.not_false] at h hs hn
        have hil := (List.getElem?_eq_some_iff.1 hc).1
        have hok := v.ok c (List.mem_of_getElem? hc)
        obtain ⟨ok1, ok2, ok3, _⟩ := okC_iff.1 hok
        have n7 := v.n7
        have fin : ∀ q, c.has p = true → c.oth p = q → (0 ≤ q ∧ q < n) → c.has q = true → runW (maskL l d) w q = some t → (∀ x ∈ q :: visits (maskL l d) w q, K.testBit x.toNat = false) → (q :: visits (maskL l d) w q).Nodup → ∃ st', runP l ((i :: w).map fun (i : Nat) => (i : Int)) (p, tm, (K : Int)) = some st' ∧ st'.1 = t := by
          intro q hp hq hqn hqc hr hs hn
          obtain ⟨e1, e2⟩ := withP_nat (p := q) hK ⟨hqn.1, by omega⟩
          rw [List.nodup_cons] at hn
          obtain ⟨st', r1, r2⟩ := ih q c.t (K ||| 2 ^ q.toNat) (i + 1) e2 hr ha.2 (fun k c' hk hc' hq' => by
            have h2 := two_get v.two hc hc' (show i < k by omega)
            rcases Int.lt_or_eq_of_le h2.1 with h3 | h3
            · exact h3
            · exfalso
              obtain ⟨h4, h5, h6, h7⟩ := h2.2 h3
              unfold Kl.has at hqc hq'
              simp only [Bool.or_eq_true, beq_iff_eq] at hqc hq'
              rcases hqc with h | h <;> rcases hq' with h' | h'
              · exact h4 (by rw [h, h'])
              · exact h5 (by rw [h, h'])
              · exact h6 (by rw [h, h'])
              · exact h7 (by rw [h, h'])) (fun x hx => by
            rw [Nat.testBit_or, hs x (List.mem_cons_of_mem _ hx), Nat.testBit_two_pow]
            simp only [Bool.false_or, decide_eq_false_iff_not]
            intro e
            have hx0 : 0 ≤ x := by
              exact vis_nn v _ _ x hx
            have e2 : x = q := by omega
            rw [e2] at hx
            exact hn.1 hx) hn.2
          refine ⟨st', ?_, r2⟩
          simp only [List.map_cons, runP]
          rw [if_pos ⟨by omega, by omega⟩, Int.toNat_natCast, hc]
          simp only
          have hgo : goes c p tm (K : Int) = true := by
            unfold goes
            rw [hq, inP_nat hK ⟨hqn.1, by omega⟩, hs q List.mem_cons_self, hp]
            have := hT i c ha.1 hc hp
            simp; omega
          rw [if_pos hgo, hq, e1]
          exact r1
        have hasA : c.has c.a = true := by simp [Kl.has]
        have hasB : c.has c.b = true := by simp [Kl.has]
        by_cases h1 : c.a = p
        · rw [if_pos h1] at h hs hn
          exact fin c.b (by rw [← h1]; exact hasA) (oth_a h1) ok2 hasB h hs hn
        · rw [if_neg h1] at h hs hn
          by_cases h2 : c.b = p
          · rw [if_pos h2] at h hs hn
            exact fin c.a (by rw [← h2]; exact hasB) (oth_b h2) ok1 hasA h hs hn
          · rw [if_neg h2] at h; cases h

theorem way_walk {n s t : Int} {l : List Kl} (v : VP n l) (hs : 0 ≤ s ∧ s < n) (hst : s ≠ t) {d : Nat → Bool} {w : List Int} (hw : w ∈ allWays l s t) (hd : ∀ i ∈ w, d i.toNat = false) :
    runW (maskL l d) (w.map Int.toNat) s = some t ∧ Asc 0 (w.map Int.toNat) := by
  obtain ⟨st', h1, h2⟩ := (check_run (vp_iff.2 v) hs w).1 ((mem_all (vp_iff.2 v) hst w).1 hw)
  obtain ⟨r1, r2⟩ := run_walk v w (st0 s) st' 0 (fun k c hk => by omega) h1 hd
  rw [h2] at r1
  exact ⟨r1, r2⟩

/-- A walk holds a way in time. -/
theorem walk_ways {n s t : Int} {l : List Kl} (v : VP n l) (hs : 0 ≤ s ∧ s < n) (hst : s ≠ t) {d : Nat → Bool} {w : List Nat} (hw : runW (maskL l d) w s = some t) (ha : Asc 0 w) :
    ∃ w' ∈ allWays l s t, ∀ i ∈ w', 0 ≤ i ∧ i.toNat ∈ w := by
  have hne : ∀ (i : Nat) (c : Kl × Bool), (maskL l d)[i]? = some c → c.1.a ≠ c.1.b := by
    intro i c hc
    rw [maskL_get] at hc
    cases hi : l[i]? with
    | none => rw [hi] at hc; cases hc
    | some c' =>
      rw [hi] at hc
      cases hc
      exact (okC_iff.1 (v.ok c' (List.mem_of_getElem? hi))).2.2.1
  obtain ⟨u, h1, h2, h3, h4⟩ := walk_way hne w s 0 hw ha
  rw [List.nodup_cons] at h3
  have n7 := v.n7
  obtain ⟨k, rfl⟩ := Int.eq_ofNat_of_zero_le hs.1
  have hk : 2 ^ k < 2 ^ 7 := Nat.pow_lt_pow_right (by decide) (by omega)
  have vis0 : ∀ q ∈ visits (maskL l d) u (k : Int), 0 ≤ q := vis_nn v _ _
  obtain ⟨st', r1, r2⟩ := walk_run v u (k : Int) 0 (2 ^ k) 0 hk h1 h2 (fun i c _ hc _ => by
    have := (okC_iff.1 (v.ok c (List.mem_of_getElem? hc))).2.2.2.1
    omega) (fun q hq => by
    rw [Nat.testBit_two_pow, decide_eq_false_iff_not]
    intro e
    have := vis0 q hq
    have e2 : q = (k : Int) := by omega
    rw [e2] at hq
    exact h3.1 hq) h3.2
  refine ⟨u.map fun (i : Nat) => (i : Int), (mem_all (vp_iff.2 v) hst _).2 ((check_run (vp_iff.2 v) hs _).2 ⟨st', ?_, r2⟩), fun i hi => ?_⟩
  · unfold st0
    rw [shl1_nat (by omega)]
    exact r1
  · obtain ⟨j, hj, rfl⟩ := List.mem_map.1 hi
    exact ⟨by omega, by rw [Int.toNat_natCast]; exact h4 j hj⟩

theorem runW_mask {l : List Kl} {d d' : Nat → Bool} : ∀ (w : List Nat) (p : Int), (∀ i ∈ w, d' i = d i) → runW (maskL l d') w p = runW (maskL l d) w p := by
  intro w
  induction w with
  | nil => intro p _; rfl
  | cons i w ih =>
    intro p h
    have hi := h i List.mem_cons_self
    have ih' := fun p => ih p fun j hj => h j (List.mem_cons_of_mem _ hj)
    simp only [runW, maskL_get, hi, ih']

/-- A way that can be taken so that the others still are enough. -/
theorem pick_way {n s t : Int} {l : List Kl} (v : VP n l) (hs : 0 ≤ s ∧ s < n) (hst : s ≠ t) {r : Nat} (h : mcP l s t 0 = r + 1) : ∃ w ∈ allWays l s t, mcP l s t (maskN w) = r := by
  have hX : (fun p => p == s) t = false := by simpa using Ne.symm hst
  have l24 := v.len
  obtain ⟨ws, h1, h2⟩ := menger (K := 1000) (t := t) (maskL l (goneD 0)) (s := s) (k := r + 1) (Nat.le_of_eq h.symm)
  obtain ⟨w', hw', hsub⟩ := walk_ways v hs hst (h1 0 (by omega)).1 (h1 0 (by omega)).2
  refine ⟨w', hw', ?_⟩
  have lo : r ≤ mcP l s t (maskN w') := by
    refine GM_ge (ws := fun j => ws (j + 1)) (fun j hj => ⟨?_, (h1 (j + 1) (by omega)).2⟩) (fun j j' hj hj' hne => h2 _ _ (by omega) (by omega) (by omega)) (by have := mcP_le (l := l) hst 0; omega)
    rw [runW_mask (d := goneD 0)]
    · exact (h1 (j + 1) (by omega)).1
    · intro i hi
      have : goneD (maskN w') i = false := by
        rw [Bool.eq_false_iff]
        intro hb
        obtain ⟨x, hx, e⟩ := (maskN_bit w' i).1 hb
        have := (hsub x hx).2
        rw [e] at this
        exact h2 0 (j + 1) (by omega) (by omega) (by omega) i this hi
      rw [this]; simp
  have hi : mcP l s t (maskN w') + 1 ≤ mcP l s t 0 := by
    obtain ⟨q1, q2⟩ := way_walk v hs hst (d := goneD 0) hw' (fun i _ => by simp)
    refine GM_walk q1 q2 hst (by omega) fun i => ?_
    rw [maskN_bit]
    simp
  omega

/-! ### The calls that are left -/
/-- The calls of a set, with their places. -/
def partZ (l : List Kl) (left : Nat) : List (Kl × Nat) := l.zipIdx.filter fun q => left.testBit q.2

def partL (l : List Kl) (left : Nat) : List Kl := (partZ l left).map (·.1)

theorem partZ_get {l : List Kl} {left j : Nat} {q : Kl × Nat} (h : (partZ l left)[j]? = some q) : l[q.2]? = some q.1 ∧ left.testBit q.2 = true := by
  have h1 := List.mem_filter.1 (List.mem_of_getElem? h)
  have h2 := List.mem_zipIdx_iff_getElem?.1 h1.1
  exact ⟨h2, h1.2⟩

theorem partL_sub (l : List Kl) (left : Nat) : (partL l left).Sublist l := by
  unfold partL partZ
  have : (l.zipIdx.filter fun q => left.testBit q.2).Sublist l.zipIdx := List.filter_sublist
  have := this.map (·.1)
  rwa [List.zipIdx_map_fst] at this

theorem VP.part {n : Int} {l : List Kl} (v : VP n l) (left : Nat) : VP n (partL l left) :=
  ⟨v.n1, v.n7, Nat.le_trans (partL_sub l left).length_le v.len, fun c hc => v.ok c ((partL_sub l left).subset hc), v.two.sublist (partL_sub l left)⟩

/-- The places of a part's calls. -/
def placeZ (l : List Kl) (left : Nat) (i : Int) : Int := ((((partZ l left)[i.toNat]?).map (·.2)).getD 0 : Nat)

theorem placeZ_get {l : List Kl} {left : Nat} {i : Int} (h : i.toNat < (partL l left).length) : l[(placeZ l left i).toNat]? = (partL l left)[i.toNat]? ∧ left.testBit (placeZ l left i).toNat = true := by
  have hz : i.toNat < (partZ l left).length := by simpa [partL] using h
  obtain ⟨q, hq⟩ : ∃ q, (partZ l left)[i.toNat]? = some q := ⟨_, List.getElem?_eq_getElem hz⟩
  obtain ⟨h1, h2⟩ := partZ_get hq
  unfold placeZ partL
  rw [hq, List.getElem?_map, hq]
  simp only [Option.map_some, Option.getD_some, Int.toNat_natCast]
  exact ⟨h1, h2⟩

theorem GM_part {K : Nat} {t : Int} {l : List Kl} {left : Nat} {D : Nat → Bool} (hD : ∀ i, left.testBit i = false → D i = true) (X : Int → Bool) :
    GM K t (maskL l D) X = GM K t (maskL (partL l left) fun j => D (placeZ l left (j : Int)).toNat) X := by
  rw [← GM_filter (maskL l D), ← GM_filter (maskL (partL l left) _)]
  congr 1
  have e1 : maskL (partL l left) (fun j => D (placeZ l left (j : Int)).toNat) = (partZ l left).map fun q => (q.1, !D q.2) := by
    refine List.ext_getElem? fun j => ?_
    rw [maskL_get, List.getElem?_map]
    unfold partL placeZ
    rw [List.getElem?_map, Int.toNat_natCast]
    cases h : (partZ l left)[j]? <;> simp [h]
  rw [e1]
  unfold maskL partZ
  rw [List.filter_map, List.filter_map, List.filter_filter]
  congr 1
  refine List.filter_congr fun q _ => ?_
  simp only [Function.comp]
  cases hb : left.testBit q.2 with
  | true => simp
  | false => simp [hD q.2 hb]

theorem place_run {l : List Kl} {left : Nat} : ∀ (w : List Int) (st st' : Int × Int × Int), runP (partL l left) w st = some st' → runP l (w.map (placeZ l left)) st = some st' := by
  intro w
  induction w with
  | nil => intro st st' h; exact h
  | cons i w ih =>
    intro st st' h
    simp only [runP] at h
    split at h
    · rename_i hi
      have hg := placeZ_get (l := l) (left := left) (i := i) (by omega)
      split at h
      · cases h
      · rename_i c hc
        split at h
        · rename_i hgo
          rw [hc] at hg
          have hlt := (List.getElem?_eq_some_iff.1 hg.1).1
          simp only [List.map_cons, runP]
          have h0 : 0 ≤ placeZ l left i := by unfold placeZ; omega
          rw [if_pos ⟨h0, by omega⟩, hg.1]
          simp only
          rw [if_pos hgo]
          exact ih _ _ h
        · cases h
    · cases h

theorem place_way {n s t : Int} {l : List Kl} (v : VP n l) (hs : 0 ≤ s ∧ s < n) (hst : s ≠ t) {left : Nat} {w : List Int} (hw : w ∈ allWays (partL l left) s t) : w.map (placeZ l left) ∈ allWays l s t := by
  obtain ⟨st', h1, h2⟩ := (check_run (vp_iff.2 (v.part left)) hs w).1 ((mem_all (vp_iff.2 (v.part left)) hst w).1 hw)
  exact (mem_all (vp_iff.2 v) hst _).2 ((check_run (vp_iff.2 v) hs _).2 ⟨st', place_run w _ _ h1, h2⟩)

end Go.AM

end

section

/- Apart: the first way without which the others still are enough. -/
namespace Go.AM
open Go.Proofs
/-- The first way without whose calls so many ways still are left. -/
def pickP (pl : List Kl) (s t : Int) (r : Nat) (σ : Option (List Int)) (w : List Int) : Option (List Int) :=
  match σ with
  | some b => some b
  | none => if mcP pl s t (maskN w) = r then some w else none

theorem pick_fold (pl : List Kl) (s t : Int) (r : Nat) : ∀ (ws : List (List Int)) (σ : Option (List Int)), (∀ b, σ = some b → mcP pl s t (maskN b) = r) →
    (∀ b, ws.foldl (pickP pl s t r) σ = some b → (σ = some b ∨ b ∈ ws) ∧ mcP pl s t (maskN b) = r) ∧ (ws.foldl (pickP pl s t r) σ = none → σ = none ∧ ∀ w ∈ ws, mcP pl s t (maskN w) ≠ r) := by
  intro ws
  induction ws with
  | nil => intro σ h; exact ⟨fun b hb => ⟨.inl hb, h b hb⟩, fun h => ⟨h, fun w hw => by cases hw⟩⟩
  | cons w ws ih =>
    intro σ h
    rw [List.foldl_cons]
    cases σ with
    | some b0 =>
      obtain ⟨h1, h2⟩ := ih (some b0) h
      refine ⟨fun b hb => ⟨?_, (h1 b hb).2⟩, fun hn => ?_⟩
      · exact (h1 b hb).1.imp id (List.mem_cons_of_mem _)
      · have := (h2 hn).1; cases this
    | none =>
      by_cases hr : mcP pl s t (maskN w) = r
      · have e : pickP pl s t r none w = some w := by simp [pickP, hr]
        rw [e]
        obtain ⟨h1, h2⟩ := ih (some w) (fun b hb => by cases hb; exact hr)
        refine ⟨fun b hb => ⟨.inr ?_, (h1 b hb).2⟩, fun hn => by have := (h2 hn).1; cases this⟩
        rcases (h1 b hb).1 with h | h
        · cases h; exact List.mem_cons_self
        · exact List.mem_cons_of_mem _ h
      · have e : pickP pl s t r none w = none := by simp [pickP, hr]
        rw [e]
        obtain ⟨h1, h2⟩ := ih none (fun b hb => by cases hb)
        refine ⟨fun b hb => ⟨.inr ?_, (h1 b hb).2⟩, fun hn => ⟨rfl, fun w' hw' => ?_⟩⟩
        · rcases (h1 b hb).1 with h | h
          · cases h
          · exact List.mem_cons_of_mem _ h
        · rcases List.mem_cons.1 hw' with rfl | hw'
          · exact hr
          · exact (h2 hn).2 w' hw'

/-- The way that is taken. -/
def takeW (pl : List Kl) (s t : Int) (r : Nat) : Option (List Int) := (allWays pl s t).foldl (pickP pl s t r) none

theorem take_some {n s t : Int} {pl : List Kl} (v : VP n pl) (hs : 0 ≤ s ∧ s < n) (hst : s ≠ t) {r : Nat} (h : mcP pl s t 0 = r + 1) : ∃ w, takeW pl s t r = some w ∧ w ∈ allWays pl s t ∧ mcP pl s t (maskN w) = r := by
  obtain ⟨h1, h2⟩ := pick_fold pl s t r (allWays pl s t) none (fun b hb => by cases hb)
  unfold takeW
  cases hw : (allWays pl s t).foldl (pickP pl s t r) none with
  | some w =>
    obtain ⟨h3, h4⟩ := h1 w hw
    rcases h3 with h3 | h3
    · cases h3
    · exact ⟨w, rfl, h3, h4⟩
  | none =>
    obtain ⟨w, h3, h4⟩ := pick_way v hs hst h
    exact absurd h4 ((h2 hw).2 w h3)

theorem l86 {k : Nat} {wv : Value} {w : List Int} {g : H} (hw : SlR g 3 1 wv (cellsI w)) (hr : ∀ x ∈ w, 0 ≤ x ∧ x < 24) (hk : w.length < k) : ∃ ws, lpGo (f86_l1 rn k wv w.length) k [iv 0, iv 0] g = some (.exit 0, ws, g) ∧ gv ws 0 = iv (maskN w) := by
  have hlen := hw.lt62
  rw [List.length_map] at hlen
  obtain ⟨ws', g', q1, _, rfl, rfl⟩ := lp_for (k := k) (l := w) (F := f86_l1 rn k wv w.length) (fun _ (x : Int) (a : Nat) => a ||| 2 ^ x.toNat)
    (fun i a ws g' => a < 2 ^ 24 ∧ g' = g ∧ ws = [iv a, iv i]) 0 (ws := [iv 0, iv 0]) (h := g) (s0 := 0) ⟨by decide, rfl, rfl⟩ hk
    (fun a ws g' hI => by
      obtain ⟨_, rfl, rfl⟩ := hI
      unfold f86_l1
      simp only [gv, List.getD_cons_zero, List.getD_cons_succ, asI_int]
      rw [lt_f (by omega), ifB_false]; rfl)
    (fun i x a ws g' hx hI => by
      obtain ⟨ha, rfl, rfl⟩ := hI
      have hi := (List.getElem?_eq_some_iff.1 hx).1
      obtain ⟨x0, x24⟩ := hr x (List.mem_of_getElem? hx)
      obtain ⟨m, rfl⟩ := Int.eq_ofNat_of_zero_le x0
      have p : (2 : Nat) ^ m < 2 ^ 24 := Nat.pow_lt_pow_right (by decide) (by omega)
      refine ⟨[iv (a ||| 2 ^ m : Nat), iv (i + 1 : Nat)], g', ?_, Nat.or_lt_two_pow ha (by simpa using p), rfl, by simp⟩
      unfold f86_l1
      simp only [gv, List.getD_cons_zero, List.getD_cons_succ, asI_int, asK_int]
      rw [lt_t (by omega), ifB_true]
      simp only [d3]
      rw [hw.c0 (by omega) (x := [iv (m : Int)]) (by simp [hx]) rfl, asI_int]
      unfold AM.nn
      rw [if_neg (by omega), shl1_nat (by omega), or_nat (by omega) (by omega), add64 (by omega) (by omega)]
      rfl)
  refine ⟨_, q1, ?_⟩
  rw [foldI_foldl]
  rfl

theorem nilv25' {v : Value} {b : Nat} (hb : blkOf v = some b) {R : Type} (K : Bool → Option R) : eqv Try.prog 25 v (.slice none 0 0) K = K false := by
  unfold eqv; rw [nilv25 hb]

theorem nilv25n {R : Type} (K : Bool → Option R) : eqv Try.prog 25 (.slice none 0 0) (.slice none 0 0) K = K true := by
  unfold eqv; rw [nil25]

theorem pick_cb {g6 : H} {wb pb sb tb cb ob : Nat} {n : Nat} {pl : List Kl} {slp ov : Value} {ol : List (List Value)} {s t : Int} {cnt : Nat} (hwb : wb < g6.nx)
    (hpb : pb < g6.nx ∧ pb ≠ wb ∧ g6.blk pb = some (.row [iv n, slp] 31 true)) (hsb : sb < g6.nx ∧ sb ≠ wb ∧ g6.blk sb = some (.row [iv s] 3 true)) (htb : tb < g6.nx ∧ tb ≠ wb ∧ g6.blk tb = some (.row [iv t] 3 true))
    (hcb : cb < g6.nx ∧ cb ≠ wb ∧ g6.blk cb = some (.row [iv cnt] 3 true)) (hob : ob < g6.nx ∧ ob ≠ wb ∧ g6.blk ob = some (.row [ov] 58 true)) (hov : SlR g6 25 1 ov ol) (hsl : SlR g6 56 3 slp (pl.map Kl.cells))
    (hslb : ∀ b, blkOf slp = some b → b < g6.nx ∧ b ≠ wb) (hp : pairP n pl s t = true) (hcnt : cnt < 100) (hol : ol.length < cnt) :
    Cb (.func (.func 86) #[] #[pt wb 0, pt pb 0, pt sb 0, pt tb 0, pt cb 0, pt ob 0]) g6.nx (fun b => b = wb) (okW pl) (fun σ D g => BestI g6 wb σ D g ∧ ∀ w, σ = some w → okW pl w) (pickP pl s t (cnt - ol.length - 1)) := by
  have hpl := (validP_ok (pairP_parts hp).1).2.2.1
  refine ⟨?_, ?_, ?_⟩
  · rintro σ D g g' ⟨⟨h1, h2, ov, h3, h4⟩, h5⟩ hn hlo hD
    refine ⟨⟨by omega, fun b hb hb' => (hlo b hb).trans (h2 b hb hb'), ov, (hlo wb hwb).trans h3, ?_⟩, h5⟩
    cases σ with
    | none => exact h4
    | some w =>
      obtain ⟨a1, q, a2, a3, a4, a5⟩ := h4
      exact ⟨a1, q, a2, a3, a4, a5.keep hn (hD q (by rw [a2]; simp))⟩
  · rintro σ D g ⟨⟨h1, h2, ov, h3, h4⟩, h5⟩ b hb
    cases σ with
    | none => rw [h4.2] at hb; simp at hb
    | some w =>
      obtain ⟨a1, q, a2, a3, a4, a5⟩ := h4
      rw [a2] at hb
      simp at hb
      subst hb
      exact ⟨a3, a5.lt⟩
  · rintro σ D g wv w ⟨⟨h1, h2, wv0, h3, h4⟩, h5⟩ hn hwv hw hdis hlow
    obtain ⟨hw0, hwl, hwr⟩ := hw
    cases σ with
    | some b0 =>
      obtain ⟨a1, q0, rfl, a3, a4, a5⟩ := h4
      refine ⟨g, [q0], x86 (k := 0) ?_ rfl, ⟨⟨h1, h2, wv0, h3, a1, q0, rfl, a3, a4, a5⟩, h5⟩, Nat.le_refl _, fun _ _ _ _ => rfl, fun b hb => .inl hb⟩
      show f86 rn 0 wv (pt wb 0) (pt pb 0) (pt sb 0) (pt tb 0) (pt cb 0) (pt ob 0) g = _
      unfold f86
      simp only [asP_ptr]
      rw [d25, cell_of h3]
      simp only [List.getElem?_cons_zero, Option.bind_some]
      rw [nilv25' a4]
      rfl
    | none =>
      obtain ⟨rfl, rfl⟩ := h4
      obtain ⟨ws1, q1, q2⟩ := l86 (k := 1000) hwv (fun x hx => by have := hwr x hx; omega) hwl
      have pbg : g.blk pb = some (.row [iv n, slp] 31 true) := (h2 _ hpb.1 hpb.2.1).trans hpb.2.2
      have sbg : g.blk sb = some (.row [iv s] 3 true) := (h2 _ hsb.1 hsb.2.1).trans hsb.2.2
      have tbg : g.blk tb = some (.row [iv t] 3 true) := (h2 _ htb.1 htb.2.1).trans htb.2.2
      have slg : SlR g 56 3 slp (pl.map Kl.cells) := slR_keep hsl h1 fun b hb => h2 b (hslb b hb).1 (hslb b hb).2
      obtain ⟨h3', nb, c83, x3⟩ := s83g (gone := maskN w) slg hp (Nat.lt_of_lt_of_le (maskN_lt (m := 24) fun i hi => by have := hwr i hi; omega) (by decide))
      have hm := mcP_le (l := pl) (pairP_parts hp).2.2.2 (maskN w)
      have cbg : h3'.blk cb = some (.row [iv cnt] 3 true) := by rw [x3.blk _ (by omega)]; exact (h2 _ hcb.1 hcb.2.1).trans hcb.2.2
      have obg : h3'.blk ob = some (.row [ov] 58 true) := by rw [x3.blk _ (by omega)]; exact (h2 _ hob.1 hob.2.1).trans hob.2.2
      have wbg : h3'.blk wb = some (.row [.slice none 0 0] 25 true) := by rw [x3.blk _ (by omega)]; exact h3
      have hlen := hwv.len (R := Value × H)
      have start : f86 rn 1000 wv (pt wb 0) (pt pb 0) (pt sb 0) (pt tb 0) (pt cb 0) (pt ob 0) g = if mcP pl s t (maskN w) = cnt - ol.length - 1 then
          (calls rn h3' 75 [wv] fun v17 h4 => st Try.prog h4 25 wb 0 v17 fun h5 => some (undef, h5)) else some (undef, h3') := by
        unfold f86
        simp only [asP_ptr]
        rw [d25, cell_of h3]
        simp only [List.getElem?_cons_zero, Option.bind_some]
        rw [nilv25n, Bool.not_true, ifB_false, hwv.len, List.length_map, lp_eq q1, onE_exit, if_pos rfl, q2]
        rw [d31, rd_all (n := 2) pbg rfl, Option.bind_some]
        simp only [d3]
        rw [cell_of sbg, cell_of tbg]
        simp only [List.getElem?_cons_zero, Option.bind_some, asI_int]
        refine (calls_eq (xs := [_, _, _, _]) c83).trans ?_
        rw [ext20, ext21, asI_int, cell_of cbg]
        simp only [List.getElem?_cons_zero, Option.bind_some, asI_int]
        rw [d58, cell_of obg]
        simp only [List.getElem?_cons_zero, Option.bind_some]
        have hov' : ∀ {T : Type} (K : Int → Option T), len ov K = K ol.length := fun K => hov.len K
        rw [hov', sub64 (a := (cnt : Int)) (b := (ol.length : Int)) (by omega) (by omega), sub64 (by omega) (by omega)]
        by_cases e : mcP pl s t (maskN w) = cnt - ol.length - 1
        · rw [eq_t (by omega), ifB_true, if_pos e]
        · rw [eq_f (by omega), ifB_false, if_neg e]
      by_cases e : mcP pl s t (maskN w) = cnt - ol.length - 1
      · obtain ⟨v', h4, q, e75, x4, b1, b2, b3⟩ := s75a (hwv.ext x3) (by omega) hw0
        have wbg4 : h4.blk wb = some (.row [.slice none 0 0] 25 true) := (x4.blk wb (by have := x3.nx; omega)).trans wbg
        obtain ⟨cv, hcv, _⟩ := b3.val
        have hst : wrc 1 h4 wb 0 v' = some (h4.set wb (.row [v'] 25 true)) := by rw [wrc_one wbg4 (by rw [hcv]; rfl) (by rw [hcv]; rfl) (by simp)]; rfl
        have hx := x3.nx
        have hx4 := x4.nx
        refine ⟨h4.set wb (.row [v'] 25 true), [q], x86 (k := 1000) ?_ rfl, ⟨⟨by rw [nx_set]; omega, fun b hb hb' => by rw [blk_set_ne _ _ _ hb', x4.blk b (by omega), x3.blk b (by omega)]; exact h2 b hb hb', v', ?_⟩, ?_⟩, by rw [nx_set]; omega,
          fun b h1 h2 _ => by rw [blk_set_ne _ _ _ h2, x4.blk b (by omega), x3.blk b h1], fun b hb => by simp at hb; omega⟩
        · show f86 rn 1000 wv (pt wb 0) (pt pb 0) (pt sb 0) (pt tb 0) (pt cb 0) (pt ob 0) g = _
          rw [start, if_pos e]
          refine (calls_eq (xs := [_]) e75).trans ?_
          rw [w25, hst]
          rfl
        · simp only [pickP, if_pos e]
          exact ⟨blk_set_self _ _ _, hw0, q, rfl, by omega, b2, b3.keep (Nat.le_refl _) (blk_set_ne _ _ _ (by omega))⟩
        · intro w' hw'
          simp only [pickP, if_pos e] at hw'
          cases hw'
          exact ⟨hw0, hwl, hwr⟩
      · have hx := x3.nx
        refine ⟨h3', [], x86 (k := 1000) ?_ rfl, ⟨⟨by omega, fun b hb hb' => by rw [x3.blk b (by omega)]; exact h2 b hb hb', .slice none 0 0, ?_⟩, ?_⟩, hx, fun b h1 _ _ => x3.blk b h1, fun b hb => by simp at hb⟩
        · show f86 rn 1000 wv (pt wb 0) (pt pb 0) (pt sb 0) (pt tb 0) (pt cb 0) (pt ob 0) g = _
          rw [start, if_neg e]
        · simp only [pickP, if_neg e]
          exact ⟨wbg, trivial, trivial⟩
        · intro w' hw'
          simp only [pickP, if_neg e] at hw'
          cases hw'

end Go.AM

end
