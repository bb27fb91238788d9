/- Lives: the longest of those that come; greater numbers live as long. -/
import Derived.Test.YtnhmgokjijlhbaaRu
import Derived.Test.YtnhmgokjijlhbaaF3
namespace Go.AM
open Go.Proofs Go.Lives

variable {R : Type}

attribute [local simp] nx_eq nx_new nx_set blk_new blk_set asI_int asK_int asB_bool asP_ptr al_eq bx_eq len_slice onE_exit onE_ret onR_ret Value.cells d3 d22 d31 d60 w60 w3 w22 cell_new cell_set rd_new rd_set off eq lt le ifB gv out eqF1 eqF2 eqF3 eqF4 eqF5 eqF6 eqF7 eqF8 ext20 ext21

/-! ### Copies that are owned -/

/-- An empty literal that is appended to: no row is written. -/
theorem app_lit_wr {P : Program} {h : H} {e t t' : TypeId} {s b : Nat} {y : Value} {ys : List (List Value)} (ht : okApp P t e s = true) (ht' : okApp P t' e s = true) (hy : SlR h e s y ys) (hm : ys.length < 2 ^ 30) :
    AM.app P h t t' (.slice (some ⟨b, 0, none⟩) 0 0) y (fun _ g => some g.wr) = some h.wr := by
  obtain ⟨i, z, h1, h2, h3, h4, h5, h6, h7⟩ := okApp_spec ht
  obtain ⟨_, _, h1', _⟩ := okApp_spec ht'
  have hsrc := hy.srcAll h6
  have hlen := hy.lenOf
  have h30 : (2:Nat) ^ 30 < U := by decide
  have hc0 : capK 0 = 0 := rfl
  unfold AM.app append
  simp only [h1, h1', h2, h3, hlen, h4, hsrc, Option.bind_some, hc0]
  rw [if_pos ⟨h5, h6, h7⟩]
  by_cases h0 : ys.length = 0
  · rw [if_pos h0]; rfl
  · rw [if_neg h0, if_neg (by omega), if_pos (by omega), if_pos (by omega)]
    rfl

theorem s56W {v : Value} {l : List (List Value)} {h : H} (hs : SlR h 3 1 v l) (hsc : l.flatten.all scal = true) (hm : l.length < 2 ^ 30) : ∃ v' h', rn 56 #[v] h = some (v', h') ∧ Ext h h' ∧ AqR h.nx h' 3 1 v' l ∧ h'.wr = h.wr := by
  have hs0 := hs
  have key : ∃ v' h', f56 rn 0 v h = some (v', h') ∧ Ext h h' ∧ AqR h.nx h' 3 1 v' l ∧ h'.wr = h.wr := by
    cases hs with
    | nil =>
      refine ⟨.slice none 0 0, h, ?_, .refl _, .nil, rfl⟩
      unfold f56 eqv
      rw [nil22]
      rfl
    | @at_ b o c cs own l hb hr hk hc hl hx =>
      unfold f56 eqv
      rw [some22]
      simp only []
      rw [show ifB false = fun (x y : Option (Value × H)) => y from rfl]
      simp only []
      rw [bls_some (bls22e h)]
      have x1 := Ext.new h (.row [] 3 true)
      have a0 : AqR h.nx (h.new (.row ([] : List (List Value)).flatten 3 true)) 3 1 (.slice (some ⟨h.nx, 0, none⟩) 0 0) [] := AqR.lit (Nat.le_refl _) rfl (by simp) (by simp)
      obtain ⟨v', h', e, aq, hn, hf, hb'⟩ := a0.app app22 app22 (hs0.ext x1) hsc (by simpa using hm) (Nat.le_succ _)
      have hw := app_lit_wr (P := Try.prog) (b := h.nx) app22 app22 (hs0.ext x1) hm
      have he := e (R := Nat) fun _ g => some g.wr
      have hw2 := he.symm.trans hw
      refine ⟨v', h', e _, ⟨Nat.le_trans x1.nx hn, fun b hb => ?_⟩, by simpa using aq, Option.some.inj hw2⟩
      rw [hf b (Nat.lt_of_lt_of_le hb x1.nx) (fun e => by cases e; exact absurd hb (Nat.lt_irrefl _))]
      exact x1.blk b hb
  obtain ⟨v', h', e, x, aq, hw⟩ := key
  exact ⟨v', h', x56 e aq.slR.notR, x, aq, hw⟩

theorem s18W {v : Value} {l : List Int} {h : H} (hs : SlR h 3 1 v (cellsI l)) : ∃ v' h', rn 18 #[v] h = some (v', h') ∧ Ext h h' ∧ AqR h.nx h' 3 1 v' (cellsI (l.take 14)) ∧ h'.wr = h.wr := by
  have e1 : imin ((cellsI l).length : Int) 14 = ((min l.length 14 : Nat) : Int) := by
    rw [List.length_map]
    unfold imin
    split <;> omega
  obtain ⟨v1, s1, e2⟩ := hs.take (i := ((min l.length 14 : Nat) : Int)) under22 sz3 (by omega) (by rw [List.length_map]; omega)
  have e3 : (cellsI l).take ((min l.length 14 : Nat) : Int).toNat = cellsI (l.take 14) := by
    rw [Int.toNat_natCast, ← List.map_take]
    congr 1
    rcases Nat.le_total l.length 14 with h1 | h1
    · rw [Nat.min_eq_left h1, List.take_of_length_le (Nat.le_refl _), List.take_of_length_le h1]
    · rw [Nat.min_eq_right h1]
  rw [e3] at s1
  obtain ⟨v', h', e4, x, s, hw⟩ := s56W s1 (by rw [List.all_eq_true]; intro x hx; obtain ⟨l', hl', hx'⟩ := List.mem_flatten.1 hx; obtain ⟨z, _, rfl⟩ := List.mem_map.1 hl'; simp at hx'; subst hx'; rfl) (by rw [List.length_map, List.length_take]; omega)
  refine ⟨_, h', x18 (k := 0) ?_ s.slR.notR, x, s, hw⟩
  unfold f18
  rw [hs.len, e1, e2, calls_eq e4]

theorem s18A {v : Value} {l : List Int} {h : H} (hs : SlR h 3 1 v (cellsI l)) : ∃ v' h', rn 18 #[v] h = some (v', h') ∧ Ext h h' ∧ AqR h.nx h' 3 1 v' (cellsI (l.take 14)) := by
  obtain ⟨v', h', e, x, a, _⟩ := s18W hs
  exact ⟨v', h', e, x, a⟩

/-- A number modulo a length. -/
theorem which_nat (n0 : Int) {n : Nat} (h0 : 0 < n) (h1 : n < 2 ^ 62) : ∃ w : Nat, w < n ∧ wr .i64 (rem .u64 (wr .u64 n0) (wr .u64 (n : Int))) = (w : Int) := by
  have e1 : wr .u64 (n : Int) = (n : Int) := u64_small (by omega) (by omega)
  have e2 : 0 ≤ wr .u64 n0 := by
    show 0 ≤ IntKind.u64.wrap n0
    simp only [IntKind.wrap, IntKind.signed, IntKind.bits, Bool.false_and]
    exact Int.emod_nonneg _ (by decide)
  rw [e1]
  obtain ⟨m, hm⟩ := Int.eq_ofNat_of_zero_le e2
  rw [hm]
  refine ⟨m % n, Nat.mod_lt _ h0, ?_⟩
  have e3 : rem .u64 (m : Int) (n : Int) = ((m % n : Nat) : Int) := by
    unfold rem
    rw [Int.tmod_eq_emod_of_nonneg (by omega)]
    exact (Int.natCast_emod m n).symm
  rw [e3]
  have := Nat.mod_lt m h0
  exact wrap64 (by omega) (by omega)

/-! ### Greater numbers live as long -/

def leP : List Int → List Int → Prop
  | [], [] => True
  | x :: a, y :: b => x ≤ y ∧ leP a b
  | _, _ => False

theorem leP_len : ∀ {a b : List Int}, leP a b → a.length = b.length := by
  intro a
  induction a with
  | nil => intro b h; cases b <;> simp_all [leP]
  | cons x a ih =>
    intro b h
    cases b with
    | nil => simp [leP] at h
    | cons y b => simp [ih h.2]

theorem leP_refl : ∀ a : List Int, leP a a := by
  intro a
  induction a with
  | nil => trivial
  | cons x a ih => exact ⟨Int.le_refl _, ih⟩

theorem vals_mono (task : Int) : ∀ (l s s' : List Int) (i : Nat), leP s s' → (∀ p ∈ l.zip s, 1 ≤ p.2 ∧ p.2 ≤ p.1) → 0 ∉ valsN task i (l.zip s) →
    0 ∉ valsN task i (l.zip s') ∧ leP (valsN task i (l.zip s)) (valsN task i (l.zip s')) := by
  intro l
  induction l with
  | nil => intro s s' i _ _ _; simp [valsN, leP]
  | cons x l ih =>
    intro s s' i hle hp h0
    cases s with
    | nil =>
      cases s' with
      | nil => simp [valsN, leP]
      | cons y s' => simp [leP] at hle
    | cons y s =>
      cases s' with
      | nil => simp [leP] at hle
      | cons y' s' =>
        simp only [List.zip_cons_cons, valsN, List.mem_cons, not_or] at h0 ⊢
        have hp1 := hp (x, y) (by simp)
        simp only at hp1
        obtain ⟨h1, h2⟩ := ih s s' (i + 1) hle.2 (fun p hp' => hp p (by simp [hp'])) h0.2
        have hyy := hle.1
        have hv : 1 ≤ valN task i (x, y) ∧ valN task i (x, y) ≤ valN task i (x, y') := by
          have := h0.1
          simp only [valN] at this ⊢
          split
          · omega
          · rename_i hi
            rw [if_neg hi] at this
            omega
        exact ⟨⟨by omega, h1⟩, hv.2, h2⟩

theorem next_mono {l s s' o : List Int} {task : Int} (hle : leP s s') (hst : stOk l s = true) (ho : nextP l s task = some o) : ∃ o', nextP l s' task = some o' ∧ leP o o' := by
  obtain ⟨_, hp⟩ := stOk_iff.1 hst
  unfold nextP at ho ⊢
  split at ho
  · cases ho
  · rename_i h0
    cases ho
    obtain ⟨h1, h2⟩ := vals_mono task l s s' 0 hle hp h0
    exact ⟨_, by rw [if_neg h1], h2⟩

/-- The states that come, as states. -/
theorem mem_tos {ln : List Nat} (hok : ∀ x ∈ ln, 1 ≤ x) {c t : Nat} : t ∈ tosP ln c ↔ ∃ i : Nat, i < ln.length ∧ t < prodN ln ∧ nextP (nI ln) (nI (stateP ln c)) i = some (nI (stateP ln t)) := by
  unfold tosP
  rw [List.mem_map]
  constructor
  · rintro ⟨x, hx, rfl⟩
    obtain ⟨h1, h2⟩ := List.mem_filter.1 hx
    obtain ⟨i, hi, rfl⟩ := List.mem_map.1 h1
    rw [List.mem_range] at hi
    refine ⟨i, hi, ?_⟩
    have h2' : aftP ln c i ≠ -1 := by simpa using h2
    unfold aftP at h2' ⊢
    cases ho : nextP (nI ln) (nI (stateP ln c)) (i : Int) with
    | none => rw [ho] at h2'; exact absurd rfl h2'
    | some o =>
      have hst := next_ok (fun x hx => by
        obtain ⟨y, hy, rfl⟩ := List.mem_map.1 hx
        have := hok y hy
        omega) (state_ok hok c) ho
      obtain ⟨t, h3, h4, h5⟩ := st_num hst
      simp only [h4, Int.toNat_natCast]
      exact ⟨h3, by rw [← h5]⟩
  · rintro ⟨i, hi, ht, ho⟩
    refine ⟨(t : Int), List.mem_filter.2 ⟨List.mem_map.2 ⟨i, List.mem_range.2 hi, ?_⟩, by simp⟩, by simp⟩
    unfold aftP
    rw [ho]
    exact code_state hok ht

theorem life_mono {ln : List Nat} (hok : ∀ x ∈ ln, 1 ≤ x) : ∀ (n : Nat) (c c' : Nat), c < prodN ln → c' < prodN ln → leP (nI (stateP ln c)) (nI (stateP ln c')) → lifeF ln c' = n → 0 ≤ lifeF ln c ∧ lifeF ln c ≤ n := by
  have hL := lifeF_is hok
  intro n
  induction n using Nat.strongRecOn with
  | ind n ih =>
    intro c c' hc hc' hle hn
    have succ : ∀ t ∈ tosP ln c, 0 ≤ lifeF ln t ∧ lifeF ln t < n := by
      intro t ht
      obtain ⟨i, hi, htD, ho⟩ := (mem_tos hok).1 ht
      obtain ⟨o', ho', hle'⟩ := next_mono hle (state_ok hok c) ho
      have hst := next_ok (fun x hx => by
        obtain ⟨y, hy, rfl⟩ := List.mem_map.1 hx
        have := hok y hy
        omega) (state_ok hok c') ho'
      obtain ⟨t', h3, h4, rfl⟩ := st_num hst
      have hm : t' ∈ tosP ln c' := (mem_tos hok).2 ⟨i, hi, h3, ho'⟩
      obtain ⟨_, h6⟩ := hL c' hc'
      obtain ⟨_, h7, _⟩ := h6 (by omega)
      obtain ⟨h8, h9⟩ := h7 t' hm
      obtain ⟨k, hk⟩ := Int.eq_ofNat_of_zero_le h8
      have := ih k (by omega) t t' htD h3 hle' hk
      omega
    obtain ⟨h1, h2⟩ := hL c hc
    by_cases hm : lifeF ln c = -1
    · obtain ⟨t, ht, h3⟩ := h1 hm
      have := succ t ht
      omega
    · obtain ⟨h3, h4, h5⟩ := h2 hm
      refine ⟨h3, ?_⟩
      rcases h5 with h5 | ⟨t, ht, h5⟩
      · omega
      · have := succ t ht
        omega

/-! ### The longest of those that come -/

noncomputable def bestP (ln : List Nat) (c : Nat) (b : Int) (i : Nat) : Int :=
  match nextP (nI ln) (nI (stateP ln c)) i with
  | none => b
  | some o => if lifeF ln (codeP (nI ln) o).toNat < 0 ∨ b < 0 then -1 else imax b (lifeF ln (codeP (nI ln) o).toNat + 1)

theorem best_life {ln : List Nat} (hok : ∀ x ∈ ln, 1 ≤ x) {c : Nat} (hc : c < prodN ln) : (List.range ln.length).foldl (bestP ln c) 0 = lifeF ln c := by
  have hL := lifeF_is hok
  obtain ⟨h1, h2⟩ := hL c hc
  -- what a fold over some tasks is
  have key : ∀ n, n ≤ ln.length → (∃ i, i < n ∧ ∃ t, t < prodN ln ∧ nextP (nI ln) (nI (stateP ln c)) (i : Nat) = some (nI (stateP ln t)) ∧ lifeF ln t = -1 ∧ (List.range n).foldl (bestP ln c) 0 = -1) ∨
      (0 ≤ (List.range n).foldl (bestP ln c) 0 ∧ (∀ i, i < n → ∀ t, t < prodN ln → nextP (nI ln) (nI (stateP ln c)) (i : Nat) = some (nI (stateP ln t)) → 0 ≤ lifeF ln t ∧ lifeF ln t + 1 ≤ (List.range n).foldl (bestP ln c) 0) ∧
        ((List.range n).foldl (bestP ln c) 0 = 0 ∨ ∃ i, i < n ∧ ∃ t, t < prodN ln ∧ nextP (nI ln) (nI (stateP ln c)) (i : Nat) = some (nI (stateP ln t)) ∧ (List.range n).foldl (bestP ln c) 0 = lifeF ln t + 1)) := by
    intro n
    induction n with
    | zero => intro _; right; simp
    | succ n ih =>
      intro hn
      rw [List.range_succ, List.foldl_append, List.foldl_cons, List.foldl_nil]
      have ih := ih (by omega)
      generalize (List.range n).foldl (bestP ln c) 0 = b at *
      unfold bestP
      cases ho : nextP (nI ln) (nI (stateP ln c)) (n : Int) with
      | none =>
        simp only
        rcases ih with ⟨i, hi, t, h3, h4, h5, h6⟩ | ⟨h3, h4, h5⟩
        · exact .inl ⟨i, by omega, t, h3, h4, h5, h6⟩
        · refine .inr ⟨h3, fun i hi t ht hq => ?_, h5.imp id fun ⟨i, hi, h6⟩ => ⟨i, by omega, h6⟩⟩
          by_cases hin : i = n
          · subst hin; rw [ho] at hq; cases hq
          · exact h4 i (by omega) t ht hq
      | some o =>
        simp only
        have hst := next_ok (fun x hx => by
          obtain ⟨y, hy, rfl⟩ := List.mem_map.1 hx
          have := hok y hy
          omega) (state_ok hok c) ho
        obtain ⟨t, h3, h4, rfl⟩ := st_num hst
        rw [h4, Int.toNat_natCast]
        have hlt : lifeF ln t = -1 ∨ 0 ≤ lifeF ln t := by
          by_cases h : lifeF ln t = -1
          · exact .inl h
          · exact .inr ((hL t h3).2 h).1
        by_cases hneg : lifeF ln t < 0 ∨ b < 0
        · rw [if_pos hneg]
          rcases ih with ⟨i, hi, t', g3, g4, g5, g6⟩ | ⟨g3, -, -⟩
          · exact .inl ⟨i, by omega, t', g3, g4, g5, rfl⟩
          · exact .inl ⟨n, by omega, t, h3, ho, by omega, rfl⟩
        · rw [if_neg hneg]
          rcases ih with ⟨i, hi, t', g3, g4, g5, g6⟩ | ⟨g3, g4, g5⟩
          · omega
          · right
            have hmax : imax b (lifeF ln t + 1) = b ∧ lifeF ln t + 1 ≤ b ∨ imax b (lifeF ln t + 1) = lifeF ln t + 1 ∧ b ≤ lifeF ln t + 1 := by unfold imax; split <;> omega
            have h00 : 0 ≤ imax b (lifeF ln t + 1) := by clear g5 g4; omega
            refine ⟨h00, fun i hi t' ht' hq => ?_, ?_⟩
            · clear g5
              by_cases hin : i = n
              · subst hin
                rw [ho] at hq
                have he : codeP (nI ln) (nI (stateP ln t)) = codeP (nI ln) (nI (stateP ln t')) := by rw [Option.some.inj hq]
                rw [code_state hok h3, code_state hok ht'] at he
                have : t = t' := by omega
                subst this
                omega
              · have := g4 i (by omega) t' ht' hq
                omega
            · rcases hmax with ⟨q1, q2⟩ | ⟨q1, q2⟩
              · rw [q1]
                exact g5.imp id fun ⟨i, hi, h6⟩ => ⟨i, by omega, h6⟩
              · right
                exact ⟨n, by omega, t, h3, ho, q1⟩
  have key := key ln.length (Nat.le_refl _)
  generalize (List.range ln.length).foldl (bestP ln c) 0 = b at *
  by_cases hm : lifeF ln c = -1
  · obtain ⟨t, ht, h3⟩ := h1 hm
    obtain ⟨i, hi, htD, ho⟩ := (mem_tos hok).1 ht
    rcases key with ⟨_, _, _, _, _, _, h6⟩ | ⟨_, h5, _⟩
    · omega
    · have := h5 i hi t htD ho
      omega
  · obtain ⟨h3, h4, h5⟩ := h2 hm
    rcases key with ⟨i, hi, t, g1, g2, g3, g4⟩ | ⟨g1, g2, g3⟩
    · have := h4 t ((mem_tos hok).2 ⟨i, hi, g1, g2⟩)
      omega
    · have hle : b ≤ lifeF ln c := by
        rcases g3 with g3 | ⟨i, hi, t, g4, g5, g6⟩
        · omega
        · have := h4 t ((mem_tos hok).2 ⟨i, hi, g4, g5⟩)
          omega
      rcases h5 with h5 | ⟨t, ht, h5⟩
      · omega
      · obtain ⟨i, hi, htD, ho⟩ := (mem_tos hok).1 ht
        have := g2 i hi t htD ho
        omega

end Go.AM
namespace Go.Lives

theorem isLife_lt {D : Nat} {tos : Nat → List Nat} (hD : ∀ c, c < D → ∀ t ∈ tos c, t < D) {L : Nat → Int} (hL : IsLife D tos L) : ∀ c, c < D → -1 ≤ L c ∧ L c < D := by
  have key : ∀ (n : Nat) (c : Nat), c < D → L c = n → ∃ l : List Nat, l.length = n + 1 ∧ l.Nodup ∧ ∀ x ∈ l, x < D ∧ L x ≤ n := by
    intro n
    induction n with
    | zero => intro c hc h; exact ⟨[c], rfl, by simp, fun x hx => by simp at hx; subst hx; exact ⟨hc, by omega⟩⟩
    | succ n ih =>
      intro c hc h
      obtain ⟨_, h2⟩ := hL c hc
      obtain ⟨_, _, h3⟩ := h2 (by omega)
      obtain ⟨t, ht, h4⟩ := h3.resolve_left (by omega)
      obtain ⟨l, l1, l2, l3⟩ := ih t (hD c hc t ht) (by omega)
      refine ⟨c :: l, by simp [l1], List.nodup_cons.2 ⟨fun hm => by have := (l3 c hm).2; omega, l2⟩, fun x hx => ?_⟩
      rcases List.mem_cons.1 hx with rfl | hx
      · exact ⟨hc, by omega⟩
      · have := l3 x hx
        exact ⟨this.1, by omega⟩
  intro c hc
  by_cases hm : L c = -1
  · omega
  · obtain ⟨h0, _⟩ := (hL c hc).2 hm
    obtain ⟨n, hn⟩ := Int.eq_ofNat_of_zero_le h0
    obtain ⟨l, l1, l2, l3⟩ := key n c hc hn
    have := l2.length_le_of_subset (l₂ := List.range D) fun x hx => List.mem_range.2 (l3 x hx).1
    rw [List.length_range] at this
    omega

end Go.Lives
namespace Go.AM
open Go.Proofs Go.Lives

variable {R : Type}

attribute [local simp] nx_eq nx_new nx_set blk_new blk_set asI_int asK_int asB_bool asP_ptr al_eq bx_eq len_slice onE_exit onE_ret onR_ret Value.cells d3 d22 d31 d60 w60 w3 w22 cell_new cell_set rd_new rd_set off eq lt le ifB gv out eqF1 eqF2 eqF3 eqF4 eqF5 eqF6 eqF7 eqF8 ext20 ext21

theorem lifeF_lt {ln : List Nat} (hok : ∀ x ∈ ln, 1 ≤ x) {c : Nat} (hc : c < prodN ln) : -1 ≤ lifeF ln c ∧ lifeF ln c < prodN ln :=
  isLife_lt (fun c _ => tos_lt hok c) (lifeF_is hok) c hc

theorem more_ok : ∀ (l s : List Int) (w : Nat) (x y : Int), stOk l s = true → l[w]? = some y → s[w]? = some x → stOk l (s.set w (imin (x + 1) y)) = true ∧ leP s (s.set w (imin (x + 1) y)) := by
  intro l
  induction l with
  | nil => intro s w x y _ h; simp at h
  | cons a l ih =>
    intro s w x y hst hl hs
    obtain ⟨h1, h2⟩ := stOk_iff.1 hst
    cases s with
    | nil => simp at hs
    | cons b s =>
      have hab := h2 (a, b) (by simp)
      simp only at hab
      have hst' : stOk l s = true := stOk_iff.2 ⟨by simpa using h1, fun p hp => h2 p (by simp [hp])⟩
      cases w with
      | zero =>
        simp at hl hs
        subst hl; subst hs
        have hm : imin (b + 1) a ≤ a ∧ b ≤ imin (b + 1) a := by unfold imin; split <;> omega
        refine ⟨stOk_iff.2 ⟨by simpa using h1, fun p hp => ?_⟩, hm.2, leP_refl _⟩
        simp only [List.set_cons_zero, List.zip_cons_cons, List.mem_cons] at hp
        rcases hp with rfl | hp
        · simp only; omega
        · exact h2 p (by simp [hp])
      | succ w =>
        obtain ⟨h3, h4⟩ := ih s w x y hst' (by simpa using hl) (by simpa using hs)
        obtain ⟨h5, h6⟩ := stOk_iff.1 h3
        refine ⟨stOk_iff.2 ⟨by simpa using h1, fun p hp => ?_⟩, Int.le_refl _, h4⟩
        simp only [List.set_cons_succ, List.zip_cons_cons, List.mem_cons] at hp
        rcases hp with rfl | hp
        · exact hab
        · exact h6 p hp

theorem s7 {v0 v1 : Value} {l s : List Int} {which : Int} {h : H} (hl : SlR h 3 1 v0 (cellsI l)) (hs : SlR h 3 1 v1 (cellsI s)) : ∃ h', rn 7 #[v0, v1, iv which] h = some (.bool true, h') := by
  suffices hh : ∃ h', f7 rn 200010 v0 v1 which h = some (.bool true, h') by
    obtain ⟨h', e⟩ := hh
    exact ⟨_, t7 e⟩
  obtain ⟨a1, h1, q1, x1, z1⟩ := s18 hl
  obtain ⟨a2, h2, q2, x2, z2⟩ := s18 (hs.ext x1)
  have x12 := x1.trans x2
  have c1 := fun (K : Value → H → Option (Value × H)) => calls_eq (K := K) (xs := [_]) q1
  have c2 := fun (K : Value → H → Option (Value × H)) => calls_eq (K := K) (xs := [_]) q2
  cases hb : (tasksP l && stOk l s) with
  | false =>
    have b1 : (tasksP (l.take 14) && stOk (l.take 14) (s.take 14)) = false := by
      cases ht : tasksP l with
      | false => rw [tasks_take, ht]; rfl
      | true =>
        rw [ht, Bool.true_and] at hb
        rw [(tasks_ln ht).choose_spec.2, st_take _ _ (tasks_I ht).len.2, hb, Bool.and_false]
    have c5 := fun (K : Value → H → Option (Value × H)) => calls_eq (K := K) (xs := [_, _]) (s27_bad (z1.ext x2) z2 b1)
    exact ⟨h2, by simp [f7, c1, c2, c5, k19]⟩
  | true =>
    simp only [Bool.and_eq_true] at hb
    obtain ⟨ht, hst⟩ := hb
    have htI := tasks_I ht
    obtain ⟨ln, rfl, htk⟩ := tasks_ln ht
    obtain ⟨hok, h5, hl1, hD, hDpos⟩ := taskI_ok htI
    have hok1 : ∀ x ∈ ln, 1 ≤ x := fun x hx => (hok x hx).1
    obtain ⟨c, hc, hcode, rfl⟩ := st_num hst
    have hlen := (stOk_iff.1 hst).1
    have hsl : (nI (stateP ln c)).take 14 = nI (stateP ln c) := List.take_of_length_le (by simp only [List.length_map] at hlen ⊢; omega)
    rw [htk] at z1
    rw [hsl] at z2
    have c5 := fun (K : Value → H → Option (Value × H)) => calls_eq (K := K) (xs := [_, _]) (s27 (z1.ext x2) z2 ht hc)
    have n0 : ∀ {T : Type} (K : Int → Option T), len v0 K = K (ln.length : Int) := fun K => by rw [hl.len]; simp
    -- the loop over tasks
    have hlp : ∃ g, lpGo (f7_l1 rn 200010 v0 v1 ln.length) 200010 [.bool false, iv 0, iv 0] h2 = some (.exit 0, [.bool false, iv (lifeF ln c), iv ln.length], g) ∧ Ext h2 g := by
      obtain ⟨ws', g, hlp, xg, hw, _⟩ := lp_for (σ := Int) (F := f7_l1 rn 200010 v0 v1 ln.length) (k := 200010) (l := List.range ln.length) (fun _ i b => bestP ln c b i)
        (fun i b ws g => Ext h2 g ∧ ws = [.bool false, iv b, iv i] ∧ -1 ≤ b ∧ b ≤ 20001) 0 (ws := [.bool false, iv 0, iv 0]) (h := h2) (s0 := 0)
        ⟨.refl _, rfl, by decide, by decide⟩ (by rw [List.length_range]; omega)
        (by
          rintro b ws g ⟨_, rfl, _⟩
          simp [f7_l1])
        (by
          rintro i x b ws g hx ⟨xg, rfl, hb1, hb2⟩
          obtain ⟨hi, hxi⟩ := List.getElem?_eq_some_iff.1 hx
          rw [List.getElem_range] at hxi
          subst hxi
          rw [List.length_range] at hi
          have hadd : add .i64 (i : Int) 1 = (i : Int) + 1 := add64 (by omega) (by omega)
          have xg2 := x12.trans xg
          obtain ⟨p1, g1, r1, y1, w1⟩ := s18 (hl.ext xg2)
          obtain ⟨p2, g2, r2, y2, w2⟩ := s18 (hs.ext (xg2.trans y1))
          rw [htk] at w1
          rw [hsl] at w2
          obtain ⟨p3, g3, r3, y3, w3⟩ := s28 (task := (i : Int)) (w1.ext y2) w2 ht hst (by omega) (by simp; omega)
          have yy := (y1.trans y2).trans y3
          have d1 := fun (K : Value → H → Option (Ex × List Value × H)) => calls_eq (K := K) (xs := [_]) r1
          have d2 := fun (K : Value → H → Option (Ex × List Value × H)) => calls_eq (K := K) (xs := [_]) r2
          have d3 := fun (K : Value → H → Option (Ex × List Value × H)) => calls_eq (K := K) (xs := [_, _, _]) r3
          cases ho : nextP (nI ln) (nI (stateP ln c)) (i : Int) with
          | none =>
            rw [ho] at d3 w3
            have hbp : bestP ln c b i = b := by unfold bestP; rw [ho]
            refine ⟨[.bool false, iv b, iv ((i : Int) + 1)], g3, ?_, xg.trans yy, by rw [hbp]; rfl, by rw [hbp]; exact ⟨hb1, hb2⟩⟩
            simp only [Option.isSome_none, Bool.false_eq_true, if_false] at d3
            simp [f7_l1, hi, d1, d2, d3, hadd]
          | some o =>
            rw [ho] at d3 w3
            have hso := next_ok (fun x hx => (htI.rng x hx).1) hst ho
            obtain ⟨t, ht1, ht2, rfl⟩ := st_num hso
            obtain ⟨p4, g4, r4, y4, w4⟩ := s18 ((hl.ext xg2).ext yy)
            rw [htk] at w4
            have d4 := fun (K : Value → H → Option (Ex × List Value × H)) => calls_eq (K := K) (xs := [_]) r4
            have d5 := fun (K : Value → H → Option (Ex × List Value × H)) => calls_eq (K := K) (xs := [_, _]) (s27 w4 (w3.ext y4) ht ht1)
            have hlt := lifeF_lt hok1 ht1
            have hbp : bestP ln c b i = if lifeF ln t < 0 ∨ b < 0 then -1 else imax b (lifeF ln t + 1) := by unfold bestP; rw [ho]; simp only [ht2, Int.toNat_natCast]
            have hadd2 : add .i64 (lifeF ln t) 1 = lifeF ln t + 1 := add64 (by omega) (by omega)
            have hnm : ¬ lifeF ln t < -1 := by omega
            simp only [Option.isSome_some, if_true] at d3
            have hmb : 0 ≤ b → 0 ≤ lifeF ln t → 0 ≤ imax b (lifeF ln t + 1) ∧ imax b (lifeF ln t + 1) ≤ 20001 := by unfold imax; intros; split <;> omega
            refine ⟨[.bool false, iv (bestP ln c b i), iv ((i : Int) + 1)], g4, ?_, xg.trans (yy.trans y4), rfl, ?_⟩
            · rw [hbp]
              by_cases hn1 : lifeF ln t < 0
              · simp [f7_l1, hi, d1, d2, d3, d4, d5, hnm, hn1, hadd]
              · by_cases hn2 : b < 0
                · simp [f7_l1, hi, d1, d2, d3, d4, d5, hnm, hn1, hn2, hadd]
                · simp [f7_l1, hi, d1, d2, d3, d4, d5, hnm, hn1, hn2, hadd, hadd2]
            · rw [hbp]
              split
              · omega
              · have := hmb (by omega) (by omega)
                omega)
      have hf : foldI (fun (_ : Nat) i b => bestP ln c b i) (List.range ln.length) 0 0 = lifeF ln c := by
        rw [← best_life hok1 hc]
        exact foldI_l _ _ _ _
      rw [hf, List.length_range] at hw
      subst hw
      exact ⟨g, hlp, xg⟩
    obtain ⟨g, hlp, xg⟩ := hlp
    have xg2 := x12.trans xg
    obtain ⟨w, hw, hwe⟩ := which_nat which (n := ln.length) (by omega) (by omega)
    have hu : wr .u64 (ln.length : Int) = (ln.length : Int) := u64_small (by omega) (by omega)
    obtain ⟨p1, g1, r1, y1, w1⟩ := s18A (hs.ext xg2)
    rw [hsl] at w1
    have hne : nI (stateP ln c) ≠ [] := fun e => by rw [e] at hlen; simp at hlen; omega
    obtain ⟨b, hb1, hb2, ia⟩ := w1.ia hne
    have hlw : (nI ln)[w]? = some ((nI ln)[w]'(by simp; omega)) := List.getElem?_eq_getElem _
    have hsw : (nI (stateP ln c))[w]? = some ((nI (stateP ln c))[w]'(by rw [hlen]; simp; omega)) := List.getElem?_eq_getElem _
    generalize (nI ln)[w]'(by simp; omega) = y at hlw
    generalize (nI (stateP ln c))[w]'(by rw [hlen]; simp; omega) = x at hsw
    have hxy : 1 ≤ x ∧ x ≤ y ∧ y ≤ 40 := by
      have h1 := (stOk_iff.1 hst).2 (x, y)
      have hz : ((nI ln).zip (nI (stateP ln c)))[w]? = some (y, x) := by
        rw [List.getElem?_zip_eq_some]; exact ⟨hlw, hsw⟩
      have h2 := (stOk_iff.1 hst).2 _ (List.mem_of_getElem? hz)
      have h3 := htI.rng y (List.mem_of_getElem? hlw)
      simp only at h2
      omega
    obtain ⟨hst2, hle⟩ := more_ok _ _ w x y hst hlw hsw
    obtain ⟨c', hc', _, hcs⟩ := st_num hst2
    have x3 : Ext g g1 := y1
    have hlg := (hl.ext xg2).ext y1
    have e1 : ∀ (K : Value → Option (Value × H)), (six p1 (w : Int) 1 fun b o => (g1.cell b o).bind K) = K (iv x) := fun K => ia.get (by omega) (by rw [Int.toNat_natCast]; exact hsw) K
    have e2 : ∀ (K : Value → Option (Value × H)), (six v0 (w : Int) 1 fun b o => (g1.cell b o).bind K) = K (iv y) := fun K => hlg.c0 (by omega) (x := [iv y]) (by rw [Int.toNat_natCast, List.getElem?_map, hlw]; rfl) rfl K
    have e3 : ∀ (z : Int) (K : H → Option (Value × H)), (six p1 (w : Int) 1 fun b o => (wrc 1 g1 b o (.int .i64 z)).bind K) = K (g1.set b (.row (((nI (stateP ln c)).set w z).map iv) 3 true)) := fun z K => by
      have hwl := (List.getElem?_eq_some_iff.1 hsw).1
      rw [ia.put (by omega) (by rw [Int.toNat_natCast]; exact hwl), ia.wrc (i := ((w : Int)).toNat) (by rw [Int.toNat_natCast]; exact hwl), Int.toNat_natCast]; rfl
    have hadd : add .i64 x 1 = x + 1 := add64 (by omega) (by omega)
    have ia2 := ia.set w (imin (x + 1) y)
    have e3 := e3 (imin (x + 1) y)
    have x5 : Ext g (g1.set b (.row (((nI (stateP ln c)).set w (imin (x + 1) y)).map iv) 3 true)) := ⟨y1.nx, fun q hq => by rw [blk_set_ne _ _ _ (by omega)]; exact y1.blk q hq⟩
    generalize g1.set b (.row (((nI (stateP ln c)).set w (imin (x + 1) y)).map iv) 3 true) = g2 at *
    obtain ⟨p2, g3, r3, y3, w3⟩ := s18 (hl.ext (xg2.trans x5))
    rw [htk] at w3
    have hs2 := (ia2.slR).ext y3
    rw [hcs] at hs2
    rw [hcs] at hle
    have d1 := fun (K : Value → H → Option (Value × H)) => calls_eq (K := K) (xs := [_]) r1
    have d3' := fun (K : Value → H → Option (Value × H)) => calls_eq (K := K) (xs := [_]) r3
    have d4 := fun (K : Value → H → Option (Value × H)) => calls_eq (K := K) (xs := [_, _]) (s27 w3 hs2 ht hc')
    have hfin : lifeF ln c' < 0 ∨ (0 ≤ lifeF ln c ∧ lifeF ln c ≤ lifeF ln c') := by
      rcases Int.lt_or_le (lifeF ln c') 0 with h | h
      · exact .inl h
      · obtain ⟨n, hn⟩ := Int.eq_ofNat_of_zero_le h
        have := life_mono hok1 n c c' hc hc' hle hn
        right; omega
    have hnz : ∀ (x : Option (Value × H)), nz (wr .u64 (ln.length : Int)) x = x := fun x => nz_ne (by rw [hu]; omega) x
    refine ⟨g3, ?_⟩
    unfold f7
    rw [c1, c2, c5]
    simp only [ext20, ext21, asI_int, show (!AM.eq 0 0) = false from rfl, ifB_false, n0]
    refine (lp_eq hlp).trans ?_
    by_cases hn : lifeF ln c' < 0
    · simp [n0, hnz, d1, hwe, e1, e2, hadd, e3, d3', d4, hn, k19]
    · have := hfin.resolve_left hn
      simp [n0, hnz, d1, hwe, e1, e2, hadd, e3, d3', d4, hn, this.1, this.2, k19]

end Go.AM
