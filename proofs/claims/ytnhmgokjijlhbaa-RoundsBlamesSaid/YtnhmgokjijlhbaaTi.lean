/- Timetable, Check, and the document's; RoundsTables. -/
import Derived.Test.YtnhmgokjijlhbaaTh
import Derived.Test.YtnhmgokjijlhbaaTq
namespace Go.AM
open Go.Proofs

variable {R : Type}

attribute [local simp] nx_eq nx_new nx_set blk_new blk_set asI_int asK_int asB_bool asP_ptr al_eq bx_eq len_slice onE_exit onE_ret onR_ret Value.cells d3 d4 d22 d27 d45 d47 d50 d52 d67 d88 d89 w22 w27 cell_new cell_set rd_new rd_set off eq lt le ifB gv out eqF1 eqF2 eqF3 eqF4 eqF5 eqF6 eqF7 eqF8 ext20 ext21

/-- The first right timetable. -/
def tableP (p e : Int) (l : List Sp) : Option (List Int) := firstP p l (fullS l) e.toNat []

/-- Is a timetable right? -/
def rightP (p e : Int) (l : List Sp) (t : List Int) : Bool := decide ((t.length : Int) = e) && t.all (fun x => decide (0 ≤ x) && decide (x < p)) && l.all (fun c => keepP p c (atI t c.a) (atI t c.b))

theorem shl_full {l : List Sp} (h : l.length ≤ 12) : sub .i64 (AM.shl .i64 1 (l.length : Int)) 1 = (fullS l : Int) := by
  have h1 : 2 ^ l.length ≤ 2 ^ 12 := Nat.pow_le_pow_right (by omega) h
  have h2 : 0 < 2 ^ l.length := Nat.pos_of_ne_zero (by simp)
  rw [shl1_nat (by omega), sub64 (by omega) (by omega)]
  unfold fullS
  omega

theorem s47 {p e : Int} {sl : Value} {l : List Sp} {h : H} (hs : SlR h 67 4 sl (l.map Sp.cells)) :
    ∃ v' h' c, rn 47 #[.agg #[iv p, iv e, sl]] h = some (.tuple #[v', iv c], h') ∧ Ext h h' ∧
      (tabOk p e l = false ∧ v' = .slice none 0 0 ∧ c = 2 ∨ tabOk p e l = true ∧ tableP p e l = none ∧ v' = .slice none 0 0 ∧ c = 4 ∨ tabOk p e l = true ∧ c = 0 ∧ ∃ r, tableP p e l = some r ∧ r.length = e.toNat ∧ SlR h' 3 1 v' (cellsI r)) := by
  have x1 := Ext.new h (.row [iv p, iv e, sl] 52 true)
  have hb1 : (h.new (.row [iv p, iv e, sl] 52 true)).blk h.nx = some (.row [iv p, iv e, sl] 52 true) := blk_new_self _ _
  have kbx : ∀ (K : H → Option (Value × H)), bx h 52 (.agg #[iv p, iv e, sl]) K = K (h.new (.row [iv p, iv e, sl] 52 true)) := fun K => rfl
  have hs1 := hs.ext x1
  generalize h.new (.row [iv p, iv e, sl] 52 true) = h1 at *
  have c71 := fun (K : Value → H → Option (Value × H)) => calls_eq (K := K) (xs := [.agg #[iv p, iv e, sl]]) (s71 (p := p) (e := e) hs1)
  have hsn : ∀ {T : Type} (K : Int → Option T), len sl K = K (l.length : Int) := fun K => by rw [hs.len]; simp
  by_cases hv : tabOk p e l = true
  · have he6 : 1 ≤ e ∧ e ≤ 6 := by simp only [tabOk, Bool.and_eq_true, decide_eq_true_iff] at hv; omega
    have hl12 : l.length ≤ 12 := by simp [tabOk] at hv; omega
    have hfl : fullS l < 2 ^ 62 := by
      have h1 : 2 ^ l.length ≤ 2 ^ 12 := Nat.pow_le_pow_right (by omega) hl12
      unfold fullS; omega
    obtain ⟨v', h', e77, x', hres⟩ := s77 hv hfl hs1
    have c77 := fun (K : Value → H → Option (Value × H)) => calls_eq (K := K) (xs := [.agg #[iv p, iv e, sl], iv (fullS l)]) e77
    rcases hres with ⟨hno, rfl⟩ | ⟨r, hyes, hrl, hsr⟩
    · refine ⟨.slice none 0 0, h', 4, x47 (k := 0) ?_ rfl, x1.trans x', .inr (.inl ⟨hv, hno, rfl, rfl⟩)⟩
      have kn : ∀ (K : Bool → Option (Value × H)), eqv Try.prog 22 (.slice none 0 0) (.slice none 0 0) K = K true := fun K => by unfold eqv; rw [nil22]
      unfold f47
      rw [kbx]
      simp [rd_of hb1, c71, hv, cell_of hb1, hsn, nn_ge, shl_full hl12, c77, kn]
    · refine ⟨v', h', 0, x47 (k := 0) ?_ hsr.notR2, x1.trans x', .inr (.inr ⟨hv, rfl, r, hyes, hrl, hsr⟩)⟩
      have hr : r ≠ [] := by intro e; subst e; simp at hrl; omega
      have kn := fun (K : Bool → Option (Value × H)) => nil22e hsr hr K
      unfold f47
      rw [kbx]
      simp [rd_of hb1, c71, hv, cell_of hb1, hsn, nn_ge, shl_full hl12, c77, kn]
  · have hv' : tabOk p e l = false := by simpa using hv
    refine ⟨.slice none 0 0, h1, 2, x47 (k := 0) ?_ rfl, x1, .inl ⟨hv', rfl, rfl⟩⟩
    unfold f47
    rw [kbx]
    simp [rd_of hb1, c71, hv']

theorem s49 {p e : Int} {sl : Value} {l : List Sp} {h : H} (hs : SlR h 89 4 sl (l.map Sp.cells)) (hv : tabOk p e l = true) :
    ∃ v' h' c, rn 49 #[.agg #[iv p, iv e, sl]] h = some (.tuple #[v', iv c], h') ∧ Ext h h' ∧ (tableP p e l = none ∧ v' = .slice none 0 0 ∧ c = 4 ∨ c = 0 ∧ ∃ r, tableP p e l = some r ∧ SlR h' 3 1 v' (cellsI r)) := by
  have x1 := Ext.new h (.row [iv p, iv e, sl] 47 true)
  have hb1 : (h.new (.row [iv p, iv e, sl] 47 true)).blk h.nx = some (.row [iv p, iv e, sl] 47 true) := blk_new_self _ _
  have kbx : ∀ (K : H → Option (Value × H)), bx h 47 (.agg #[iv p, iv e, sl]) K = K (h.new (.row [iv p, iv e, sl] 47 true)) := fun K => rfl
  have hs1 := hs.ext x1
  generalize h.new (.row [iv p, iv e, sl] 47 true) = h1 at *
  have he6 : 1 ≤ e ∧ e ≤ 6 := by simp only [tabOk, Bool.and_eq_true, decide_eq_true_iff] at hv; omega
  obtain ⟨v', h', e83, x', hres⟩ := s83 hv e.toNat [] (.slice none 0 0) h1 (by simp; omega) hs1 .nil (by simp)
  rw [timed_eq hv] at hres
  have c83 := fun (K : Value → H → Option (Value × H)) => calls_eq (K := K) (xs := [.agg #[iv p, iv e, sl], .slice none 0 0]) e83
  rcases hres with ⟨hno, rfl⟩ | ⟨r, hyes, hsr⟩
  · refine ⟨.slice none 0 0, h', 4, x49 (k := 0) ?_ rfl, x1.trans x', .inl ⟨hno, rfl, rfl⟩⟩
    have kn : ∀ (K : Bool → Option (Value × H)), eqv Try.prog 22 (.slice none 0 0) (.slice none 0 0) K = K true := fun K => by unfold eqv; rw [nil22]
    unfold f49
    rw [kbx]
    simp [rd_of hb1, c83, kn]
  · refine ⟨v', h', 0, x49 (k := 0) ?_ hsr.notR2, x1.trans x', .inr ⟨rfl, r, hyes, hsr⟩⟩
    have hrl := firstP_len _ _ _ hyes
    have hr : r ≠ [] := by intro e; subst e; simp at hrl; omega
    have kn := fun (K : Bool → Option (Value × H)) => nil22e hsr hr K
    unfold f49
    rw [kbx]
    simp [rd_of hb1, c83, kn]

theorem s81 {h : H} {c : Sp} {p e : Int} {sv tv : Value} {t : List Int} {b1 b2 : Nat} (hp : 1 ≤ p ∧ p ≤ 12) (hc : 0 ≤ c.a ∧ c.a < t.length ∧ 0 ≤ c.b ∧ c.b < t.length ∧ 0 ≤ c.lo ∧ c.lo ≤ 22) (hr : ∀ x ∈ t, 0 ≤ x ∧ x < p)
    (h1 : b1 < h.nx) (hb1 : h.blk b1 = some (.row [iv p, iv e, sv] 52 true)) (h2 : b2 < h.nx) (hb2 : h.blk b2 = some (.row [tv] 22 true)) (ht : SlR h 3 1 tv (cellsI t)) :
    rn 81 #[c.val, pt b1 0, pt b2 0] h = some (.bool (!keepP p c (atI t c.a) (atI t c.b)), h) := by
  refine p81 (k := 0) (h1 := h.new (.row c.cells 67 true)) ?_ rfl (.new _ _)
  have x1 := Ext.new h (.row c.cells 67 true)
  have hc1 := (x1.blk b1 h1).trans hb1
  have hc2 := (x1.blk b2 h2).trans hb2
  have ht1 := ht.ext x1
  have hcb : (h.new (.row c.cells 67 true)).blk h.nx = some (.row c.cells 67 true) := blk_new_self _ _
  simp only [f81, bx_eq, asP_ptr, Value.cells, Sp.val]
  generalize h.new (.row c.cells 67 true) = g at *
  simp only [Sp.cells] at hcb
  have ea := fun (K : Value → Option (Value × H)) => getS ht1 (i := c.a) (by omega) hc.2.1 K
  have eb := fun (K : Value → Option (Value × H)) => getS ht1 (i := c.b) (by omega) hc.2.2.2.1 K
  have c82 := fun (K : Value → H → Option (Value × H)) => calls_eq (K := K) (xs := [.agg #[iv p, iv e, sv], .agg #[iv c.a, iv c.b, iv c.lo, iv c.hi], iv (atI t c.a), iv (atI t c.b)]) (s82 (e := e) (sl := sv) (c := c) (h := g) hp (by omega) (at_rng hr (by omega) hc.2.1) (at_rng hr (by omega) hc.2.2.2.1))
  simp [rd_of hcb, cell_of hcb, rd_of hc1, cell_of hc2, ea, eb, c82]

theorem s48 {p e : Int} {sl tv : Value} {l : List Sp} {t : List Int} {h : H} (hs : SlR h 67 4 sl (l.map Sp.cells)) (ht : SlR h 3 1 tv (cellsI t)) (ht5 : t.length < 100000) :
    rn 48 #[.agg #[iv p, iv e, sl], tv] h = some (if tabOk p e l = true then .tuple #[.bool (rightP p e l t), iv 0] else .tuple #[.bool false, iv 2], h) := by
  have x1 := Ext.new h (.row [iv p, iv e, sl] 52 true)
  have x2 := Ext.new (h.new (.row [iv p, iv e, sl] 52 true)) (.row [tv] 22 true)
  have xx := x1.trans x2
  have hn2 : ((h.new (.row [iv p, iv e, sl] 52 true)).new (.row [tv] 22 true)).nx = h.nx + 2 := rfl
  have hb1 : ((h.new (.row [iv p, iv e, sl] 52 true)).new (.row [tv] 22 true)).blk h.nx = some (.row [iv p, iv e, sl] 52 true) := by simp
  have hb2 : ((h.new (.row [iv p, iv e, sl] 52 true)).new (.row [tv] 22 true)).blk (h.nx + 1) = some (.row [tv] 22 true) := by simp
  have hs1 := hs.ext xx
  have ht1 := ht.ext xx
  obtain ⟨tx, tn, tc, rfl⟩ := ht.isSl
  have kbx : ∀ (K : H → H → Option (Value × H)), (bx h 52 (.agg #[iv p, iv e, sl]) fun h1 => bx h1 22 (.slice tx tn tc) fun h2 => K h1 h2) = K (h.new (.row [iv p, iv e, sl] 52 true)) ((h.new (.row [iv p, iv e, sl] 52 true)).new (.row [.slice tx tn tc] 22 true)) := fun K => rfl
  have htn : ∀ {T : Type} (K : Int → Option T), len (.slice tx tn tc) K = K (t.length : Int) := fun K => by rw [ht.len]; simp
  have n1 : (h.new (.row [iv p, iv e, sl] 52 true)).nx = h.nx + 1 := rfl
  have hstart : ∀ v g, (AM.ld Try.prog ((h.new (.row [iv p, iv e, sl] 52 true)).new (.row [.slice tx tn tc] 22 true)) 52 h.nx 0 fun v2 => calls rn ((h.new (.row [iv p, iv e, sl] 52 true)).new (.row [.slice tx tn tc] 22 true)) 71 [v2] fun v3 h3 => asB v3 fun q0 =>
      ifB (!q0) (some ((.tuple #[(.bool false), (.int .i64 2)]), h3)) (AM.ld Try.prog h3 22 (h.nx + 1) 0 fun v4 => len v4 fun n0 => AM.ld Try.prog h3 3 h.nx (AM.off 0 1) fun v5 => asI .i64 v5 fun n1 =>
        ifB (!(AM.eq n0 n1)) (some ((.tuple #[(.bool false), (.int .i64 0)]), h3)) (AM.ld Try.prog h3 22 (h.nx + 1) 0 fun v6 => calls rn h3 78 [v6] fun v7 h4 => asI .i64 v7 fun n2 =>
          ifB (AM.lt n2 0) (some ((.tuple #[(.bool false), (.int .i64 0)]), h4)) (AM.ld Try.prog h4 22 (h.nx + 1) 0 fun v8 => calls rn h4 79 [v8] fun v9 h5 => asI .i64 v9 fun n3 => AM.ld Try.prog h5 3 h.nx 0 fun v10 => asI .i64 v10 fun n4 =>
            ck (freq h.nx (AM.nx h4) (same h5 h4)) (ifB (AM.le n4 n3) (some ((.tuple #[(.bool false), (.int .i64 0)]), h5)) (AM.ld Try.prog h5 50 h.nx (AM.off 0 2) fun v11 =>
              calls rn h5 80 [v11, (.func (.func 81) #[] #[(pt h.nx 0), (pt (h.nx + 1) 0)])] fun v12 h6 => asB v12 fun q1 => some ((.tuple #[(.bool (!q1)), (.int .i64 0)]), h6))))))) = some (v, g) → f48 rn 0 (.agg #[iv p, iv e, sl]) (.slice tx tn tc) h = some (v, g) := fun v g hv => hv
  clear kbx
  generalize (h.new (.row [iv p, iv e, sl] 52 true)).new (.row [.slice tx tn tc] 22 true) = g at *
  have c71 := fun (K : Value → H → Option (Value × H)) => calls_eq (K := K) (xs := [.agg #[iv p, iv e, sl]]) (s71 (p := p) (e := e) hs1)
  by_cases hv : tabOk p e l = true
  · rw [if_pos hv]
    obtain ⟨hp1, hp12⟩ := tab_p hv
    have he6 : 1 ≤ e ∧ e ≤ 6 := by simp only [tabOk, Bool.and_eq_true, decide_eq_true_iff] at hv; omega
    refine p48 (k := 0) (h1 := g) (hstart _ _ ?_) rfl xx
    by_cases hte : (t.length : Int) = e
    · obtain ⟨x0, t', rfl⟩ : ∃ x0 t', t = x0 :: t' := by
        cases t with
        | nil => simp at hte; omega
        | cons x0 t' => exact ⟨x0, t', rfl⟩
      have c78 := fun (K : Value → H → Option (Value × H)) => calls_eq (K := K) (xs := [.slice tx tn tc]) (s78q ht1 (by simp at ht5; omega))
      have c79 := fun (K : Value → H → Option (Value × H)) => calls_eq (K := K) (xs := [.slice tx tn tc]) (s79q ht1 (by simp at ht5; omega))
      have hmin : 0 ≤ minP (x0 :: t') ↔ ∀ x ∈ x0 :: t', 0 ≤ x := by
        rw [List.forall_mem_cons]; exact fold_min t' x0 0
      have hmax : maxP (x0 :: t') ≤ p - 1 ↔ ∀ x ∈ x0 :: t', x ≤ p - 1 := by
        rw [List.forall_mem_cons]; exact fold_max t' x0 (p - 1)
      have hall : (x0 :: t').all (fun x => decide (0 ≤ x) && decide (x < p)) = (decide (0 ≤ minP (x0 :: t')) && decide (maxP (x0 :: t') ≤ p - 1)) := by
        rw [Bool.eq_iff_iff, List.all_eq_true, Bool.and_eq_true, decide_eq_true_iff, decide_eq_true_iff, hmin, hmax]
        constructor
        · intro h
          refine ⟨fun x hx => ?_, fun x hx => ?_⟩ <;> have := h x hx <;> rw [Bool.and_eq_true, decide_eq_true_iff, decide_eq_true_iff] at this <;> omega
        · rintro ⟨h1, h2⟩ x hx
          have := h1 x hx
          have := h2 x hx
          rw [Bool.and_eq_true, decide_eq_true_iff, decide_eq_true_iff]
          omega
      have hck : ∀ (z : Option (Value × H)), ck (freq h.nx g.nx (same g g)) z = z := fun z => by
        rw [same_self]
        have : h.nx < g.nx := by omega
        simp [freq, this, AM.ck]
      generalize hmn : minP (x0 :: t') = mn at *
      generalize hmx : maxP (x0 :: t') = mx at *
      by_cases hm0 : mn < 0
      · have hright : rightP p e l (x0 :: t') = false := by
          unfold rightP
          rw [hall, decide_eq_false (show ¬ 0 ≤ mn by omega)]; simp
        simp [rd_of hb1, c71, hv, cell_of hb2, cell_of hb1, htn, hte, c78, hm0, hright]
      · by_cases hmp : p ≤ mx
        · have hright : rightP p e l (x0 :: t') = false := by
            unfold rightP
            rw [hall, decide_eq_false (show ¬ mx ≤ p - 1 by omega)]; simp
          simp [rd_of hb1, c71, hv, cell_of hb2, cell_of hb1, htn, hte, c78, c79, hm0, hmp, hck, hright]
        · have hrng : ∀ x ∈ x0 :: t', 0 ≤ x ∧ x < p := fun x hx => by
            have := hmin.1 (by omega) x hx
            have := hmax.1 (by omega) x hx
            omega
          have c80 := fun (K : Value → H → Option (Value × H)) => calls_eq (K := K) (xs := [sl, .func (.func 81) #[] #[pt h.nx 0, pt (h.nx + 1) 0]]) (s80 (v1 := .func (.func 81) #[] #[pt h.nx 0, pt (h.nx + 1) 0]) (p := fun c => !keepP p c (atI (x0 :: t') c.a) (atI (x0 :: t') c.b)) hs1 (fun c hc => by
            have := sp_of hv hc
            exact s81 (e := e) ⟨hp1, hp12⟩ (by omega) hrng (by omega) hb1 (by omega) hb2 ht1))
          have hright : rightP p e l (x0 :: t') = !(l.any fun c => !keepP p c (atI (x0 :: t') c.a) (atI (x0 :: t') c.b)) := by
            unfold rightP
            rw [hall, decide_eq_true hte, decide_eq_true (show 0 ≤ mn by omega), decide_eq_true (show mx ≤ p - 1 by omega), Bool.true_and, Bool.true_and, List.any_eq_not_all_not]
            simp
          generalize (l.any fun c => !keepP p c (atI (x0 :: t') c.a) (atI (x0 :: t') c.b)) = q at c80 hright
          have hte' : (t'.length : Int) + 1 = e := by simpa using hte
          simp [hte', rd_of hb1, c71, hv, cell_of hb2, cell_of hb1, htn, hte, c78, c79, hm0, hmp, hck, c80, hright]
    · have hright : rightP p e l t = false := by unfold rightP; rw [decide_eq_false hte]; rfl
      simp [rd_of hb1, c71, hv, cell_of hb2, cell_of hb1, htn, hte, hright]
  · have hv' : tabOk p e l = false := by simpa using hv
    rw [if_neg hv]
    refine p48 (k := 0) (h1 := g) (hstart _ _ ?_) rfl xx
    simp [rd_of hb1, c71, hv']

/-- The document's check. -/
theorem s50 {p e : Int} {sl tv : Value} {l : List Sp} {t : List Int} {h : H} (hs : SlR h 89 4 sl (l.map Sp.cells)) (ht : SlR h 3 1 tv (cellsI t)) (hv : tabOk p e l = true) :
    rn 50 #[.agg #[iv p, iv e, sl], tv] h = some (.bool (rightP p e l t), h) := by
  have hlen := ht.lt62
  rw [List.length_map] at hlen
  obtain ⟨hp1, hp12⟩ := tab_p hv
  have he6 : 1 ≤ e ∧ e ≤ 6 := by simp only [tabOk, Bool.and_eq_true, decide_eq_true_iff] at hv; omega
  have hl12 : l.length ≤ 12 := by simp [tabOk] at hv; omega
  have x1 := Ext.new h (.row [iv p, iv e, sl] 47 true)
  have hb1 : (h.new (.row [iv p, iv e, sl] 47 true)).blk h.nx = some (.row [iv p, iv e, sl] 47 true) := blk_new_self _ _
  have hn1 : h.nx < (h.new (.row [iv p, iv e, sl] 47 true)).nx := Nat.lt_succ_self _
  have kbx : ∀ (K : H → Option (Value × H)), bx h 47 (.agg #[iv p, iv e, sl]) K = K (h.new (.row [iv p, iv e, sl] 47 true)) := fun K => rfl
  have hs1 := hs.ext x1
  have ht1 := ht.ext x1
  generalize h.new (.row [iv p, iv e, sl] 47 true) = h1 at *
  have htn : ∀ {T : Type} (K : Int → Option T), len tv K = K (t.length : Int) := fun K => by rw [ht.len]; simp
  have hsn : ∀ {T : Type} (K : Int → Option T), len sl K = K (l.length : Int) := fun K => by rw [hs.len]; simp
  have hl1 := lp_same (σ := Unit) (ρ := Nat) (F := f50_l1 rn (t.length + 13) tv h t.length) (k := t.length + 13) (l := t) (h := h1) (fun i (_ : Unit) => [.bool false, iv i])
    (fun i x s => if (decide (0 ≤ x) && decide (x < p)) = true then .inl s else .inr i) (fun _ _ => True) (fun _ => .ret) (fun i => [.bool false, iv i]) 0 (fun _ => [.bool false, iv t.length]) (ws := [.bool false, iv 0]) (s0 := ()) rfl trivial (by omega) (by simp)
    (fun _ _ => by simp [f50_l1])
    (by
      intro i x _ hx _
      have hi := (List.getElem?_eq_some_iff.1 hx).1
      refine ⟨fun _ _ => trivial, ?_⟩
      have e1 := fun (K : Value → Option (Ex × List Value × H)) => ht1.c0 (i := (i : Int)) (by omega) (x := [iv x]) (by simp [hx]) (y := iv x) rfl K
      have hadd : add .i64 (i : Int) 1 = (i : Int) + 1 := add64 (by omega) (by omega)
      by_cases hx0 : x < 0
      · simp [f50_l1, hi, e1, hx0, show ¬ 0 ≤ x by omega, rnd]
      · by_cases hxp : p ≤ x
        · simp [f50_l1, hi, e1, hx0, hxp, cell_of hb1, show ¬ x < p by omega, rnd]
        · simp [f50_l1, hi, e1, hx0, hxp, cell_of hb1, show 0 ≤ x by omega, show x < p by omega, rnd, hadd])
  rcases itL_all (ok := fun _ (x : Int) => decide (0 ≤ x) && decide (x < p)) (g := fun i _ => i) (s0 := ()) t 0 with ⟨⟨r, h1'⟩, j, x, hx, h2⟩ | ⟨h1', h2⟩
  · rw [h1'] at hl1
    have hright : rightP p e l t = false := by
      have : t.all (fun x => decide (0 ≤ x) && decide (x < p)) = false := by
        rw [List.all_eq_false]
        exact ⟨x, List.mem_of_getElem? hx, by simpa using h2⟩
      unfold rightP
      rw [this]; simp
    refine p50 (k := t.length + 13) (h1 := h1) ?_ rfl x1
    unfold f50
    rw [kbx]
    simp [htn, lp_eq hl1, hright]
  · rw [h1'] at hl1
    have hall : t.all (fun x => decide (0 ≤ x) && decide (x < p)) = true := by
      rw [List.all_eq_true]
      intro x hx
      obtain ⟨j, hj, rfl⟩ := List.getElem_of_mem hx
      exact h2 j _ (List.getElem?_eq_getElem hj)
    have hrng : ∀ x ∈ t, 0 ≤ x ∧ x < p := fun x hx => by
      have := List.all_eq_true.1 hall x hx
      simpa using this
    by_cases hte : (t.length : Int) = e
    · subst hte
      obtain ⟨g', xg, hl2⟩ := lp_list (σ := Unit) (ρ := Nat) (F := f50_l2 rn (t.length + 13) tv h sl l.length) (k := t.length + 13) (l := l) (h1 := h1) (fun i (_ : Unit) => [.bool false, iv i])
        (fun i c s => if keepP p c (atI t c.a) (atI t c.b) = true then .inl s else .inr i) (fun _ _ => True) (fun _ => .ret) (fun i => [.bool false, iv i]) 2 (fun _ => [.bool false, iv l.length]) (ws := [.bool false, iv 0]) (s0 := ()) rfl trivial (by omega) (by simp)
        (fun _ h2 _ _ => by simp [f50_l2])
        (by
          intro i c _ g1 hc _ x2
          have hi := (List.getElem?_eq_some_iff.1 hc).1
          have hadd : add .i64 (i : Int) 1 = (i : Int) + 1 := add64 (by omega) (by omega)
          have x3 := (Ext.refl g1).fresh 89 [iv 0, iv 0, iv 0, iv 0] c.cells
          have hcb := blk_fresh g1 89 [iv 0, iv 0, iv 0, iv 0] c.cells
          refine ⟨fun _ _ => trivial, g1.fresh 89 [iv 0, iv 0, iv 0, iv 0] c.cells, x3, ?_⟩
          have ht3 := ht1.ext (x2.trans x3)
          have hb3 := ((x2.trans x3).blk _ hn1).trans hb1
          unfold f50_l2
          rw [show AM.gv [.bool false, iv i] 1 = iv i from rfl, asI_int, lt_t (by omega), ifB_true, asK_int, (hs1.ext x2).ldA ag89 sz89 (by omega) (x := c.cells) (by simp [hc]),
            al_st (zs := [iv 0, iv 0, iv 0, iv 0]) (xs := c.cells) sz89 rfl rfl]
          generalize g1.fresh 89 [iv 0, iv 0, iv 0, iv 0] c.cells = h7 at *
          simp only [Sp.cells] at hcb
          have hok := sp_of hv (List.mem_of_getElem? hc)
          have ea := fun (K : Value → Option (Ex × List Value × H)) => getS ht3 (i := c.a) (by omega) (by omega) K
          have eb := fun (K : Value → Option (Ex × List Value × H)) => getS ht3 (i := c.b) (by omega) (by omega) K
          have c84 := fun (K : Value → H → Option (Ex × List Value × H)) => calls_eq (K := K) (xs := [.agg #[iv p, iv t.length, sl], .agg #[iv c.a, iv c.b, iv c.lo, iv c.hi], iv (atI t c.a), iv (atI t c.b)]) (s84 (e := t.length) (sl := sl) (c := c) (h := h7) ⟨hp1, hp12⟩ (by omega) (at_rng hrng (by omega) (by omega)) (at_rng hrng (by omega) (by omega)))
          cases hk : keepP p c (atI t c.a) (atI t c.b) with
          | true => simp [cell_of hcb, rd_of hcb, rd_of hb3, ea, eb, c84, hk, rnd, hadd]
          | false => simp [cell_of hcb, rd_of hcb, rd_of hb3, ea, eb, c84, hk, rnd])
      refine p50 (k := t.length + 13) (h1 := g') ?_ rfl (x1.trans xg)
      have hright : rightP p t.length l t = l.all (fun c => keepP p c (atI t c.a) (atI t c.b)) := by
        unfold rightP
        rw [decide_eq_true (show (t.length : Int) = (t.length : Int) from rfl), hall]; rfl
      unfold f50
      rw [kbx]
      rcases itL_all (ok := fun _ (c : Sp) => keepP p c (atI t c.a) (atI t c.b)) (g := fun i _ => i) (s0 := ()) l 0 with ⟨⟨r, h1''⟩, j, x, hx, h2'⟩ | ⟨h1'', h2'⟩
      · rw [h1''] at hl2
        have : l.all (fun c => keepP p c (atI t c.a) (atI t c.b)) = false := by
          rw [List.all_eq_false]
          exact ⟨x, List.mem_of_getElem? hx, by simpa using h2'⟩
        rw [hright, this]
        simp [htn, lp_eq hl1.1, cell_of hb1, hsn, lp_eq hl2]
      · rw [h1''] at hl2
        have : l.all (fun c => keepP p c (atI t c.a) (atI t c.b)) = true := by
          rw [List.all_eq_true]
          intro x hx
          obtain ⟨j, hj, rfl⟩ := List.getElem_of_mem hx
          exact h2' j _ (List.getElem?_eq_getElem hj)
        rw [hright, this]
        simp [htn, lp_eq hl1.1, cell_of hb1, hsn, lp_eq hl2.1]
    · have hright : rightP p e l t = false := by unfold rightP; rw [decide_eq_false hte]; rfl
      refine p50 (k := t.length + 13) (h1 := h1) ?_ rfl x1
      unfold f50
      rw [kbx]
      simp [htn, lp_eq hl1.1, cell_of hb1, hte, hright]

theorem right_take {p e : Int} {l : List Sp} {t : List Int} (hv : tabOk p e l = true) : rightP p e l (t.take 14) = rightP p e l t := by
  have he6 : 1 ≤ e ∧ e ≤ 6 := by simp only [tabOk, Bool.and_eq_true, decide_eq_true_iff] at hv; omega
  by_cases hc : t.length ≤ 14
  · rw [List.take_of_length_le hc]
  · unfold rightP
    rw [decide_eq_false (show ¬ ((t.take 14).length : Int) = e by simp; omega), decide_eq_false (show ¬ (t.length : Int) = e by omega)]
    rfl

/-- The law. -/
theorem s13 {h : H} {p e : Int} {sl tv : Value} {l : List Sp} {t : List Int} (hs : SlR h 89 4 sl (l.map Sp.cells)) (ht : SlR h 3 1 tv (cellsI t)) :
    ∃ h', rn 13 #[.agg #[iv p, iv e, sl], tv] h = some (.bool true, h') := by
  have x1 := Ext.new h (.row [iv p, iv e, sl] 47 true)
  have hb1 : (h.new (.row [iv p, iv e, sl] 47 true)).blk h.nx = some (.row [iv p, iv e, sl] 47 true) := blk_new_self _ _
  have hn1 : h.nx < (h.new (.row [iv p, iv e, sl] 47 true)).nx := Nat.lt_succ_self _
  have kbx : ∀ (K : H → Option (Value × H)), bx h 47 (.agg #[iv p, iv e, sl]) K = K (h.new (.row [iv p, iv e, sl] 47 true)) := fun K => rfl
  have hs1 := hs.ext x1
  have ht1 := ht.ext x1
  generalize h.new (.row [iv p, iv e, sl] 47 true) = h1 at *
  obtain ⟨sl2, h2, e37, x2, hs2⟩ := s37 (p := p) (e := e) hs1
  have c37 := fun (K : Value → H → Option (Value × H)) => calls_eq (K := K) (xs := [.agg #[iv p, iv e, sl]]) e37
  obtain ⟨v3, h3, c, e47, x3, hres⟩ := s47 (p := p) (e := e) hs2
  have c47 := fun (K : Value → H → Option (Value × H)) => calls_eq (K := K) (xs := [.agg #[iv p, iv e, sl2]]) e47
  obtain ⟨sl4, h4, e37', x4, hs4⟩ := s37 (p := p) (e := e) ((hs1.ext x2).ext x3)
  have c37' := fun (K : Value → H → Option (Value × H)) => calls_eq (K := K) (xs := [.agg #[iv p, iv e, sl]]) e37'
  obtain ⟨tv5, h5, e18, x5, ht5⟩ := s18 (((ht1.ext x2).ext x3).ext x4)
  have c18 := fun (K : Value → H → Option (Value × H)) => calls_eq (K := K) (xs := [tv]) e18
  have c48 := fun (K : Value → H → Option (Value × H)) => calls_eq (K := K) (xs := [.agg #[iv p, iv e, sl4], tv5]) (s48 (p := p) (e := e) (hs4.ext x5) ht5 (by simp; omega))
  have x15 := ((x2.trans x3).trans x4).trans x5
  have hs5 := hs1.ext x15
  have htt := ht1.ext x15
  have hb3 := ((x2.trans x3).blk _ hn1).trans hb1
  have hb5 := (x15.blk _ hn1).trans hb1
  have c38 := fun (K : Value → H → Option (Value × H)) => calls_eq (K := K) (xs := [.agg #[iv p, iv e, sl]]) (s38 (p := p) (e := e) hs5)
  have c19 := fun (g : H) (K : Value → H → Option (Value × H)) => calls_eq (K := K) (xs := []) (s19 g)
  have keqv4 : ∀ (a : Bool) (K : Bool → Option (Value × H)), eqv Try.prog 4 (.bool a) (.bool a) K = K true := fun a K => by
    have : binOp Try.prog .eql 4 (.bool a) (.bool a) = some (.bool (a == a)) := by kernel_rfl
    unfold eqv
    rw [this]; simp
  rw [tabOk_take] at c48
  have hstart : ∀ g, f13 rn 0 (.agg #[iv p, iv e, sl]) tv h = some (.bool true, g) → ∃ h', rn 13 #[.agg #[iv p, iv e, sl], tv] h = some (.bool true, h') := fun g hf => ⟨_, t13 hf⟩
  by_cases hv : tabOk p e l = true
  · have htk : l.take 14 = l := List.take_of_length_le (by
      simp only [tabOk, Bool.and_eq_true, decide_eq_true_iff] at hv; omega)
    rw [htk] at c48 hres
    rw [if_pos hv, right_take hv] at c48
    obtain ⟨v7, h7, c7, e49, x7, hres2⟩ := s49 hs5 hv
    have c49 := fun (K : Value → H → Option (Value × H)) => calls_eq (K := K) (xs := [.agg #[iv p, iv e, sl]]) e49
    have hb7 := (x7.blk _ (by have := x15.nx; omega)).trans hb5
    have c50 := fun (K : Value → H → Option (Value × H)) => calls_eq (K := K) (xs := [.agg #[iv p, iv e, sl], tv]) (s50 (p := p) (e := e) (hs5.ext x7) (htt.ext x7) hv)
    have hfin : (∃ r, SlR h7 3 1 v3 (cellsI r) ∧ SlR h7 3 1 v7 (cellsI r)) ∧ c = c7 := by
      rcases hres with ⟨hno, _⟩ | ⟨_, hno, rfl, rfl⟩ | ⟨_, rfl, r, hyes, _, hsr⟩
      · rw [hv] at hno; cases hno
      · rcases hres2 with ⟨_, rfl, rfl⟩ | ⟨_, r, hyes, _⟩
        · exact ⟨⟨[], .nil, .nil⟩, rfl⟩
        · rw [hno] at hyes; cases hyes
      · rcases hres2 with ⟨hno, _⟩ | ⟨rfl, r', hyes', hsr'⟩
        · rw [hno] at hyes; cases hyes
        · rw [hyes] at hyes'
          cases hyes'
          exact ⟨⟨r, ((hsr.ext x4).ext x5).ext x7, hsr'⟩, rfl⟩
    obtain ⟨⟨r, q1, q2⟩, rfl⟩ := hfin
    have c26 := fun (K : Value → H → Option (Value × H)) => calls_eq (K := K) (xs := [v3, v7]) (s26q q1 q2)
    refine hstart h7 ?_
    unfold f13
    rw [kbx]
    simp [rd_of hb1, rd_of hb3, rd_of hb5, rd_of hb7, c37, c47, c37', c18, c48, c38, hv, c49, c26, c50, keqv4, c19, ext]
  · have hv' : tabOk p e l = false := by simpa using hv
    rw [if_neg hv] at c48
    have hv2 : tabOk p e (l.take 14) = false := by rw [tabOk_take]; exact hv'
    rcases hres with ⟨_, rfl, rfl⟩ | ⟨h9, _⟩ | ⟨h9, _⟩
    · refine hstart h5 ?_
      unfold f13
      rw [kbx]
      simp [rd_of hb1, rd_of hb3, rd_of hb5, c37, c47, c37', c18, c48, c38, hv', c19, ext]
    · rw [hv2] at h9; cases h9
    · rw [hv2] at h9; cases h9

end Go.AM
