/- The ways, as the document tells them. -/
import Derived.Test.YthmfjfblndophaaCq
namespace Go.AM
open Go.Proofs

variable {R : Type}

attribute [local simp] nx_eq nx_new nx_set blk_new blk_set asI_int asK_int asB_bool asP_ptr al_eq bx_eq len_slice onE_exit onE_ret onR_ret Value.cells d3 d29 d31 d56 d24 d59 d22 d25 d121 d89 d61 w3 w25 w121 cell_new cell_set rd_new rd_set off eq lt le ifB gv out eqF1 eqF2 eqF3 eqF4 eqF5 eqF6 eqF7 eqF8 ext20 ext21 k42 k72 k73 k74

theorem and_one (x : Int) : AM.and .i64 x 1 = 0 ∨ AM.and .i64 x 1 = 1 := by
  unfold AM.and
  show IntKind.i64.wrap ((BitVec.ofInt 64 x &&& BitVec.ofInt 64 1).toNat : Nat) = 0 ∨ IntKind.i64.wrap ((BitVec.ofInt 64 x &&& BitVec.ofInt 64 1).toNat : Nat) = 1
  rw [BitVec.toNat_and, show (BitVec.ofInt 64 1).toNat = 1 from rfl, Nat.and_one_is_mod]
  have : (BitVec.ofInt 64 x).toNat % 2 = 0 ∨ (BitVec.ofInt 64 x).toNat % 2 = 1 := by omega
  rcases this with h | h <;> rw [h]
  · exact .inl rfl
  · exact .inr rfl

/-- A slice without room. -/
theorem full_push {g : H} {wv : Value} {w : List Int} {z : Int} (hw : SlR g 3 1 wv (cellsI w)) (hm : w.length < 1000) :
    ∃ v11 v13 h7, (∀ {R : Type} (K : Value → Option R), sli Try.prog g 25 wv none (some (.int .i64 w.length)) (some (.int .i64 w.length)) K = K v11) ∧
      (∀ {R : Type} (K : Value → H → Option R), app Try.prog (g.new (.row [iv z] 3 true)) 25 25 v11 (.slice (some ⟨g.nx, 0, none⟩) 1 1) K = K v13 h7) ∧ Ext g h7 ∧ h7.wr = g.wr ∧ h7.nx = g.nx + 2 ∧ SlR h7 3 1 v13 (cellsI (w ++ [z])) := by
  obtain ⟨i, z3, h1, h2, h3, h4, h5, h6, h7⟩ := okApp_spec app25
  have h30 : 2 ^ 30 < U := by decide
  have x1 := Ext.new g (.row [iv z] 3 true)
  have hsrc : srcCells 1 (.slice (some ⟨g.nx, 0, none⟩) 1 1) (g.new (.row [iv z] 3 true)) = some [iv z] := by
    simp only [srcCells, Nat.one_mul]
    rw [if_neg (by omega)]
    simp only [H.rd, blk_new_self]
    rfl
  have hlen : lenOf (.slice (some ⟨g.nx, 0, none⟩) 1 1) = some 1 := rfl
  have hold := (hw.ext x1).srcAll (by decide)
  generalize hL : cellsI w = L at hw
  cases hw with
  | nil =>
    have hw0 : w = [] := by simpa using hL
    subst hw0
    refine ⟨.slice none 0 0, .slice (some ⟨g.nx + 1, 0, none⟩) 1 (U + 1), (g.new (.row [iv z] 3 true)).new (.row [iv z] 3 true), fun K => ?_, fun K => ?_, x1.new' _, rfl, rfl, ?_⟩
    · unfold sli slice
      simp only [h1, sz3, Option.bind_some]
      rfl
    · unfold AM.app append
      simp only [h1, h2, h3, hlen, h4, hsrc, Option.bind_some]
      rw [if_pos ⟨h5, h6, h7⟩, if_neg (by omega), if_pos (by omega)]
      rfl
    · exact (AqR.at_ (lo := 0) (l := [[iv z]]) (c := U + 1) (Nat.zero_le _) (Nat.lt_succ_self _) (blk_new_self _ _) (by simp) (by simp) (.inl rfl)).slR
  | @at_ b o c cs own L hb hr hk hc hl hx =>
    subst hL
    have hwl : (cellsI w).length = w.length := by simp
    have hck : capK w.length = w.length := by unfold capK; rw [if_pos (by omega)]
    have hr1 := (x1.blk b hb).trans hr
    refine ⟨.slice (some ⟨b, o, none⟩) w.length w.length, .slice (some ⟨g.nx + 1, 0, none⟩) (w.length + 1) (U + (w.length + 1)), (g.new (.row [iv z] 3 true)).new (.row (w.map iv ++ [iv z]) 3 true), fun K => ?_, fun K => ?_, x1.new' _, rfl, rfl, ?_⟩
    · unfold sli slice
      simp only [h1, hr]
      rw [if_pos ⟨trivial, hc, rfl⟩]
      simp only [sz3, Option.bind_some, bound]
      rw [if_pos ⟨by omega, by omega⟩]
      simp only [Option.bind_some]
      rw [if_pos ⟨by omega, by omega⟩]
      simp
    · unfold AM.app append
      simp only [h1, h2, h3, hlen, h4, hsrc, Option.bind_some]
      rw [if_pos ⟨h5, h6, h7⟩, if_neg (by omega), hck, if_neg (by omega), if_pos (by omega), if_pos (by omega)]
      have hrd : (if w.length = 0 then some [] else (g.new (.row [iv z] 3 true)).rd b o (w.length * 1)) = some (w.map iv) := by
        split
        · rename_i h9
          rw [List.eq_nil_of_length_eq_zero h9]
          rfl
        · have := hold
          simp only [srcCells] at this
          rw [hwl, if_neg (by omega)] at this
          rw [this, flat1]
      rw [hrd]
      rfl
    · have := AqR.at_ (lo := 0) (h := (g.new (.row [iv z] 3 true)).new (.row (w.map iv ++ [iv z]) 3 true)) (e := 3) (s := 1) (b := g.nx + 1) (l := cellsI (w ++ [z])) (c := U + (w.length + 1)) (Nat.zero_le _) (Nat.lt_succ_self _) (by rw [flat1]; simp [blk_new]) (by intro x hx; simp only [List.mem_map] at hx; obtain ⟨z, _, rfl⟩ := hx; rfl) (by simp; omega) (.inl (by simp))
      have := this.slR
      simpa using this

theorem SsR.append {h : H} {vs us : List Value} {ls ms : List (List Int)} (a : SsR h vs ls) (b : SsR h us ms) : SsR h (vs ++ us) (ls ++ ms) := by
  refine ⟨by simp [a.1, b.1], fun j v l hv hl => ?_⟩
  by_cases hj : j < vs.length
  · rw [List.getElem?_append_left hj] at hv
    rw [List.getElem?_append_left (by rw [← a.1]; exact hj)] at hl
    exact a.2 j v l hv hl
  · rw [List.getElem?_append_right (by omega)] at hv
    rw [List.getElem?_append_right (by rw [← a.1]; omega), ← a.1] at hl
    exact b.2 _ v l hv hl

theorem SsR.scal {h : H} {vs : List Value} {ls : List (List Int)} (a : SsR h vs ls) : (cellsV vs).flatten.all AM.scal = true := by
  rw [List.all_eq_true]
  intro x hx
  have : x ∈ vs := by
    have : ∀ (l : List Value), x ∈ (cellsV l).flatten → x ∈ l := by
      intro l
      induction l with
      | nil => intro h; simp at h
      | cons y l ih =>
        intro h
        simp only [List.map_cons, List.flatten_cons, List.mem_append, List.mem_cons, List.not_mem_nil, or_false] at h ⊢
        rcases h with h | h
        · exact .inl h
        · exact .inr (ih h)
    exact this vs hx
  obtain ⟨j, hj, rfl⟩ := List.getElem_of_mem this
  obtain ⟨y, n, c, e⟩ := (a.2 j vs[j] (ls[j]'(by rw [← a.1]; exact hj)) (List.getElem?_eq_getElem hj) (List.getElem?_eq_getElem _)).isSl
  rw [e]
  rfl

/-- What the document's search answers. -/
def RefOk (n t : Int) (l : List Cl) (F : Nat) (tm : Int) : Prop :=
  ∀ (p seen : Int) (w : List Int) (sl wv : Value) (g : H), 0 ≤ p ∧ p < n → w.length + F < 100 → p ≠ t → SlR g 59 3 sl (l.map Cl.cells) → SlR g 3 1 wv (cellsI w) →
    ∃ v vs g', rn 111 #[.agg #[iv n, sl], iv p, iv t, iv seen, iv tm, wv] g = some (v, g') ∧ Ext g g' ∧ SlR g' 25 1 v (cellsV vs) ∧ SsR g' vs ((waysF l t F p tm seen).map (w ++ ·))

theorem bls58v (v : Value) (h : H) (hv : ∃ x n c, v = .slice x n c) : buildSlice Try.prog 58 1 [(0, v)] h = some (.slice (some ⟨h.nx, 0, none⟩) 1 1, h.new (.row [v] 25 true)) := by
  obtain ⟨x, n, c, rfl⟩ := hv
  kernel_rfl

theorem s111_end {n t : Int} {l : List Cl} {seen tm : Int} {w : List Int} {sl wv : Value} {g : H} (hw : SlR g 3 1 wv (cellsI w)) :
    ∃ v g', rn 111 #[.agg #[iv n, sl], iv t, iv t, iv seen, iv tm, wv] g = some (v, g') ∧ Ext g g' ∧ SlR g' 25 1 v (cellsV [wv]) ∧ SsR g' [wv] [w] := by
  have x1 : Ext g (g.new (.row [iv n, sl] 24 true)) := .new _ _
  have x2 := x1.new' (.row [wv] 25 true)
  have hb := bls58v wv (g.new (.row [iv n, sl] 24 true)) hw.isSl
  have hc := fun (K : Value → H → Option (Value × H)) => bls_some (K := K) hb
  refine ⟨.slice (some ⟨g.nx + 1, 0, none⟩) 1 1, (g.new (.row [iv n, sl] 24 true)).new (.row [wv] 25 true), x111 (k := 0) ?_ rfl, x2, ?_, ⟨rfl, fun j v m hv hm => ?_⟩⟩
  · simp [f111, hc]
  · exact (AqR.lit (lo := 0) (e := 25) (s := 1) (l := cellsV [wv]) (Nat.zero_le _) rfl (by simp) (by simp)).slR
  · cases j with
    | zero => simp at hv hm; subst hv; subst hm; exact hw.ext x2
    | succ j => simp at hv

theorem fold_len {α β : Type} (st : Nat → α → List β) (L : Nat) : ∀ (l : List α) (i : Nat) (acc : List β), i + l.length = L → (∀ j c, l[j]? = some c → (st (i + j) c).length ≤ 2 ^ (L - (i + j) - 1)) → acc.length + 2 ^ (L - i) ≤ 2 ^ L →
    (foldI (fun i c acc => acc ++ st i c) l i acc).length + 1 ≤ 2 ^ L := by
  intro l
  induction l with
  | nil =>
    intro i acc hi _ h
    simp at hi
    subst hi
    simpa [foldI] using h
  | cons c l ih =>
    intro i acc hi hst h
    simp only [List.length_cons] at hi
    simp only [foldI]
    refine ih (i + 1) _ (by omega) (fun j d hd => by rw [show i + 1 + j = i + (j + 1) by omega]; exact hst (j + 1) d (by simpa using hd)) ?_
    have h1 := hst 0 c rfl
    rw [Nat.add_zero] at h1
    have e1 : 2 ^ (L - i) = 2 ^ (L - i - 1) + 2 ^ (L - i - 1) := by
      rw [← Nat.two_mul, ← Nat.pow_succ']
      congr 1
      omega
    rw [List.length_append, show L - (i + 1) = L - i - 1 by omega]
    omega

theorem ways_few {n t : Int} {l : List Cl} (hv : validP n l = true) : ∀ (F : Nat) (p tm seen : Int) (k : Nat), k ≤ l.length → (∀ j c, l[j]? = some c → tm < c.t → k ≤ j) → (waysF l t F p tm seen).length ≤ 2 ^ (l.length - k) ∧
    ∀ (i : Nat) (c : Cl), l[i]? = some c → (wayStep (waysF l t F) t p tm seen i c).length ≤ 2 ^ (l.length - i - 1) := by
  intro F
  induction F with
  | zero =>
    intro p tm seen k hk hj
    refine ⟨by simp [waysF], fun i c hc => ?_⟩
    unfold wayStep
    split
    · split
      · exact Nat.one_le_two_pow
      · simp [waysF]
    · simp
  | succ F ih =>
    intro p tm seen k hk hj
    have step : ∀ (G : Nat), (∀ (p tm seen : Int) (k : Nat), k ≤ l.length → (∀ j c, l[j]? = some c → tm < c.t → k ≤ j) → (waysF l t G p tm seen).length ≤ 2 ^ (l.length - k)) → ∀ (p tm seen : Int) (i : Nat) (c : Cl), l[i]? = some c →
        (wayStep (waysF l t G) t p tm seen i c).length ≤ 2 ^ (l.length - i - 1) := by
      intro G hG p tm seen i c hc
      have hil := (List.getElem?_eq_some_iff.1 hc).1
      unfold wayStep
      split
      · split
        · exact Nat.one_le_two_pow
        · rw [List.length_map, show l.length - i - 1 = l.length - (i + 1) by omega]
          refine hG _ _ _ (i + 1) (by omega) fun j d hd hlt => ?_
          rcases Nat.lt_or_ge i j with h | h
          · omega
          · rcases Nat.lt_or_ge j i with h' | h'
            · have := (validP_sorted hv h' hd hc).1; omega
            · obtain rfl : j = i := by omega
              rw [hc] at hd; cases hd; omega
      · simp
    have ih' := fun p tm seen k h1 h2 => (ih p tm seen k h1 h2).1
    have full : ∀ (p tm seen : Int) (k : Nat), k ≤ l.length → (∀ j c, l[j]? = some c → tm < c.t → k ≤ j) → (waysF l t (F + 1) p tm seen).length ≤ 2 ^ (l.length - k) := by
      intro p tm seen k hk hj
      simp only [waysF]
      have key : ∀ (l' : List Cl) (i : Nat) (acc : List (List Int)), l.drop i = l' → i + l'.length = l.length → (i ≤ k → acc = []) → (k ≤ i → acc.length + 2 ^ (l.length - i) ≤ 2 ^ (l.length - k)) →
          (foldI (fun i c acc => acc ++ wayStep (waysF l t F) t p tm seen i c) l' i acc).length ≤ 2 ^ (l.length - k) := by
        intro l'
        induction l' with
        | nil =>
          intro i acc _ hi h1 h2
          simp at hi
          simp only [foldI]
          by_cases h3 : k ≤ i
          · exact Nat.le_trans (Nat.le_add_right _ _) (h2 h3)
          · rw [h1 (by omega)]; simp
        | cons c l' ih2 =>
          intro i acc hd hi h1 h2
          simp only [List.length_cons] at hi
          have hc : l[i]? = some c := by
            have := List.getElem?_drop (xs := l) (i := i) (j := 0)
            rw [hd] at this
            simpa using this.symm
          have hdr : l.drop (i + 1) = l' := by
            have := List.drop_drop (i := 1) (j := i) (l := l)
            rw [hd] at this
            rw [← this]
            rfl
          simp only [foldI]
          have hs := step F ih' p tm seen i c hc
          by_cases h3 : k ≤ i
          · refine ih2 (i + 1) _ hdr (by omega) (fun h => by omega) (fun _ => ?_)
            have h4 := h2 h3
            have e1 : 2 ^ (l.length - i) = 2 ^ (l.length - i - 1) + 2 ^ (l.length - i - 1) := by
              rw [← Nat.two_mul, ← Nat.pow_succ']
              congr 1
              omega
            rw [List.length_append, show l.length - (i + 1) = l.length - i - 1 by omega]
            omega
          · have hng : ¬ tm < c.t := fun h => h3 (hj i c hc h)
            have hst0 : wayStep (waysF l t F) t p tm seen i c = [] := by
              unfold wayStep
              rw [if_neg]
              simp [goes, Int.not_lt.1 hng]
            rw [hst0, h1 (by omega), List.append_nil]
            refine ih2 (i + 1) _ hdr (by omega) (fun _ => rfl) (fun h => ?_)
            have : i + 1 = k := by omega
            rw [this]; simp
      refine key l 0 [] (by simp) (by simp) (fun _ => rfl) (fun h => ?_)
      have : k = 0 := by omega
      subst this
      simp
    exact ⟨full p tm seen k hk hj, step (F + 1) full p tm seen⟩

theorem ref_body {n t : Int} {l : List Cl} (hv : validP n l = true) (F : Nat) (tm : Int) (hrec : ∀ tm', tm < tm' → tm' ≤ 30 → RefOk n t l F tm') : RefOk n t l (F + 1) tm := by
  obtain ⟨hn1, hn7, hl24, hok⟩ := validP_ok hv
  intro p seen w sl wv g hp hlen hpt hsl hwv
  have x1 : Ext g (g.new (.row [iv n, sl] 24 true)) := .new _ _
  have hb1 : (g.new (.row [iv n, sl] 24 true)).blk g.nx = some (.row [iv n, sl] 24 true) := blk_new_self _ _
  have hn1' : g.nx < (g.new (.row [iv n, sl] 24 true)).nx := Nat.lt_succ_self _
  have hpw : 2 ^ l.length ≤ 2 ^ 24 := Nat.pow_le_pow_right (by omega) hl24
  obtain ⟨ws', g', hl, hx, sv, vs, hap, hss, hbd, rfl⟩ := lp_for (F := f111_l1 rn 30 p t seen tm wv g sl l.length) (k := 30) (l := l) (fun i c acc => acc ++ wayStep (waysF l t F) t p tm seen i c)
    (fun i acc ws h3 => Ext (g.new (.row [iv n, sl] 24 true)) h3 ∧ ∃ sv vs, AqR (g.nx + 1) h3 25 1 sv (cellsV vs) ∧ SsR h3 vs (acc.map (w ++ ·)) ∧ acc.length + 2 ^ (l.length - i) ≤ 2 ^ l.length ∧ ws = [sv, iv i]) 0 (ws := [.slice none 0 0, iv 0]) (h := g.new (.row [iv n, sl] 24 true)) (s0 := [])
    ⟨.refl _, _, [], .nil, ⟨rfl, fun j v l hv => by simp at hv⟩, by simp, rfl⟩ (by omega)
    (by
      rintro acc ws' h3 ⟨_, sv, vs, _, _, _, rfl⟩
      simp [f111_l1])
    (by
      rintro i c acc ws' h3 hc ⟨hx, sv, vs, hap, hss, hbd, rfl⟩
      have hil := (List.getElem?_eq_some_iff.1 hc).1
      have hcok := hok _ _ hc
      have hadd : add .i64 (i : Int) 1 = (i : Int) + 1 := add64 (by omega) (by omega)
      have y5 := (Ext.refl h3).fresh 59 [iv 0, iv 0, iv 0] c.cells
      have hcb := blk_fresh h3 59 [iv 0, iv 0, iv 0] c.cells
      have n5 : (h3.fresh 59 [iv 0, iv 0, iv 0] c.cells).nx = h3.nx + 1 := rfl
      have x5 := hx.trans y5
      have hb5 := (x5.blk _ hn1').trans hb1
      have hsl5 := hsl.ext (x1.trans x5)
      have hwv5 := hwv.ext (x1.trans x5)
      have a5 := hap.ext y5
      have s5 : SsR (h3.fresh 59 [iv 0, iv 0, iv 0] c.cells) vs (acc.map (w ++ ·)) := hss.keep y5.nx fun v hv q hq => y5.blk q (hss.bel hv hq)
      have hgx := hx.nx
      rw [nx_new] at hgx
      have hst := (ways_few (t := t) hv F p tm seen 0 (by omega) (fun _ _ _ _ => Nat.zero_le _)).2 i c hc
      have e2 : 2 ^ (l.length - i) = 2 ^ (l.length - i - 1) + 2 ^ (l.length - i - 1) := by
        rw [← Nat.two_mul, ← Nat.pow_succ']
        congr 1
        omega
      have hbd' : (acc ++ wayStep (waysF l t F) t p tm seen i c).length + 2 ^ (l.length - (i + 1)) ≤ 2 ^ l.length := by
        rw [List.length_append, show l.length - (i + 1) = l.length - i - 1 by omega]
        omega
      unfold f111_l1
      rw [show gv [sv, iv i] 1 = iv i from rfl, show gv [sv, iv i] 0 = sv from rfl, asI_int, lt_t (by omega), ifB_true, asK_int, (hsl.ext (x1.trans hx)).ldA ag59 sz59 (by omega) (x := c.cells) (by simp [hc])]
      rw [al_st (zs := [iv 0, iv 0, iv 0]) (xs := c.cells) sz59 rfl rfl]
      generalize h3.fresh 59 [iv 0, iv 0, iv 0] c.cells = h5 at *
      simp only [Cl.cells] at hcb
      by_cases hg : goes c p tm seen = true
      · have hg' := hg
        simp only [goes, Bool.and_eq_true, Bool.not_eq_true', decide_eq_false_iff_not] at hg
        obtain ⟨⟨g_t, g_h⟩, g_s⟩ := hg
        have hoth := oth_ok hcok g_h
        have hcalc := oth_calc (by omega) hcok g_h
        have htm : tm < c.t ∧ c.t ≤ 30 := ⟨Int.not_le.1 g_t, (okC_iff.1 hcok).2.2.2.2⟩
        have hin : AM.and .i64 (shr .i64 seen (c.oth p)) 1 = 0 := by
          have h1 : AM.and .i64 (shr .i64 seen (c.oth p)) 1 ≠ 1 := by simpa [inP] using g_s
          exact (and_one _).resolve_right h1
        obtain ⟨v11, v13, h7, e11, e13, x7, w7, n7, s7⟩ := full_push (z := (i : Int)) hwv5 (by omega)
        have hkb : ∀ (K : Value → H → Option (Ex × List Value × H)), bls Try.prog h5 25 1 [(0, iv (i : Int))] K = K (.slice (some ⟨h5.nx, 0, none⟩) 1 1) (h5.new (.row [iv (i : Int)] 3 true)) := fun K => bls_some (bls25 _ _)
        have hck1 : fres wv h5.nx (same (h5.new (.row [iv (i : Int)] 3 true)) h5) = true := by
          have h9 : same (h5.new (.row [iv (i : Int)] 3 true)) h5 = true := by simp [same, wr_new]
          rw [h9]
          have h8 := hwv5
          generalize cellsI w = L at h8
          clear hwv hwv5
          cases h8 with
          | nil => rfl
          | at_ hb' => simp [fres, hb']
        have hck2 : ∀ b, b < h5.nx → freq b h5.nx (same (h5.new (.row [iv (i : Int)] 3 true)) h5) = true := fun b hb => by simp [freq, same, wr_new, hb]
        have hck3 : ∀ b, b < h5.nx → freq b (h5.nx + 1) (same h7 (h5.new (.row [iv (i : Int)] 3 true))) = true := fun b hb => by simp [freq, same, wr_new, w7]; omega
        -- the answer of the call
        obtain ⟨v14, vs', h8, e8, x8, s8, ss8⟩ : ∃ v14 vs' h8, rn 111 #[.agg #[iv n, sl], iv (c.oth p), iv t, iv (AM.or .i64 seen (shl .i64 1 (c.oth p))), iv c.t, v13] h7 = some (v14, h8) ∧ Ext h7 h8 ∧ SlR h8 25 1 v14 (cellsV vs') ∧ SsR h8 vs' ((wayStep (waysF l t F) t p tm seen i c).map (w ++ ·)) := by
          by_cases hto : c.oth p = t
          · obtain ⟨v, g', e1, e2, e3, e4⟩ := s111_end (n := n) (t := t) (l := l) (seen := AM.or .i64 seen (shl .i64 1 (c.oth p))) (tm := c.t) (sl := sl) s7
            refine ⟨v, [v13], g', by rw [hto] at e1 ⊢; exact e1, e2, e3, ?_⟩
            simpa [wayStep, hg', hto] using e4
          · obtain ⟨v, us, g', e1, e2, e3, e4⟩ := hrec c.t htm.1 htm.2 (c.oth p) (withP seen (c.oth p)) (w ++ [(i : Int)]) sl v13 h7 ⟨hoth.1, hoth.2.1⟩ (by simp; omega) hto (hsl5.ext x7) s7
            refine ⟨v, us, g', e1, e2, e3, ?_⟩
            simpa [wayStep, hg', hto, Function.comp_def] using e4
        have hkc : ∀ (K : Value → H → Option (Ex × List Value × H)), calls rn h7 111 [.agg #[iv n, sl], iv (c.oth p), iv t, iv (AM.or .i64 seen (shl .i64 1 (c.oth p))), iv c.t, v13] K = K v14 h8 := fun K => calls_eq (xs := [_, _, _, _, _, _]) e8
        have x58 := x7.trans x8
        have hlv : vs.length = acc.length := by rw [hss.1]; simp
        have hlu : vs'.length = (wayStep (waysF l t F) t p tm seen i c).length := by rw [ss8.1]; simp
        obtain ⟨v15, h9, e9, a9, n9, f9, _⟩ := (a5.ext x58).app app58 app58 s8 ss8.scal (by simp; omega) (by have := x58.nx; omega)
        have svb : ∀ q c, blkOf sv = some q → h5.blk q = some (.row c 3 true) → False := fun q c h1 h2 => by
          have := (a5.blkOf h1).2.2
          rw [this] at h2
          simp at h2
        have keep9 : ∀ v m, SlR h8 3 1 v (cellsI m) → SlR h9 3 1 v (cellsI m) := fun v m hm => slR_keep hm n9 fun q hq => f9 q (slR_bel hm hq) (fun e => by
          generalize cellsI m = L at hm
          cases hm with
          | nil => cases hq
          | at_ _ hr =>
            cases hq
            have := ((a5.ext x58).blkOf e).2.2
            rw [this] at hr
            simp at hr)
        have ssN : SsR h9 (vs ++ vs') ((acc ++ wayStep (waysF l t F) t p tm seen i c).map (w ++ ·)) := by
          rw [List.map_append]
          exact SsR.append ⟨by simpa using hlv, fun j v m hv hm => keep9 v m ((s5.2 j v m hv hm).ext x58)⟩ ⟨by simpa using hlu, fun j v m hv hm => keep9 v m (ss8.2 j v m hv hm)⟩
        refine ⟨[v15, iv ((i : Int) + 1)], h9, ?_, ⟨by have := x58.nx; rw [nx_new]; omega, fun q hq => ?_⟩, v15, vs ++ vs', by simpa using a9, ssN, hbd', rfl⟩
        · have hq1 : h3.nx < h5.nx := by omega
          have hq2 : g.nx < h5.nx := by omega
          have hlw : ∀ (K : Int → Option (Ex × List Value × H)), len wv K = K w.length := fun K => by rw [hwv5.len]; simp
          by_cases hA : c.a = p
          · have hcalc' := hcalc
            rw [hA] at hcalc'
            simp [cell_of hcb, cell_of hb5, rd_of hb5, show tm < c.t from htm.1, hA, hcalc', nn_ge hoth.1, hin, hlw, e11, hkb, hck1, hck2 _ hq1, hck2 _ hq2, e13, hck3 _ hq1, hck3 _ hq2, ck, hkc, e9, hadd]
          · have hB : c.b = p := by simpa [Cl.has, hA] using g_h
            have hcalc' := hcalc
            rw [hB] at hcalc'
            simp [cell_of hcb, cell_of hb5, rd_of hb5, show tm < c.t from htm.1, hA, hB, hcalc', nn_ge hoth.1, hin, hlw, e11, hkb, hck1, hck2 _ hq1, hck2 _ hq2, e13, hck3 _ hq1, hck3 _ hq2, ck, hkc, e9, hadd]
        · have hq' : q < g.nx + 1 := hq
          rw [f9 q (by have := x58.nx; omega) (fun e => by have := (a5.blkOf e).1; omega), x58.blk q (by omega)]
          exact x5.blk q hq
      · have hst0 : wayStep (waysF l t F) t p tm seen i c = [] := by simp [wayStep, hg]
        rw [hst0, List.append_nil] at hbd' ⊢
        refine ⟨[sv, iv ((i : Int) + 1)], h5, ?_, x5, sv, vs, a5, s5, hbd', rfl⟩
        by_cases g_t : tm < c.t
        · by_cases g_h : c.has p = true
          · have hoth := oth_ok hcok g_h
            have hcalc := oth_calc (by omega) hcok g_h
            have hin : AM.and .i64 (shr .i64 seen (c.oth p)) 1 = 1 := by
              have : goes c p tm seen = false := by simpa using hg
              simpa [goes, Int.not_le.2 g_t, g_h, inP] using this
            by_cases hA : c.a = p
            · have hcalc' := hcalc
              rw [hA] at hcalc'
              simp [cell_of hcb, cell_of hb5, rd_of hb5, g_t, hA, hcalc', nn_ge hoth.1, hin, hadd]
            · have hB : c.b = p := by simpa [Cl.has, hA] using g_h
              have hcalc' := hcalc
              rw [hB] at hcalc'
              simp [cell_of hcb, cell_of hb5, rd_of hb5, g_t, hA, hB, hcalc', nn_ge hoth.1, hin, hadd]
          · have hA : ¬ c.a = p := by intro e; simp [Cl.has, e] at g_h
            have hB : ¬ c.b = p := by intro e; simp [Cl.has, e] at g_h
            simp [cell_of hcb, cell_of hb5, g_t, hA, hB, hadd]
        · simp [cell_of hcb, cell_of hb5, g_t, hadd])
  refine ⟨sv, vs, g', x111 (k := 30) ?_ hap.slR.notR, x1.trans hx, hap.slR, by simpa [waysF] using hss⟩
  simp [f111, hpt, hsl.len, lp_eq hl]

end Go.AM
