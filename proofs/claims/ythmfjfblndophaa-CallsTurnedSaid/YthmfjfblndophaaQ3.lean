/- Parts of the proof, put together: what the functions of the program answer, and plain laws. -/
import Derived.Test.YthmfjfblndophaaAmRun
import Derived.Test.YthmfjfblndophaaQ2

section

/- The ways, as the document tells them. -/
namespace Go.AM
open Go.Proofs
variable {R : Type}
attribute [local simp] nx_eq nx_new nx_set blk_new blk_set asI_int asK_int asB_bool asP_ptr al_eq bx_eq len_slice onE_exit onE_ret onR_ret Value.cells d3 d29 d31 d56 d24 d59 d22 d25 d121 d89 d61 w3 w25 w121 cell_new cell_set rd_new rd_set off eq lt le ifB gv out eqF1 eqF2 eqF3 eqF4 eqF5 eqF6 eqF7 eqF8 ext20 ext21 k42 k72 k73 k74
theorem and_one (x : Int) : AM.and .i64 x 1 = 0 ∨ AM.and .i64 x 1 = 1 := by
  unfold AM.and
  show IntKind.i64.wrap ((BitVec.ofInt 64 x &&& BitVec.ofInt 64 1).toNat : Nat) = 0 ∨ IntKind.i64.wrap ((BitVec.ofInt 64 x &&& BitVec.ofInt 64 1).toNat : Nat) = 1
  rw [BitVec.toNat_and, show (BitVec.ofInt 64 1).toNat = 1 from rfl, Nat.and_one_is_mod]
  have : (BitVec.ofInt 64 x).toNat % 2 = 0 ∨ (BitVec.ofInt 64 x).toNat % 2 = 1 := by omega
  rcases this with h | h <;> rw [h]
  · exact .inl rfl
  · exact .inr rfl

/-- A slice without room. -/
theorem full_push {g : H} {wv : Value} {w : List Int} {z : Int} (hw : SlR g 3 1 wv (cellsI w)) (hm : w.length < 1000) :
    ∃ v11 v13 h7, (∀ {R : Type} (K : Value → Option R), sli Try.prog g 25 wv none (some (.int .i64 w.length)) (some (.int .i64 w.length)) K = K v11) ∧
      (∀ {R : Type} (K : Value → H → Option R), app Try.prog (g.new (.row [iv z] 3 true)) 25 25 v11 (.slice (some ⟨g.nx, 0, none⟩) 1 1) K = K v13 h7) ∧ Ext g h7 ∧ h7.wr = g.wr ∧ h7.nx = g.nx + 2 ∧ SlR h7 3 1 v13 (cellsI (w ++ [z])) := by
  obtain ⟨i, z3, h1, h2, h3, h4, h5, h6, h7⟩ := okApp_spec app25
  have h30 : 2 ^ 30 < U := by decide
  have x1 := Ext.new g (.row [iv z] 3 true)
  have hsrc : srcCells 1 (.slice (some ⟨g.nx, 0, none⟩) 1 1) (g.new (.row [iv z] 3 true)) = some [iv z] := by
    simp only [srcCells, Nat.one_mul]
    rw [if_neg (by omega)]
    simp only [H.rd, blk_new_self]
    rfl
  have hlen : lenOf (.slice (some ⟨g.nx, 0, none⟩) 1 1) = some 1 := rfl
  have hold := (hw.ext x1).srcAll (by decide)
  generalize hL : cellsI w = L at hw
  cases hw with
  | nil =>
    have hw0 : w = [] := by simpa using hL
    subst hw0
    refine ⟨.slice none 0 0, .slice (some ⟨g.nx + 1, 0, none⟩) 1 (U + 1), (g.new (.row [iv z] 3 true)).new (.row [iv z] 3 true), fun K => ?_, fun K => ?_, x1.new' _, rfl, rfl, ?_⟩
    · unfold sli slice
      simp only [h1, sz3, Option.bind_some]
      rfl
    · unfold AM.app append
      simp only [h1, h2, h3, hlen, h4, hsrc, Option.bind_some]
      rw [if_pos ⟨h5, h6, h7⟩, if_neg (by omega), if_pos (by omega)]
      rfl
    · exact (AqR.at_ (lo := 0) (l := [[iv z]]) (c := U + 1) (Nat.zero_le _) (Nat.lt_succ_self _) (blk_new_self _ _) (by simp) (by simp) (.inl rfl)).slR
  | @at_ b o c cs own L hb hr hk hc hl hx =>
    subst hL
    have hwl : (cellsI w).length = w.length := by simp
    have hck : capK w.length = w.length := by unfold capK; rw [if_pos (by omega)]
    have hr1 := (x1.blk b hb).trans hr
    refine ⟨.slice (some ⟨b, o, none⟩) w.length w.length, .slice (some ⟨g.nx + 1, 0, none⟩) (w.length + 1) (U + (w.length + 1)), (g.new (.row [iv z] 3 true)).new (.row (w.map iv ++ [iv z]) 3 true), fun K => ?_, fun K => ?_, x1.new' _, rfl, rfl, ?_⟩
    · unfold sli slice
      simp only [h1, hr]
      rw [if_pos ⟨trivial, hc, rfl⟩]
      simp only [sz3, Option.bind_some, bound]
      rw [if_pos ⟨by omega, by omega⟩]
      simp only [Option.bind_some]
      rw [if_pos ⟨by omega, by omega⟩]
      simp
    · unfold AM.app append
      simp only [h1, h2, h3, hlen, h4, hsrc, Option.bind_some]
      rw [if_pos ⟨h5, h6, h7⟩, if_neg (by omega), hck, if_neg (by omega), if_pos (by omega), if_pos (by omega)]
      have hrd : (if w.length = 0 then some [] else (g.new (.row [iv z] 3 true)).rd b o (w.length * 1)) = some (w.map iv) := by
        split
        · rename_i h9
          rw [List.eq_nil_of_length_eq_zero h9]
          rfl
        · have := hold
          simp only [srcCells] at this
          rw [hwl, if_neg (by omega)] at this
          rw [this, flat1]
      rw [hrd]
      rfl
    · have := AqR.at_ (lo := 0) (h := (g.new (.row [iv z] 3 true)).new (.row (w.map iv ++ [iv z]) 3 true)) (e := 3) (s := 1) (b := g.nx + 1) (l := cellsI (w ++ [z])) (c := U + (w.length + 1)) (Nat.zero_le _) (Nat.lt_succ_self _) (by rw [flat1]; simp [blk_new]) (by intro x hx; simp only [List.mem_map] at hx; obtain ⟨z, _, rfl⟩ := hx; rfl) (by simp; omega) (.inl (by simp))
      have := this.slR
      simpa using this

theorem SsR.append {h : H} {vs us : List Value} {ls ms : List (List Int)} (a : SsR h vs ls) (b : SsR h us ms) : SsR h (vs ++ us) (ls ++ ms) := by
  refine ⟨by simp [a.1, b.1], fun j v l hv hl => ?_⟩
  by_cases hj : j < vs.length
  · rw [List.getElem?_append_left hj] at hv
    rw [List.getElem?_append_left (by rw [← a.1]; exact hj)] at hl
    exact a.2 j v l hv hl
  · rw [List.getElem?_append_right (by omega)] at hv
    rw [List.getElem?_append_right (by rw [← a.1]; omega), ← a.1] at hl
    exact b.2 _ v l hv hl

theorem SsR.scal {h : H} {vs : List Value} {ls : List (List Int)} (a : SsR h vs ls) : (cellsV vs).flatten.all AM.scal = true := by
  rw [List.all_eq_true]
  intro x hx
  have : x ∈ vs := by
    have : ∀ (l : List Value), x ∈ (cellsV l).flatten → x ∈ l := by
      intro l
      induction l with
      | nil => intro h; simp at h
      | cons y l ih =>
        intro h
        simp only [List.map_cons, List.flatten_cons, List.mem_append, List.mem_cons, List.not_mem_nil, or_false] at h ⊢
        rcases h with h | h
        · exact .inl h
        · exact .inr (ih h)
    exact this vs hx
  obtain ⟨j, hj, rfl⟩ := List.getElem_of_mem this
  obtain ⟨y, n, c, e⟩ := (a.2 j vs[j] (ls[j]'(by rw [← a.1]; exact hj)) (List.getElem?_eq_getElem hj) (List.getElem?_eq_getElem _)).isSl
  rw [e]
  rfl

/-- What the document's search answers. -/
def RefOk (n t : Int) (l : List Kl) (F : Nat) (tm : Int) : Prop :=
  ∀ (p seen : Int) (w : List Int) (sl wv : Value) (g : H), 0 ≤ p ∧ p < n → w.length + F < 100 → p ≠ t → SlR g 59 3 sl (l.map Kl.cells) → SlR g 3 1 wv (cellsI w) →
    ∃ v vs g', rn 111 #[.agg #[iv n, sl], iv p, iv t, iv seen, iv tm, wv] g = some (v, g') ∧ Ext g g' ∧ SlR g' 25 1 v (cellsV vs) ∧ SsR g' vs ((waysF l t F p tm seen).map (w ++ ·))

theorem bls58v (v : Value) (h : H) (hv : ∃ x n c, v = .slice x n c) : buildSlice Try.prog 58 1 [(0, v)] h = some (.slice (some ⟨h.nx, 0, none⟩) 1 1, h.new (.row [v] 25 true)) := by
  obtain ⟨x, n, c, rfl⟩ := hv
  kernel_rfl

theorem s111_end {n t : Int} {l : List Kl} {seen tm : Int} {w : List Int} {sl wv : Value} {g : H} (hw : SlR g 3 1 wv (cellsI w)) :
    ∃ v g', rn 111 #[.agg #[iv n, sl], iv t, iv t, iv seen, iv tm, wv] g = some (v, g') ∧ Ext g g' ∧ SlR g' 25 1 v (cellsV [wv]) ∧ SsR g' [wv] [w] := by
  have x1 : Ext g (g.new (.row [iv n, sl] 24 true)) := .new _ _
  have x2 := x1.new' (.row [wv] 25 true)
  have hb := bls58v wv (g.new (.row [iv n, sl] 24 true)) hw.isSl
  have hc := fun (K : Value → H → Option (Value × H)) => bls_some (K := K) hb
  refine ⟨.slice (some ⟨g.nx + 1, 0, none⟩) 1 1, (g.new (.row [iv n, sl] 24 true)).new (.row [wv] 25 true), x111 (k := 0) ?_ rfl, x2, ?_, ⟨rfl, fun j v m hv hm => ?_⟩⟩
  · simp [f111, hc]
  · exact (AqR.lit (lo := 0) (e := 25) (s := 1) (l := cellsV [wv]) (Nat.zero_le _) rfl (by simp) (by simp)).slR
  · cases j with
    | zero => simp at hv hm; subst hv; subst hm; exact hw.ext x2
    | succ j => simp at hv

theorem ways_few {n t : Int} {l : List Kl} (hv : validP n l = true) : ∀ (F : Nat) (p tm seen : Int) (k : Nat), k ≤ l.length → (∀ j c, l[j]? = some c → tm < c.t → k ≤ j) → (waysF l t F p tm seen).length ≤ 2 ^ (l.length - k) ∧
    ∀ (i : Nat) (c : Kl), l[i]? = some c → (wayStep (waysF l t F) t p tm seen i c).length ≤ 2 ^ (l.length - i - 1) := by
  intro F
  induction F with
  | zero =>
    intro p tm seen k hk hj
    refine ⟨by simp [waysF], fun i c hc => ?_⟩
    unfold wayStep
    split
    · split
      · exact Nat.one_le_two_pow
      · simp [waysF]
    · simp
  | succ F ih =>
    intro p tm seen k hk hj
    have step : ∀ (G : Nat), (∀ (p tm seen : Int) (k : Nat), k ≤ l.length → (∀ j c, l[j]? = some c → tm < c.t → k ≤ j) → (waysF l t G p tm seen).length ≤ 2 ^ (l.length - k)) → ∀ (p tm seen : Int) (i : Nat) (c : Kl), l[i]? = some c →
        (wayStep (waysF l t G) t p tm seen i c).length ≤ 2 ^ (l.length - i - 1) := by
      intro G hG p tm seen i c hc
      have hil := (List.getElem?_eq_some_iff.1 hc).1
      unfold wayStep
      split
      · split
        · exact Nat.one_le_two_pow
        · rw [List.length_map, show l.length - i - 1 = l.length - (i + 1) by omega]
          refine hG _ _ _ (i + 1) (by omega) fun j d hd hlt => ?_
          rcases Nat.lt_or_ge i j with h | h
          · omega
          · rcases Nat.lt_or_ge j i with h' | h'
            · have := (validP_sorted hv h' hd hc).1; omega
            · obtain rfl : j = i := by omega
              rw [hc] at hd; cases hd; omega
      · simp
    have ih' := fun p tm seen k h1 h2 => (ih p tm seen k h1 h2).1
    have full : ∀ (p tm seen : Int) (k : Nat), k ≤ l.length → (∀ j c, l[j]? = some c → tm < c.t → k ≤ j) → (waysF l t (F + 1) p tm seen).length ≤ 2 ^ (l.length - k) := by
      intro p tm seen k hk hj
      simp only [waysF]
      have key : ∀ (l' : List Kl) (i : Nat) (acc : List (List Int)), l.drop i = l' → i + l'.length = l.length → (i ≤ k → acc = []) → (k ≤ i → acc.length + 2 ^ (l.length - i) ≤ 2 ^ (l.length - k)) →
          (foldI (fun i c acc => acc ++ wayStep (waysF l t F) t p tm seen i c) l' i acc).length ≤ 2 ^ (l.length - k) := by
        intro l'
        induction l' with
        | nil =>
          intro i acc _ hi h1 h2
          simp at hi
          simp only [foldI]
          by_cases h3 : k ≤ i
          · exact Nat.le_trans (Nat.le_add_right _ _) (h2 h3)
          · rw [h1 (by omega)]; simp
        | cons c l' ih2 =>
          intro i acc hd hi h1 h2
          simp only [List.length_cons] at hi
          have hc : l[i]? = some c := by
            have := List.getElem?_drop (xs := l) (i := i) (j := 0)
            rw [hd] at this
            simpa using this.symm
          have hdr : l.drop (i + 1) = l' := by
            have := List.drop_drop (i := 1) (j := i) (l := l)
            rw [hd] at this
            rw [← this]
            rfl
          simp only [foldI]
          have hs := step F ih' p tm seen i c hc
          by_cases h3 : k ≤ i
          · refine ih2 (i + 1) _ hdr (by omega) (fun h => by omega) (fun _ => ?_)
            have h4 := h2 h3
            have e1 : 2 ^ (l.length - i) = 2 ^ (l.length - i - 1) + 2 ^ (l.length - i - 1) := by
              rw [← Nat.two_mul, ← Nat.pow_succ']
              congr 1
              omega
            rw [List.length_append, show l.length - (i + 1) = l.length - i - 1 by omega]
            omega
          · have hng : ¬ tm < c.t := fun h => h3 (hj i c hc h)
            have hst0 : wayStep (waysF l t F) t p tm seen i c = [] := by
              unfold wayStep
              rw [if_neg]
              simp [goes, Int.not_lt.1 hng]
            rw [hst0, h1 (by omega), List.append_nil]
            refine ih2 (i + 1) _ hdr (by omega) (fun _ => rfl) (fun h => ?_)
            have : i + 1 = k := by omega
            rw [this]; simp
      refine key l 0 [] (by simp) (by simp) (fun _ => rfl) (fun h => ?_)
      have : k = 0 := by omega
      subst this
      simp
    exact ⟨full p tm seen k hk hj, step (F + 1) full p tm seen⟩

theorem ref_body {n t : Int} {l : List Kl} (hv : validP n l = true) (F : Nat) (tm : Int) (hrec : ∀ tm', tm < tm' → tm' ≤ 30 → RefOk n t l F tm') : RefOk n t l (F + 1) tm := by
  obtain ⟨hn1, hn7, hl24, hok⟩ := validP_ok hv
  intro p seen w sl wv g hp hlen hpt hsl hwv
  have x1 : Ext g (g.new (.row [iv n, sl] 24 true)) := .new _ _
  have hb1 : (g.new (.row [iv n, sl] 24 true)).blk g.nx = some (.row [iv n, sl] 24 true) := blk_new_self _ _
  have hn1' : g.nx < (g.new (.row [iv n, sl] 24 true)).nx := Nat.lt_succ_self _
  have hpw : 2 ^ l.length ≤ 2 ^ 24 := Nat.pow_le_pow_right (by omega) hl24
  obtain ⟨ws', g', hl, hx, sv, vs, hap, hss, hbd, rfl⟩ := lp_for (F := f111_l1 rn 30 p t seen tm wv g sl l.length) (k := 30) (l := l) (fun i c acc => acc ++ wayStep (waysF l t F) t p tm seen i c)
    (fun i acc ws h3 => Ext (g.new (.row [iv n, sl] 24 true)) h3 ∧ ∃ sv vs, AqR (g.nx + 1) h3 25 1 sv (cellsV vs) ∧ SsR h3 vs (acc.map (w ++ ·)) ∧ acc.length + 2 ^ (l.length - i) ≤ 2 ^ l.length ∧ ws = [sv, iv i]) 0 (ws := [.slice none 0 0, iv 0]) (h := g.new (.row [iv n, sl] 24 true)) (s0 := [])
    ⟨.refl _, _, [], .nil, ⟨rfl, fun j v l hv => by simp at hv⟩, by simp, rfl⟩ (by omega)
    (by
      rintro acc ws' h3 ⟨_, sv, vs, _, _, _, rfl⟩
      simp [f111_l1])
    (by
      rintro i c acc ws' h3 hc ⟨hx, sv, vs, hap, hss, hbd, rfl⟩
      have hil := (List.getElem?_eq_some_iff.1 hc).1
      have hcok := hok _ _ hc
      have hadd : add .i64 (i : Int) 1 = (i : Int) + 1 := add64 (by omega) (by omega)
      have y5 := (Ext.refl h3).fresh 59 [iv 0, iv 0, iv 0] c.cells
      have hcb := blk_fresh h3 59 [iv 0, iv 0, iv 0] c.cells
      have n5 : (h3.fresh 59 [iv 0, iv 0, iv 0] c.cells).nx = h3.nx + 1 := rfl
      have x5 := hx.trans y5
      have hb5 := (x5.blk _ hn1').trans hb1
      have hsl5 := hsl.ext (x1.trans x5)
      have hwv5 := hwv.ext (x1.trans x5)
      have a5 := hap.ext y5
      have s5 : SsR (h3.fresh 59 [iv 0, iv 0, iv 0] c.cells) vs (acc.map (w ++ ·)) := hss.keep y5.nx fun v hv q hq => y5.blk q (hss.bel hv hq)
      have hgx := hx.nx
      rw [nx_new] at hgx
      have hst := (ways_few (t := t) hv F p tm seen 0 (by omega) (fun _ _ _ _ => Nat.zero_le _)).2 i c hc
      have e2 : 2 ^ (l.length - i) = 2 ^ (l.length - i - 1) + 2 ^ (l.length - i - 1) := by
        rw [← Nat.two_mul, ← Nat.pow_succ']
        congr 1
        omega
      have hbd' : (acc ++ wayStep (waysF l t F) t p tm seen i c).length + 2 ^ (l.length - (i + 1)) ≤ 2 ^ l.length := by
        rw [List.length_append, show l.length - (i + 1) = l.length - i - 1 by omega]
        omega
      unfold f111_l1
      rw [show gv [sv, iv i] 1 = iv i from rfl, show gv [sv, iv i] 0 = sv from rfl, asI_int, lt_t (by omega), ifB_true, asK_int, (hsl.ext (x1.trans hx)).ldA ag59 sz59 (by omega) (x := c.cells) (by simp [hc])]
      rw [al_st (zs := [iv 0, iv 0, iv 0]) (xs := c.cells) sz59 rfl rfl]
      generalize h3.fresh 59 [iv 0, iv 0, iv 0] c.cells = h5 at *
      simp only [Kl.cells] at hcb
      by_cases hg : goes c p tm seen = true
      · have hg' := hg
        simp only [goes, Bool.and_eq_true, Bool.not_eq_true', decide_eq_false_iff_not] at hg
        obtain ⟨⟨g_t, g_h⟩, g_s⟩ := hg
        have hoth := oth_ok hcok g_h
        have hcalc := oth_calc (by omega) hcok g_h
        have htm : tm < c.t ∧ c.t ≤ 30 := ⟨Int.not_le.1 g_t, (okC_iff.1 hcok).2.2.2.2⟩
        have hin : AM.and .i64 (shr .i64 seen (c.oth p)) 1 = 0 := by
          have h1 : AM.and .i64 (shr .i64 seen (c.oth p)) 1 ≠ 1 := by simpa [inP] using g_s
          exact (and_one _).resolve_right h1
        obtain ⟨v11, v13, h7, e11, e13, x7, w7, n7, s7⟩ := full_push (z := (i : Int)) hwv5 (by omega)
        have hkb : ∀ (K : Value → H → Option (Ex × List Value × H)), bls Try.prog h5 25 1 [(0, iv (i : Int))] K = K (.slice (some ⟨h5.nx, 0, none⟩) 1 1) (h5.new (.row [iv (i : Int)] 3 true)) := fun K => bls_some (bls25 _ _)
        have hck1 : fres wv h5.nx (same (h5.new (.row [iv (i : Int)] 3 true)) h5) = true := by
          have h9 : same (h5.new (.row [iv (i : Int)] 3 true)) h5 = true := by simp [same, wr_new]
          rw [h9]
          have h8 := hwv5
          generalize cellsI w = L at h8
          clear hwv hwv5
          cases h8 with
          | nil => rfl
          | at_ hb' => simp [fres, hb']
        have hck2 : ∀ b, b < h5.nx → freq b h5.nx (same (h5.new (.row [iv (i : Int)] 3 true)) h5) = true := fun b hb => by simp [freq, same, wr_new, hb]
        have hck3 : ∀ b, b < h5.nx → freq b (h5.nx + 1) (same h7 (h5.new (.row [iv (i : Int)] 3 true))) = true := fun b hb => by simp [freq, same, wr_new, w7]; omega
        -- the answer of the call
        obtain ⟨v14, vs', h8, e8, x8, s8, ss8⟩ : ∃ v14 vs' h8, rn 111 #[.agg #[iv n, sl], iv (c.oth p), iv t, iv (AM.or .i64 seen (shl .i64 1 (c.oth p))), iv c.t, v13] h7 = some (v14, h8) ∧ Ext h7 h8 ∧ SlR h8 25 1 v14 (cellsV vs') ∧ SsR h8 vs' ((wayStep (waysF l t F) t p tm seen i c).map (w ++ ·)) := by
          by_cases hto : c.oth p = t
          · obtain ⟨v, g', e1, e2, e3, e4⟩ := s111_end (n := n) (t := t) (l := l) (seen := AM.or .i64 seen (shl .i64 1 (c.oth p))) (tm := c.t) (sl := sl) s7
            refine ⟨v, [v13], g', by rw [hto] at e1 ⊢; exact e1, e2, e3, ?_⟩
            simpa [wayStep, hg', hto] using e4
          · obtain ⟨v, us, g', e1, e2, e3, e4⟩ := hrec c.t htm.1 htm.2 (c.oth p) (withP seen (c.oth p)) (w ++ [(i : Int)]) sl v13 h7 ⟨hoth.1, hoth.2.1⟩ (by simp; omega) hto (hsl5.ext x7) s7
            refine ⟨v, us, g', e1, e2, e3, ?_⟩
            simpa [wayStep, hg', hto, Function.comp_def] using e4
        have hkc : ∀ (K : Value → H → Option (Ex × List Value × H)), calls rn h7 111 [.agg #[iv n, sl], iv (c.oth p), iv t, iv (AM.or .i64 seen (shl .i64 1 (c.oth p))), iv c.t, v13] K = K v14 h8 := fun K => calls_eq (xs := [_, _, _, _, _, _]) e8
        have x58 := x7.trans x8
        have hlv : vs.length = acc.length := by rw [hss.1]; simp
        have hlu : vs'.length = (wayStep (waysF l t F) t p tm seen i c).length := by rw [ss8.1]; simp
        obtain ⟨v15, h9, e9, a9, n9, f9, _⟩ := (a5.ext x58).app app58 app58 s8 ss8.scal (by simp; omega) (by have := x58.nx; omega)
        have svb : ∀ q c, blkOf sv = some q → h5.blk q = some (.row c 3 true) → False := fun q c h1 h2 => by
          have := (a5.blkOf h1).2.2
          rw [this] at h2
          simp at h2
        have keep9 : ∀ v m, SlR h8 3 1 v (cellsI m) → SlR h9 3 1 v (cellsI m) := fun v m hm => slR_keep hm n9 fun q hq => f9 q (slR_bel hm hq) (fun e => by
          generalize cellsI m = L at hm
          cases hm with
          | nil => cases hq
          | at_ _ hr =>
            cases hq
            have := ((a5.ext x58).blkOf e).2.2
            rw [this] at hr
            simp at hr)
        have ssN : SsR h9 (vs ++ vs') ((acc ++ wayStep (waysF l t F) t p tm seen i c).map (w ++ ·)) := by
          rw [List.map_append]
          exact SsR.append ⟨by simpa using hlv, fun j v m hv hm => keep9 v m ((s5.2 j v m hv hm).ext x58)⟩ ⟨by simpa using hlu, fun j v m hv hm => keep9 v m (ss8.2 j v m hv hm)⟩
        refine ⟨[v15, iv ((i : Int) + 1)], h9, ?_, ⟨by have := x58.nx; rw [nx_new]; omega, fun q hq => ?_⟩, v15, vs ++ vs', by simpa using a9, ssN, hbd', rfl⟩
        · have hq1 : h3.nx < h5.nx := by omega
          have hq2 : g.nx < h5.nx := by omega
          have hlw : ∀ (K : Int → Option (Ex × List Value × H)), len wv K = K w.length := fun K => by rw [hwv5.len]; simp
          by_cases hA : c.a = p
          · have hcalc' := hcalc
            rw [hA] at hcalc'
            simp [cell_of hcb, cell_of hb5, rd_of hb5, show tm < c.t from htm.1, hA, hcalc', nn_ge hoth.1, hin, hlw, e11, hkb, hck1, hck2 _ hq1, hck2 _ hq2, e13, hck3 _ hq1, hck3 _ hq2, ck, hkc, e9, hadd]
          · have hB : c.b = p := by simpa [Kl.has, hA] using g_h
            have hcalc' := hcalc
            rw [hB] at hcalc'
            simp [cell_of hcb, cell_of hb5, rd_of hb5, show tm < c.t from htm.1, hA, hB, hcalc', nn_ge hoth.1, hin, hlw, e11, hkb, hck1, hck2 _ hq1, hck2 _ hq2, e13, hck3 _ hq1, hck3 _ hq2, ck, hkc, e9, hadd]
        · have hq' : q < g.nx + 1 := hq
          rw [f9 q (by have := x58.nx; omega) (fun e => by have := (a5.blkOf e).1; omega), x58.blk q (by omega)]
          exact x5.blk q hq
      · have hst0 : wayStep (waysF l t F) t p tm seen i c = [] := by simp [wayStep, hg]
        rw [hst0, List.append_nil] at hbd' ⊢
        refine ⟨[sv, iv ((i : Int) + 1)], h5, ?_, x5, sv, vs, a5, s5, hbd', rfl⟩
        by_cases g_t : tm < c.t
        · by_cases g_h : c.has p = true
          · have hoth := oth_ok hcok g_h
            have hcalc := oth_calc (by omega) hcok g_h
            have hin : AM.and .i64 (shr .i64 seen (c.oth p)) 1 = 1 := by
              have : goes c p tm seen = false := by simpa using hg
              simpa [goes, Int.not_le.2 g_t, g_h, inP] using this
            by_cases hA : c.a = p
            · have hcalc' := hcalc
              rw [hA] at hcalc'
              simp [cell_of hcb, cell_of hb5, rd_of hb5, g_t, hA, hcalc', nn_ge hoth.1, hin, hadd]
            · have hB : c.b = p := by simpa [Kl.has, hA] using g_h
              have hcalc' := hcalc
              rw [hB] at hcalc'
              simp [cell_of hcb, cell_of hb5, rd_of hb5, g_t, hA, hB, hcalc', nn_ge hoth.1, hin, hadd]
          · have hA : ¬ c.a = p := by intro e; simp [Kl.has, e] at g_h
            have hB : ¬ c.b = p := by intro e; simp [Kl.has, e] at g_h
            simp [cell_of hcb, cell_of hb5, g_t, hA, hB, hadd]
        · simp [cell_of hcb, cell_of hb5, g_t, hadd])
  refine ⟨sv, vs, g', x111 (k := 30) ?_ hap.slR.notR, x1.trans hx, hap.slR, by simpa [waysF] using hss⟩
  simp [f111, hpt, hsl.len, lp_eq hl]

end Go.AM

end

section

/- CallsWays, on the abstract machine. -/
namespace Go.AM
open Go.Proofs
variable {R : Type}
attribute [local simp] nx_eq nx_new nx_set blk_new blk_set asI_int asK_int asB_bool asP_ptr al_eq bx_eq len_slice onE_exit onE_ret onR_ret Value.cells d3 d29 d31 d56 d24 d59 d22 d25 d121 d89 d61 w3 w25 w121 cell_new cell_set rd_new rd_set off eq lt le ifB gv out eqF1 eqF2 eqF3 eqF4 eqF5 eqF6 eqF7 eqF8 ext20 ext21 k42 k72 k73 k74
theorem refOk {n t : Int} {l : List Kl} (hv : validP n l = true) : ∀ (f : Nat) (tm : Int), 31 - tm ≤ f → RefOk n t l (f + 1) tm := by
  intro f
  induction f with
  | zero => intro tm htm; exact ref_body hv 0 tm (fun tm' h1 h2 => by omega)
  | succ f ih => intro tm htm; exact ref_body hv (f + 1) tm (fun tm' h1 h2 => ih tm' (by omega))

theorem s98 {n s t : Int} {sl : Value} {l : List Kl} {h : H} (hs : SlR h 59 3 sl (l.map Kl.cells)) (hp : pairP n l s t = true) :
    ∃ v vs h', rn 98 #[.agg #[iv n, sl], iv s, iv t] h = some (v, h') ∧ Ext h h' ∧ SlR h' 25 1 v (cellsV vs) ∧ SsR h' vs (allWays l s t) := by
  obtain ⟨⟨⟨hv, hsn⟩, htn⟩, hst⟩ : ((validP n l = true ∧ (0 ≤ s ∧ s < n)) ∧ (0 ≤ t ∧ t < n)) ∧ s ≠ t := by simpa [pairP] using hp
  have x1 : Ext h (h.new (.row [iv n, sl] 24 true)) := .new _ _
  obtain ⟨v, vs, h', e, x, a, b⟩ := refOk hv 31 0 (by omega) s (shl .i64 1 s) [] sl (.slice none 0 0) _ hsn (by simp) hst (hs.ext x1) .nil
  have hc := fun (K : Value → H → Option (Value × H)) => calls_eq (K := K) (xs := [_, _, _, _, _, _]) e
  refine ⟨v, vs, h', x98 (k := 0) ?_ a.notR, x1.trans x, a, by simpa [allWays] using b⟩
  simp [f98, nn_ge hsn.1, hc]

theorem kbld108 (a b c : Int) (K : Value → Option R) : bld Try.prog 108 [(0, .int .i64 a), (1, .int .i64 b), (2, .int .i64 c)] K = K (.agg #[.int .i64 a, .int .i64 b, .int .i64 c]) := bld_some (by kernel_rfl)

theorem inx108 (a b c : Int) (k : Nat) (hk : k < 3) : index Try.prog 108 (.agg #[.int .i64 a, .int .i64 b, .int .i64 c]) (.int .i64 k) = some (.int .i64 ([a, b, c].getD k 0)) := by
  rcases (show k = 0 ∨ k = 1 ∨ k = 2 by omega) with rfl | rfl | rfl <;> kernel_rfl

theorem kinx108 (a b c : Int) {k : Nat} (hk : k < 3) (K : Value → Option R) : inx Try.prog 108 (.agg #[.int .i64 a, .int .i64 b, .int .i64 c]) k K = K (.int .i64 ([a, b, c].getD k 0)) := by
  unfold inx
  rw [inx108 a b c k hk]
  rfl

theorem ofK_eq (l : List Kl) (w : List Int) {k : Nat} (hk : k < 3) : [arrP l w, (w.length : Int), sub .i64 (arrP l w) (leaveP l w)].getD k 0 = ofK l k w := by
  rcases (show k = 0 ∨ k = 1 ∨ k = 2 by omega) with rfl | rfl | rfl <;> rfl

theorem time_ok {n : Int} {l : List Kl} (hv : validP n l = true) {i : Nat} {c : Kl} (hc : l[i]? = some c) : 1 ≤ c.t ∧ c.t ≤ 30 := by
  have := okC_iff.1 ((validP_ok hv).2.2.2 i c hc)
  exact this.2.2.2

theorem ofK_lt {n : Int} {l : List Kl} {w : List Int} {k : Nat} (hv : validP n l = true) (hw : okW l w) (hl : w.length ≤ 32) (hk : k < 3) : ofK l k w < 99 := by
  obtain ⟨x, c, h1, h2, h3, h4, h5⟩ := okW_last hw
  obtain ⟨y, d, g1, g2, g3, g4⟩ := okW_head hw
  have hc := time_ok hv h3
  have hd := time_ok hv g3
  rcases (show k = 0 ∨ k = 1 ∨ k = 2 by omega) with rfl | rfl | rfl
  · simp only [ofK]; omega
  · simp only [ofK]; omega
  · simp only [ofK, h4, g4]
    rw [sub64 (by omega) (by omega)]
    omega

theorem BestR.slR {o : Option (List Int)} {v : Value} {e : Int} {h : H} (b : BestR o v e h) : SlR h 3 1 v (cellsI (o.getD [])) ∧ e = (if o = none then 4 else 0) := by
  cases o with
  | none => obtain ⟨rfl, rfl⟩ := b; exact ⟨.nil, rfl⟩
  | some w => exact ⟨b.1, b.2.1⟩

theorem s70 {n s t : Int} {sl : Value} {l : List Kl} {h : H} {k : Nat} (hk : k < 3) (hs : SlR h 59 3 sl (l.map Kl.cells)) (hp : pairP n l s t = true) :
    ∃ v e h', rn 70 #[.agg #[iv n, sl], iv s, iv t, iv k] h = some (.tuple #[v, iv e], h') ∧ Ext h h' ∧ BestR (bestP (ofK l k) l s t) v e h' := by
  have hv : validP n l = true := by
    simp only [pairP, Bool.and_eq_true] at hp
    exact hp.1.1.1
  have x1 : Ext h (h.new (.row [iv n, sl] 24 true)) := .new _ _
  obtain ⟨v2, vs, h2, e, x2, a, b⟩ := s98 (n := n) (s := s) (t := t) (hs.ext x1) hp
  have hb2 : h2.blk h.nx = some (.row [iv n, sl] 24 true) := (x2.blk _ (Nat.lt_succ_self _)).trans (blk_new_self _ _)
  have hsl2 := hs.ext (x1.trans x2)
  have hall := fun w hw => allWays_ok (l := l) (s := s) (t := t) w hw
  have hlen32 : ∀ w ∈ allWays l s t, w.length ≤ 32 := fun w hw => (waysF_ok (n := 0) 32 _ _ _ w hw).2.1
  have hcnt : (allWays l s t).length ≤ 2 ^ 24 := by
    have := (ways_few (t := t) hv 32 s 0 (shl .i64 1 s) 0 (by omega) (fun _ _ _ _ => Nat.zero_le _)).1
    exact Nat.le_trans this (Nat.pow_le_pow_right (by omega) (by have := (validP_ok hv).2.2.1; omega))
  unfold bestP
  generalize allWays l s t = W at *
  have hvl := b.1
  obtain ⟨ws', h', hl, rfl, bv, few, hbv, hm⟩ := lp_for (F := f70_l1 rn (W.length + 1) k h v2 W.length) (k := W.length + 1) (l := W) (fun _ w (o : Option (List Int)) => betterP (ofK l k) o w)
    (fun i o ws g => g = h2 ∧ ∃ bv few, ws = [bv, iv few, iv i] ∧ match o with
      | none => bv = .slice none 0 0 ∧ few = 99
      | some w => SlR h2 3 1 bv (cellsI w) ∧ few = ofK l k w ∧ w ≠ []) 0 (ws := [.slice none 0 0, iv 99, iv 0]) (h := h2) (s0 := none)
    ⟨rfl, _, _, rfl, rfl, rfl⟩ (by omega)
    (by
      rintro o ws g ⟨rfl, bv, few, rfl, _⟩
      simp [f70_l1])
    (by
      rintro i w o ws g hw ⟨rfl, bv, few, rfl, hm⟩
      have hi := (List.getElem?_eq_some_iff.1 hw).1
      have hwm := List.mem_of_getElem? hw
      have hok := hall w hwm
      have hl32 := hlen32 w hwm
      obtain ⟨x, c, h1, h2', h3, h4, h5⟩ := okW_last hok
      obtain ⟨y, d, g1, g2, g3, g4⟩ := okW_head hok
      have hvi : vs[i]? = some (vs[i]'(by omega)) := List.getElem?_eq_getElem (by omega)
      have hsi := b.2 i _ w hvi hw
      generalize vs[i]'(by omega) = vi at *
      have e1 : ∀ (K : Value → Option (Ex × List Value × H)), (six v2 (i : Int) 1 fun b o => (g.cell b o).bind K) = K vi := fun K => a.c0 (by omega) (x := [vi]) (by simp [hvi]) rfl K
      have e2 : ∀ (K : Value → Option (Ex × List Value × H)), (six vi 0 1 fun b o => (g.cell b o).bind K) = K (iv y) := fun K => hsi.c0 (by omega) (x := [iv y]) (by simp [g1]) rfl K
      have e3 : ∀ (K : Value → Option (Ex × List Value × H)), (six vi (sub .i64 (w.length : Int) 1) 1 fun b o => (g.cell b o).bind K) = K (iv x) := fun K => by
        rw [sub64 (by omega) (by omega)]
        exact hsi.c0 (by omega) (x := [iv x]) (by rw [show ((w.length : Int) - 1).toNat = w.length - 1 by omega]; simp [h1]) rfl K
      have e4 : ∀ (K : Value → Option (Ex × List Value × H)), (six sl x 3 fun b o => (g.cell b (o + 2)).bind K) = K (iv c.t) := fun K => hsl2.cF h2' (x := c.cells) (by simp [h3]) rfl K
      have e5 : ∀ (K : Value → Option (Ex × List Value × H)), (six sl y 3 fun b o => (g.cell b (o + 2)).bind K) = K (iv d.t) := fun K => hsl2.cF g2 (x := d.cells) (by simp [g3]) rfl K
      have e6 : ∀ (K : Int → Option (Ex × List Value × H)), len vi K = K w.length := fun K => by rw [hsi.len]; simp
      have hadd : add .i64 (i : Int) 1 = (i : Int) + 1 := add64 (by omega) (by omega)
      have hK := ofK_eq l w hk
      rw [h4, g4] at hK
      have e7 : ∀ (K : Value → Option (Ex × List Value × H)), inx Try.prog 108 (.agg #[.int .i64 c.t, .int .i64 w.length, .int .i64 (sub .i64 c.t d.t)]) k K = K (iv (ofK l k w)) := fun K => by rw [kinx108 _ _ _ hk, hK]
      have hF : f70_l1 rn (W.length + 1) k h v2 W.length [bv, iv few, iv i] g = if ofK l k w < few then some (.normal, [vi, iv (ofK l k w), iv ((i : Int) + 1)], g) else some (.normal, [bv, iv few, iv ((i : Int) + 1)], g) := by
        simp [f70_l1, hi, e1, e2, e3, e4, e5, e6, e7, cell_of hb2, kbld108, hadd]
      rw [hF]
      cases o with
      | none =>
        obtain ⟨rfl, rfl⟩ := hm
        have := ofK_lt hv hok hl32 hk
        rw [if_pos this]
        exact ⟨_, _, rfl, rfl, vi, _, rfl, hsi, rfl, hok.1⟩
      | some w0 =>
        obtain ⟨q1, rfl, q3⟩ := hm
        by_cases hlt : ofK l k w < ofK l k w0
        · rw [if_pos hlt]
          have hb : betterP (ofK l k) (some w0) w = some w := by simp only [betterP, hlt, if_true]
          rw [hb]
          exact ⟨[vi, iv (ofK l k w), iv ((i : Int) + 1)], g, rfl, rfl, vi, ofK l k w, rfl, hsi, rfl, hok.1⟩
        · rw [if_neg hlt]
          have hb : betterP (ofK l k) (some w0) w = some w0 := by simp only [betterP, hlt, if_false]
          rw [hb]
          exact ⟨[bv, iv (ofK l k w0), iv ((i : Int) + 1)], g, rfl, rfl, bv, ofK l k w0, rfl, q1, rfl, q3⟩)
  rw [foldI_foldl] at hm
  subst hbv
  have c1 := fun (K : Value → H → Option (Value × H)) => calls_eq (K := K) (xs := [_, _, _]) e
  have hlv : ∀ (K : Int → Option (Value × H)), len v2 K = K W.length := fun K => by rw [a.len, List.length_map, hvl]
  generalize W.foldl (fun o w => betterP (ofK l k) o w) none = o at *
  cases o with
  | none =>
    obtain ⟨rfl, _⟩ := hm
    refine ⟨.slice none 0 0, 4, h', x70 (k := W.length + 1) ?_ rfl, x1.trans x2, rfl, rfl⟩
    simp [f70, c1, hlv, lp_eq hl, eqv, nil25]
  | some w =>
    obtain ⟨q1, _, q3⟩ := hm
    have hnb : ∃ b o n c, bv = .slice (some ⟨b, o, none⟩) n c := by
      generalize hL : cellsI w = L at q1
      cases q1 with
      | nil => simp at hL; exact absurd hL q3
      | at_ => exact ⟨_, _, _, _, rfl⟩
    obtain ⟨b0, o0, n0, c0, hbv⟩ := hnb
    refine ⟨bv, 0, h', x70 (k := W.length + 1) ?_ q1.notR2, x1.trans x2, q1, rfl, q3⟩
    simp [f70, c1, hlv, lp_eq hl, eqv, hbv, some25]

theorem s23 {n s t : Int} {sl : Value} {l : List Kl} {h : H} (hs : SlR h 59 3 sl (l.map Kl.cells)) (hp : pairP n l s t = true) :
    ∃ v e h', rn 23 #[.agg #[iv n, sl], iv s, iv t] h = some (.tuple #[v, iv e], h') ∧ Ext h h' ∧ BestR (bestP (ofK l 0) l s t) v e h' := by
  have x1 : Ext h (h.new (.row [iv n, sl] 24 true)) := .new _ _
  obtain ⟨v, e, h', e1, x, b⟩ := s70 (k := 0) (by omega) (hs.ext x1) hp
  have hc := fun (K : Value → H → Option (Value × H)) => calls_eq (K := K) (xs := [_, _, _, iv 0]) e1
  exact ⟨v, e, h', x23 (k := 0) (by simp [f23, hc]) b.plain, x1.trans x, b⟩

theorem s24 {n s t : Int} {sl : Value} {l : List Kl} {h : H} (hs : SlR h 59 3 sl (l.map Kl.cells)) (hp : pairP n l s t = true) :
    ∃ v e h', rn 24 #[.agg #[iv n, sl], iv s, iv t] h = some (.tuple #[v, iv e], h') ∧ Ext h h' ∧ BestR (bestP (ofK l 1) l s t) v e h' := by
  have x1 : Ext h (h.new (.row [iv n, sl] 24 true)) := .new _ _
  obtain ⟨v, e, h', e1, x, b⟩ := s70 (k := 1) (by omega) (hs.ext x1) hp
  have hc := fun (K : Value → H → Option (Value × H)) => calls_eq (K := K) (xs := [_, _, _, iv 1]) e1
  exact ⟨v, e, h', x24 (k := 0) (by simp [f24, hc]) b.plain, x1.trans x, b⟩

theorem s25 {n s t : Int} {sl : Value} {l : List Kl} {h : H} (hs : SlR h 59 3 sl (l.map Kl.cells)) (hp : pairP n l s t = true) :
    ∃ v e h', rn 25 #[.agg #[iv n, sl], iv s, iv t] h = some (.tuple #[v, iv e], h') ∧ Ext h h' ∧ BestR (bestP (ofK l 2) l s t) v e h' := by
  have x1 : Ext h (h.new (.row [iv n, sl] 24 true)) := .new _ _
  obtain ⟨v, e, h', e1, x, b⟩ := s70 (k := 2) (by omega) (hs.ext x1) hp
  have hc := fun (K : Value → H → Option (Value × H)) => calls_eq (K := K) (xs := [_, _, _, iv 2]) e1
  exact ⟨v, e, h', x25 (k := 0) (by simp [f25, hc]) b.plain, x1.trans x, b⟩

theorem s3 {n s t : Int} {sl : Value} {l : List Kl} {h : H} (hs : SlR h 59 3 sl (l.map Kl.cells)) : ∃ h', rn 3 #[.agg #[iv n, sl], iv s, iv t] h = some (.bool true, h') := by
  have x1 : Ext h (h.new (.row [iv n, sl] 24 true)) := .new _ _
  have b1 : (h.new (.row [iv n, sl] 24 true)).blk h.nx = some (.row [iv n, sl] 24 true) := blk_new_self _ _
  have n1 : h.nx < (h.new (.row [iv n, sl] 24 true)).nx := Nat.lt_succ_self _
  have start : ∃ h1, f3 rn 0 (.agg #[iv n, sl]) s t h = some (.bool true, h1) := by
    unfold f3
    rw [bx_eq, nx_eq, show (Value.agg #[iv n, sl]).cells.toList = [iv n, sl] from rfl]
    generalize h.new (.row [iv n, sl] 24 true) = h1 at *
    have ld1 : ∀ (g : H), Ext h1 g → ∀ (K : Value → Option (Value × H)), ld Try.prog g 24 h.nx 0 K = K (.agg #[iv n, sl]) := fun g x K => by
      rw [d24, rd_all (n := 2) ((x.blk _ n1).trans b1) rfl]; rfl
    obtain ⟨la, h2, e2, x2, s2⟩ := s18 (n := n) (hs.ext x1)
    rw [ld1 _ (.refl _), calls_eq (xs := [_]) e2]
    cases hp : pairP n l s t with
    | true =>
      have hv : validP n l = true := by
        simp only [pairP, Bool.and_eq_true] at hp
        exact hp.1.1.1
      have hl : l.take 26 = l := List.take_of_length_le (by have := (validP_ok hv).2.2.1; omega)
      rw [hl] at s2
      obtain ⟨va, ea, h3, e3, x3, ba⟩ := s17 s2 hp
      rw [calls_eq (xs := [_, _, _]) e3, ext20, ext21, asI_int]
      have x13 := x2.trans x3
      rw [ld1 _ x13]
      obtain ⟨lb, h4, e4, x4, s4⟩ := s18 (n := n) (hs.ext (x1.trans x13))
      rw [calls_eq (xs := [_]) e4]
      rw [hl] at s4
      have x14 := x13.trans x4
      obtain ⟨vb, eb, h5, e5, x5, bb⟩ := s19 s4 hp
      rw [calls_eq (xs := [_, _, _]) e5, ext20, ext21, asI_int]
      have x15 := x14.trans x5
      rw [ld1 _ x15]
      obtain ⟨lc, h6, e6, x6, s6⟩ := s18 (n := n) (hs.ext (x1.trans x15))
      rw [calls_eq (xs := [_]) e6]
      rw [hl] at s6
      have x16 := x15.trans x6
      obtain ⟨vc, ec, h7, e7, x7, bc⟩ := s20 s6 hp
      rw [calls_eq (xs := [_, _, _]) e7, ext20, ext21, asI_int]
      have x17 := x16.trans x7
      rw [ld1 _ x17, calls_eq (xs := [_, _, _]) (s21 (n := n) (s := s) (t := t) (hs.ext (x1.trans x17))), asB_bool, hp, Bool.not_true, ifB_false, ld1 _ x17]
      obtain ⟨vd, ed, h8, e8, x8, bd⟩ := s23 (hs.ext (x1.trans x17)) hp
      rw [calls_eq (xs := [_, _, _]) e8, ext20, ext21, asI_int]
      have x18 := x17.trans x8
      rw [ld1 _ x18]
      obtain ⟨ve, ee, h9, e9, x9, be⟩ := s24 (hs.ext (x1.trans x18)) hp
      rw [calls_eq (xs := [_, _, _]) e9, ext20, ext21, asI_int]
      have x19 := x18.trans x9
      rw [ld1 _ x19]
      obtain ⟨vf, ef, h10, e10, x10, bf⟩ := s25 (hs.ext (x1.trans x19)) hp
      rw [calls_eq (xs := [_, _, _]) e10, ext20, ext21, asI_int]
      rw [k26 (ba.slR.1.ext (x4.trans (x5.trans (x6.trans (x7.trans (x8.trans (x9.trans x10))))))) (bd.slR.1.ext (x9.trans x10)), asB_bool, decide_eq_true rfl, ifB_true]
      rw [k26 (bb.slR.1.ext (x6.trans (x7.trans (x8.trans (x9.trans x10))))) (be.slR.1.ext x10), asB_bool, decide_eq_true rfl, ifB_true]
      rw [k26 (bc.slR.1.ext (x8.trans (x9.trans x10))) bf.slR.1, asB_bool, decide_eq_true rfl, ifB_true]
      rw [eq_t (ba.slR.2.trans bd.slR.2.symm), ifB_true, eq_t (bb.slR.2.trans be.slR.2.symm), ifB_true, eq_t (bc.slR.2.trans bf.slR.2.symm), ifB_true, k22, asB_bool]
      exact ⟨_, rfl⟩
    | false =>
      have hp' : pairP n (l.take 26) s t = false := by rw [pairP_take]; exact hp
      obtain ⟨h3, e3, x3⟩ := s17_bad s2 hp'
      rw [calls_eq (xs := [_, _, _]) e3, ext20, ext21, asI_int]
      have x13 := x2.trans x3
      rw [ld1 _ x13]
      obtain ⟨lb, h4, e4, x4, s4⟩ := s18 (n := n) (hs.ext (x1.trans x13))
      rw [calls_eq (xs := [_]) e4]
      have x14 := x13.trans x4
      obtain ⟨h5, e5, x5⟩ := s19_bad s4 hp'
      rw [calls_eq (xs := [_, _, _]) e5, ext20, ext21, asI_int]
      have x15 := x14.trans x5
      rw [ld1 _ x15]
      obtain ⟨lc, h6, e6, x6, s6⟩ := s18 (n := n) (hs.ext (x1.trans x15))
      rw [calls_eq (xs := [_]) e6]
      have x16 := x15.trans x6
      obtain ⟨h7, e7, x7⟩ := s20_bad s6 hp'
      rw [calls_eq (xs := [_, _, _]) e7, ext20, ext21, asI_int]
      have x17 := x16.trans x7
      rw [ld1 _ x17, calls_eq (xs := [_, _, _]) (s21 (n := n) (s := s) (t := t) (hs.ext (x1.trans x17))), asB_bool, hp]
      refine ⟨h7, ?_⟩
      have h00 : add .i64 (add .i64 0 0) 0 = 0 := by decide
      simp [k22, h00]
  obtain ⟨h1, e⟩ := start
  exact ⟨_, t3 e⟩

end Go.AM

end

section

/- PLAIN: the log backward. -/
namespace Go.AM
def turnK (c : Kl) : Kl := ⟨c.a, c.b, 31 - c.t⟩

/-- Calls by their times, each time's calls in order. -/
def bktT (T : List Tg) : List Tg := (List.range 30).flatMap fun (x : Nat) => T.filter fun y => decide (y.1.t = ((x + 1 : Nat) : Int))

def bkt (L : List Kl) : List Kl := (List.range 30).flatMap fun (x : Nat) => L.filter fun y => decide (y.t = ((x + 1 : Nat) : Int))

theorem srt_flat {T : List Tg} (hi : IncT T) : ∀ n : Nat, Srt ((List.range n).flatMap fun (x : Nat) => T.filter fun y => decide (y.1.t = ((x + 1 : Nat) : Int)))
  | 0 => List.Pairwise.nil
  | n + 1 => by
    rw [List.range_succ, List.flatMap_append, srt_append]
    refine ⟨srt_flat hi n, ?_, ?_⟩
    · simp only [List.flatMap_cons, List.flatMap_nil, List.append_nil]
      have h1 : (T.filter fun y => decide (y.1.t = ((n + 1 : Nat) : Int))).Pairwise fun x y => x.2 < y.2 := List.Pairwise.filter _ hi
      refine h1.imp_of_mem fun {x y} hx hy h => ?_
      simp at hx hy
      unfold ltT
      omega
    · intro x hx y hy
      simp at hx hy
      unfold ltT
      omega

theorem flat_perm {α : Type} (f : α → Int) (T : List α) : ∀ n : Nat, ((List.range n).flatMap fun (x : Nat) => T.filter fun y => decide (f y = ((x + 1 : Nat) : Int))).Perm (T.filter fun y => decide (1 ≤ f y ∧ f y ≤ n))
  | 0 => by
    have : (T.filter fun y => decide (1 ≤ f y ∧ f y ≤ ((0 : Nat) : Int))) = [] := by
      rw [List.filter_eq_nil_iff]; intro x _; simp; omega
    rw [this]; exact .refl _
  | n + 1 => by
    rw [List.range_succ, List.flatMap_append]
    refine ((flat_perm f T n).append_right _).trans ?_
    simp only [List.flatMap_cons, List.flatMap_nil, List.append_nil]
    induction T with
    | nil => exact .refl _
    | cons a T ih =>
      simp only [List.filter_cons]
      by_cases h1 : 1 ≤ f a ∧ f a ≤ n
      · rw [if_pos (by simpa using h1), if_neg (by simp; omega), if_pos (by simp; omega)]
        exact ih.cons a
      · rw [if_neg (by simpa using h1)]
        by_cases h2 : f a = ((n + 1 : Nat) : Int)
        · rw [if_pos (by simpa using h2), if_pos (by simp; omega)]
          exact List.perm_middle.trans (ih.cons a)
        · rw [if_neg (by simpa using h2), if_neg (by simp; omega)]
          exact ih

theorem filter_all {α : Type} {T : List α} {f : α → Int} (h : ∀ y ∈ T, 1 ≤ f y ∧ f y ≤ 30) : (T.filter fun y => decide (1 ≤ f y ∧ f y ≤ ((30 : Nat) : Int))) = T :=
  List.filter_eq_self.2 fun y hy => by simpa using h y hy

theorem bktT_perm {T : List Tg} (h : ∀ y ∈ T, 1 ≤ y.1.t ∧ y.1.t ≤ 30) : T.Perm (bktT T) := by
  have := flat_perm (fun y : Tg => y.1.t) T 30
  rw [filter_all h] at this
  exact this.symm

theorem fsts_flat (T : List Tg) (n : Nat) : fsts ((List.range n).flatMap fun (x : Nat) => T.filter fun y => decide (y.1.t = ((x + 1 : Nat) : Int))) = (List.range n).flatMap fun (x : Nat) => (fsts T).filter fun y => decide (y.t = ((x + 1 : Nat) : Int)) := by
  unfold fsts
  rw [List.map_flatMap]
  congr 1
  funext x
  rw [List.filter_map]
  rfl

/-- What sorting gives. -/
theorem sorted_bkt {L : List Kl} {S : List Tg} (h : ∀ y ∈ L, 1 ≤ y.t ∧ y.t ≤ 30) (p : (tagK L).Perm S) (s : Srt S) : fsts S = bkt L := by
  have hT : ∀ y ∈ tagK L, 1 ≤ y.1.t ∧ y.1.t ≤ 30 := fun y hy => h y.1 (by
    have := List.mem_map_of_mem (f := Prod.fst) hy
    rw [show (tagK L).map Prod.fst = L from fsts_tag L] at this; exact this)
  have h1 : Srt (bktT (tagK L)) := srt_flat (inc_tag L) 30
  have h2 : S = bktT (tagK L) := srt_eq s h1 (p.symm.trans (bktT_perm hT))
  rw [h2]
  have := fsts_flat (tagK L) 30
  rw [fsts_tag] at this
  exact this

def turnP (L : List Kl) : List Kl := bkt (L.map turnK)

/-! ### Valid logs -/
/-- No two calls at one time share a person. -/
def apartK (c d : Kl) : Prop := c.t ≤ d.t ∧ (c.t = d.t → c.a ≠ d.a ∧ c.a ≠ d.b ∧ c.b ≠ d.a ∧ c.b ≠ d.b)

structure VP (n : Int) (l : List Kl) : Prop where
  n1 : 1 ≤ n
  n7 : n ≤ 7
  len : l.length ≤ 24
  ok : ∀ c ∈ l, okC n c = true
  two : l.Pairwise apartK

theorem clash_f {c d : Kl} : clash c d = false ↔ (d.t = c.t → d.a ≠ c.a ∧ d.a ≠ c.b ∧ d.b ≠ c.a ∧ d.b ≠ c.b) := by
  unfold clash Kl.has
  simp
  constructor
  · intro h e
    have := h e
    grind
  · intro h e
    have := h e
    grind

theorem vp_iff {n : Int} {l : List Kl} : validP n l = true ↔ VP n l := by
  constructor
  · intro h
    obtain ⟨h1, h2, h3, h4⟩ := validP_ok h
    refine ⟨h1, h2, by omega, fun c hc => ?_, ?_⟩
    · obtain ⟨i, hi⟩ := List.getElem?_of_mem hc
      have := h4 i c hi
      first | exact this | exact this.1
    · rw [List.pairwise_iff_getElem]
      intro i j hi hj hij
      obtain ⟨q1, q2⟩ := validP_sorted h hij (List.getElem?_eq_getElem hi) (List.getElem?_eq_getElem hj)
      exact ⟨q1, fun e => (clash_f.1 q2) e⟩
  · rintro ⟨h1, h2, h3, h4, h5⟩
    unfold validP
    simp only [Bool.and_eq_true, Bool.not_eq_true', decide_eq_false_iff_not, Int.not_lt, List.all_eq_true, List.mem_range]
    refine ⟨⟨⟨h1, h2⟩, by omega⟩, fun i hi => ?_⟩
    unfold rowOk
    rw [List.getElem?_eq_getElem hi]
    simp only [Bool.and_eq_true, Bool.not_eq_true']
    refine ⟨⟨h4 _ (List.getElem_mem hi), ?_⟩, ?_⟩
    · by_cases h0 : 0 < i
      · have h6 : i - 1 < l.length := by omega
        have := (List.pairwise_iff_getElem.1 h5 (i - 1) i h6 hi (by omega)).1
        simp [h6]
        omega
      · simp [h0]
    · rw [List.any_eq_false]
      intro d hd
      obtain ⟨j, hj⟩ := List.getElem?_of_mem hd
      have hji : j < i := by have := (List.getElem?_eq_some_iff.1 hj).1; rw [List.length_take] at this; omega
      rw [List.getElem?_take_of_lt hji] at hj
      obtain ⟨hj1, rfl⟩ := List.getElem?_eq_some_iff.1 hj
      have := (List.pairwise_iff_getElem.1 h5 j i hj1 hi hji).2
      rw [Bool.not_eq_true, clash_f]
      exact this

theorem mem_bkt {L : List Kl} {c : Kl} (h : c ∈ bkt L) : c ∈ L := by
  unfold bkt at h
  rw [List.mem_flatMap] at h
  obtain ⟨x, _, h⟩ := h
  exact (List.mem_filter.1 h).1

theorem bkt_perm {L : List Kl} (h : ∀ y ∈ L, 1 ≤ y.t ∧ y.t ≤ 30) : (bkt L).Perm L := by
  have := flat_perm (fun y : Kl => y.t) L 30
  rw [filter_all h] at this
  exact this

theorem ok_t {n : Int} {c : Kl} (h : okC n c = true) : 1 ≤ c.t ∧ c.t ≤ 30 := (okC_iff.1 h).2.2.2

theorem ok_turn {n : Int} {c : Kl} (h : okC n c = true) : okC n (turnK c) = true := by
  rw [okC_iff] at *
  simp only [turnK]
  omega

theorem VP.tOk {n : Int} {l : List Kl} (v : VP n l) : ∀ y ∈ l.map turnK, 1 ≤ y.t ∧ y.t ≤ 30 := by
  intro y hy
  obtain ⟨x, hx, rfl⟩ := List.mem_map.1 hy
  exact ok_t (ok_turn (v.ok x hx))

/-- Calls of different places are apart if their times are the same. -/
theorem two_flat {L : List Kl} (h : L.Pairwise fun c d => c.t = d.t → c.a ≠ d.a ∧ c.a ≠ d.b ∧ c.b ≠ d.a ∧ c.b ≠ d.b) : ∀ n : Nat, ((List.range n).flatMap fun (x : Nat) => L.filter fun y => decide (y.t = ((x + 1 : Nat) : Int))).Pairwise apartK
  | 0 => List.Pairwise.nil
  | n + 1 => by
    rw [List.range_succ, List.flatMap_append, List.pairwise_append]
    refine ⟨two_flat h n, ?_, ?_⟩
    · simp only [List.flatMap_cons, List.flatMap_nil, List.append_nil]
      have h1 := List.Pairwise.filter (fun y : Kl => decide (y.t = ((n + 1 : Nat) : Int))) h
      refine h1.imp_of_mem fun {x y} hx hy h => ?_
      simp at hx hy
      exact ⟨by omega, h⟩
    · intro x hx y hy
      simp at hx hy
      exact ⟨by omega, fun e => by omega⟩

theorem VP.turn {n : Int} {l : List Kl} (v : VP n l) : VP n (turnP l) := by
  refine ⟨v.n1, v.n7, ?_, fun c hc => ?_, ?_⟩
  · have := (bkt_perm v.tOk).length_eq
    rw [List.length_map] at this
    have := v.len
    unfold turnP
    omega
  · obtain ⟨x, hx, rfl⟩ := List.mem_map.1 (mem_bkt hc)
    exact ok_turn (v.ok x hx)
  · refine two_flat ?_ 30
    rw [List.pairwise_map]
    exact v.two.imp fun {c d} h e => h.2 (by simp only [turnK] at e; omega)

theorem turnP_len {n : Int} {l : List Kl} (v : VP n l) : (turnP l).length = l.length := by
  have := (bkt_perm v.tOk).length_eq
  rw [List.length_map] at this
  exact this

end Go.AM

end

section

/- Gossip, on the abstract machine. -/
namespace Go.AM
open Go.Proofs
variable {k : Nat} {R : Type}
attribute [local simp] nx_eq nx_new nx_set blk_new blk_set asI_int asK_int asB_bool asP_ptr al_eq bx_eq len_slice onE_exit onE_ret onR_ret Value.cells d3 d29 d31 d56 d24 d59 d22 d25 w3 cell_new cell_set rd_new rd_set off eq lt le ifB gv out eqF1 eqF2 eqF3 eqF4 eqF5 eqF6 eqF7 eqF8 ext20 ext21 k42 kbld31 kbld56 k22
/-- One call more, at the next time. -/
def addC (L : List Kl) (a b : Int) : List Kl := L ++ [⟨a, b, (L.length : Int) + 1⟩]

/-- What gossip holds while it is made. -/
structure GS (h0 : H) (lo : Nat) (g : H) (tb lb : Nat) (n : Int) (L : List Kl) : Prop where
  fr : Fr lo h0 g
  tbl : lo ≤ tb ∧ tb < g.nx
  lbl : lo ≤ lb ∧ lb < g.nx
  ne : tb ≠ lb
  tb_ : g.blk tb = some (.row [iv L.length] 3 true)
  sl : ∃ sv, g.blk lb = some (.row [iv n, sv] 31 true) ∧ AqR lo g 56 3 sv (L.map Kl.cells)

theorem s100 {h0 g : H} {lo tb lb : Nat} {n a b : Int} {L : List Kl} (gs : GS h0 lo g tb lb n L) (hL : L.length < 1000) (hlo : lo ≤ g.nx) :
    ∃ g', rn 100 #[iv a, iv b, pt tb 0, pt lb 0] g = some (undef, g') ∧ GS h0 lo g' tb lb n (addC L a b) ∧ g.nx ≤ g'.nx ∧ (∀ q, q < g.nx → q ≠ tb → q ≠ lb → (∀ c, g.blk q ≠ some (.row c 56 true)) → g'.blk q = g.blk q) := by
  obtain ⟨fr, tbl, lbl, ne, htb, sv, hlb, hap⟩ := gs
  have ht : wrc 1 g tb 0 (iv ((L.length : Int) + 1)) = some (g.set tb (.row [iv ((L.length : Int) + 1)] 3 true)) := by
    rw [wrc_one htb rfl rfl (by simp)]; rfl
  have a1 : AqR lo (g.set tb (.row [iv ((L.length : Int) + 1)] 3 true)) 56 3 sv (L.map Kl.cells) := hap.keep (Nat.le_refl _) fun q hq => blk_set_ne _ _ _ (by
    intro e; subst e
    have := (hap.blkOf hq).2.2
    rw [htb] at this
    simp at this)
  obtain ⟨v', h9, e9, a9, n9, k9, b9, hb9, hb9'⟩ := a1.push app29 app29 (bls29 ⟨a, b, (L.length : Int) + 1⟩) rfl rfl (by simp; omega) hlo
  have svt : blkOf sv ≠ some tb := fun e => by have := (hap.blkOf e).2.2; rw [htb] at this; simp at this
  have svl : blkOf sv ≠ some lb := fun e => by have := (hap.blkOf e).2.2; rw [hlb] at this; simp at this
  have hlb9 : h9.blk lb = some (.row [iv n, sv] 31 true) := (k9 lb lbl.2 svl).trans ((blk_set_ne _ _ _ (Ne.symm ne)).trans hlb)
  have htb9 : h9.blk tb = some (.row [iv ((L.length : Int) + 1)] 3 true) := (k9 tb tbl.2 svt).trans (blk_set_self _ _ _)
  have hw : wrc 1 h9 lb 1 v' = some (h9.set lb (.row [iv n, v'] 31 true)) := by rw [wrc_one hlb9 a9.cells.1 a9.cells.2 (by simp)]; rfl
  have n9' : g.nx ≤ h9.nx := n9
  refine ⟨h9.set lb (.row [iv n, v'] 31 true), x100 (k := 0) ?_ rfl, ⟨⟨?_, fun q hq => ?_⟩, ⟨tbl.1, ?_⟩, ⟨lbl.1, ?_⟩, ne, ?_, v', blk_set_self _ _ _, ?_⟩, n9', fun q hq h1 h2 h3 => ?_⟩
  · have hcl : ∀ o, g.cell tb o = [iv (L.length : Int)][o]? := fun o => cell_of htb
    have hcs : ∀ o, g.cell lb o = [iv n, sv][o]? := fun o => cell_of hlb
    have hadd : add .i64 (L.length : Int) 1 = (L.length : Int) + 1 := add64 (by omega) (by omega)
    simp [f100, hcl, hcs, hadd, ht, Ne.symm ne, ne, e9, w29, hw]
  · have := fr.nx; rw [nx_set]; omega
  · rw [blk_set_ne _ _ _ (by omega), k9 q (by rw [nx_set]; omega) (fun e => by have := (hap.blkOf e).1; omega), blk_set_ne _ _ _ (by omega)]
    exact fr.blk q hq
  · rw [nx_set]; omega
  · rw [nx_set]; omega
  · rw [blk_set_ne _ _ _ ne]
    simpa [addC] using htb9
  · have : (addC L a b).map Kl.cells = L.map Kl.cells ++ [[iv a, iv b, iv ((L.length : Int) + 1)]] := by simp [addC, Kl.cells]
    rw [this]
    exact a9.keep (by rw [nx_set]; exact Nat.le_refl _) fun q hq => blk_set_ne _ _ _ (by rw [hb9] at hq; cases hq; rw [nx_set] at hb9'; omega)
  · rw [blk_set_ne _ _ _ h2, k9 q hq (fun e => h3 _ (hap.blkOf e).2.2), blk_set_ne _ _ _ h1]

/-- Calls in a row, from the first person. -/
def chainP (m : Nat) : List Kl := (List.range m).foldl (fun L (i : Nat) => addC L ((i : Int) + 1 - 1) ((i : Int) + 1)) []

def starP (L : List Kl) (m : Nat) : List Kl := (List.range m).foldl (fun L (i : Nat) => addC L 0 ((i : Int) + 4)) L

def gossipP (n : Nat) : List Kl :=
  if n < 4 then (if n = 3 then addC (chainP (n - 1)) 0 1 else chainP (n - 1))
  else starP (addC (addC (addC (addC (starP [] (n - 4)) 0 1) 2 3) 0 2) 1 3) (n - 4)

theorem addC_len (L : List Kl) (a b : Int) : (addC L a b).length = L.length + 1 := by simp [addC]

theorem chain_len (m : Nat) : (chainP m).length = m := by
  induction m with
  | zero => rfl
  | succ m ih => unfold chainP at *; rw [List.range_succ, List.foldl_append]; simp only [List.foldl_cons, List.foldl_nil]; rw [addC_len, ih]

theorem star_len (L : List Kl) (m : Nat) : (starP L m).length = L.length + m := by
  induction m with
  | zero => rfl
  | succ m ih => unfold starP at *; rw [List.range_succ, List.foldl_append]; simp only [List.foldl_cons, List.foldl_nil]; rw [addC_len, ih]; omega

theorem s76 {n : Nat} (hn1 : 1 ≤ n) (hn : n ≤ 7) (h : H) : ∃ sv h', rn 76 #[iv n] h = some (.agg #[iv n, sv], h') ∧ Ext h h' ∧ AqR h.nx h' 56 3 sv ((gossipP n).map Kl.cells) := by
  let z31 : List Value := [.int .i64 0, .slice none 0 0]
  let h1 := h.new (.row z31 31 true)
  let h3 := h1.fresh 31 z31 [.int .i64 n, .slice none 0 0]
  let h5 := h3.fresh 3 [iv 0] [iv 0]
  have n5 : h5.nx = h.nx + 3 := rfl
  have x5 : Ext h h5 := (((Ext.refl h).new' _).fresh _ _ _).fresh _ _ _
  have g0 : h5.blk h.nx = some (.row z31 31 true) := by simp [h5, h3, h1, H.fresh]
  have g1 : h5.blk (h.nx + 1) = some (.row [.int .i64 n, .slice none 0 0] 31 true) := by simp [h5, h3, h1, H.fresh]
  have g2 : h5.blk (h.nx + 2) = some (.row [iv 0] 3 true) := by simp [h5, h3, h1, H.fresh]
  have gs5 : GS h h.nx h5 (h.nx + 2) (h.nx + 1) n [] := ⟨⟨x5.nx, x5.blk⟩, ⟨by omega, by omega⟩, ⟨by omega, by omega⟩, by omega, g2, _, g1, .nil⟩
  -- what is known all along
  let Inv : List Kl → H → Prop := fun L g => GS h h.nx g (h.nx + 2) (h.nx + 1) n L ∧ g.blk h.nx = some (.row z31 31 true) ∧ h.nx + 3 ≤ g.nx
  have i5 : Inv [] h5 := ⟨gs5, g0, by omega⟩
  have call : ∀ (L : List Kl) (g : H) (a b : Int), Inv L g → L.length < 1000 → ∃ g', rn 100 #[iv a, iv b, pt (h.nx + 2) 0, pt (h.nx + 1) 0] g = some (undef, g') ∧ Inv (addC L a b) g' := by
    intro L g a b ⟨gs, gz, gn⟩ hL
    obtain ⟨g', e, gs', hn', f'⟩ := s100 (a := a) (b := b) gs hL (by omega)
    exact ⟨g', e, gs', (f' h.nx (by omega) (by omega) (by omega) (by intro c e; rw [gz] at e; simp at e)).trans gz, by omega⟩
  have fin : ∀ (L : List Kl) (g : H), Inv L g → ∃ sv h', Ext h h' ∧ AqR h.nx h' 56 3 sv (L.map Kl.cells) ∧ ((g.rd (h.nx + 1) 0 2).bind fun l => (wrc 2 g h.nx 0 (.agg l.toArray)).bind fun h10 => (h10.rd h.nx 0 2).bind fun l => some (Value.agg l.toArray, h10)) = some (.agg #[iv n, sv], h') := by
    intro L g ⟨gs, gz, gn⟩
    obtain ⟨fr, tbl, lbl, ne, htb, sv, hlb, hap⟩ := gs
    have hst : wrc 2 g h.nx 0 (.agg #[iv n, sv]) = some (g.set h.nx (.row [iv n, sv] 31 true)) := by
      simp only [wrc, gz]
      rw [if_pos ⟨rfl, by simp [z31], by simp [Value.cells, hap.cells.2]; rfl⟩]
      rfl
    refine ⟨sv, g.set h.nx (.row [iv n, sv] 31 true), ⟨by rw [nx_set]; exact fr.nx, fun q hq => by rw [blk_set_ne _ _ _ (by omega)]; exact fr.blk q hq⟩, hap.keep (Nat.le_refl _) fun q hq => blk_set_ne _ _ _ (by intro e; subst e; have := (hap.blkOf hq).2.2; rw [gz] at this; simp at this), ?_⟩
    rw [rd_all (n := 2) hlb rfl, Option.bind_some]
    rw [show ([iv (n : Int), sv].toArray) = #[iv (n : Int), sv] from rfl, hst, Option.bind_some, rd_all (n := 2) (blk_set_self _ _ _) rfl]
    rfl
  have hF : ∃ sv h' k, f76 rn k n h = some (.agg #[iv n, sv], h') ∧ Ext h h' ∧ AqR h.nx h' 56 3 sv ((gossipP n).map Kl.cells) := by
    have loop : ∀ (F : List Value → H → Option (Ex × List Value × H)) (oj : Nat) (st : Int) (m : Nat) (ab : Nat → List Kl → List Kl) (L0 : List Kl) (g0 : H), m ≤ 10 → L0.length ≤ 20 → Inv L0 g0 → (∀ i L, (ab i L).length = L.length + 1) →
        (∀ (i : Nat) (L : List Kl) (g : H), i < m → Inv L g → L.length < 1000 → ∃ g', F [iv (st + i)] g = some (.normal, [iv (st + i + 1)], g') ∧ Inv (ab i L) g') → (∀ g, F [iv (st + m)] g = some (.exit oj, [iv (st + m)], g)) →
        ∃ ws' h', lpGo F 100 [iv st] g0 = some (.exit oj, ws', h') ∧ Inv ((List.range m).foldl (fun L i => ab i L) L0) h' := by
      intro F oj st m ab L0 g0 hm hL0 hi0 hlen hstep hfin
      obtain ⟨ws', h', e, hi, _⟩ := lp_for (F := F) (k := 100) (l := List.range m) (fun _ x => ab x) (fun i L ws g => Inv L g ∧ L.length = L0.length + i ∧ ws = [iv (st + i)]) oj (ws := [iv st]) (h := g0) (s0 := L0)
        ⟨hi0, rfl, by simp⟩ (by simp; omega)
        (by
          rintro L ws g ⟨hi, hl, rfl⟩
          rw [List.length_range]
          exact hfin g)
        (by
          rintro i c L ws g hc ⟨hi, hl, rfl⟩
          have him : i < m := by simpa using (List.getElem?_eq_some_iff.1 hc).1
          obtain rfl : c = i := by
            rw [List.getElem?_range him] at hc
            exact (Option.some.inj hc).symm
          obtain ⟨g', e, hi'⟩ := hstep c L g him hi (by omega)
          exact ⟨_, g', e, hi', by rw [hlen]; omega, by rw [show st + ((c + 1 : Nat) : Int) = st + c + 1 by omega]⟩)
      rw [foldI_foldl] at hi
      exact ⟨ws', h', e, hi⟩
    have hh1 : h1.nx = h.nx + 1 := rfl
    have hh3 : h3.nx = h.nx + 2 := rfl
    have kc : ∀ {L : List Kl} {g : H} {a b : Int} {g' : H}, rn 100 #[iv a, iv b, pt (h.nx + 2) 0, pt (h.nx + 1) 0] g = some (undef, g') → ∀ {R : Type} (K : Value → H → Option R), calls rn g 100 [.int .i64 a, .int .i64 b, pt (h.nx + 2) 0, pt (h.nx + 1) 0] K = K undef g' := fun e _ K => calls_eq e
    by_cases h4 : n < 4
    · obtain ⟨ws1, g1, e1, i1⟩ := loop (f76_l1 rn 100 n h1 h3) 0 1 (n - 1) (fun i L => addC L ((i : Int) + 1 - 1) ((i : Int) + 1)) [] h5 (by omega) (by simp) i5 (fun _ _ => addC_len _ _ _)
        (fun i L g him hi hL => by
          obtain ⟨g', e, hi'⟩ := call L g ((i : Int) + 1 - 1) ((i : Int) + 1) hi hL
          refine ⟨g', ?_, hi'⟩
          have hs : sub .i64 (1 + (i : Int)) 1 = (i : Int) + 1 - 1 := by rw [sub64 (by omega) (by omega)]; omega
          have ha : add .i64 (1 + (i : Int)) 1 = 1 + (i : Int) + 1 := add64 (by omega) (by omega)
          rw [show (i : Int) + 1 = 1 + (i : Int) by omega] at e hs
          simp only [f76_l1, gv, List.getD_cons_zero, asI_int, lt_t (show 1 + (i : Int) < n by omega), ifB, if_true, hs, nx_eq, hh1, hh3, kc (L := L) e, ha, out])
        (fun g => by simp [f76_l1, show ¬ (1 + ((n - 1 : Nat) : Int) < n) by omega])
      rw [show (List.range (n - 1)).foldl (fun L (i : Nat) => addC L ((i : Int) + 1 - 1) ((i : Int) + 1)) [] = chainP (n - 1) from rfl] at i1
      have head : f76 rn 100 n h = (if n = 3 then (calls rn g1 100 [.int .i64 0, .int .i64 1, pt (h.nx + 2) 0, pt (h.nx + 1) 0] fun v2 h9 => (h9.rd (h.nx + 1) 0 2).bind fun l => (wrc 2 h9 h.nx 0 (.agg l.toArray)).bind fun h10 => (h10.rd h.nx 0 2).bind fun l => some (Value.agg l.toArray, h10)) else
          ((g1.rd (h.nx + 1) 0 2).bind fun l => (wrc 2 g1 h.nx 0 (.agg l.toArray)).bind fun h10 => (h10.rd h.nx 0 2).bind fun l => some (Value.agg l.toArray, h10))) := by
        unfold f76
        rw [al_eq, kbld31, al_st (zs := z31) (xs := [.int .i64 n, .slice none 0 0]) sz31 rfl rfl, al_st1 (v := iv 0) sz3 rfl rfl]
        rw [lt_t (show (n : Int) < 4 by omega), ifB_true, show H.fresh (H.fresh (h.new (.row [.int .i64 0, .slice none 0 0] 31 true)) 31 z31 [.int .i64 n, .slice none 0 0]) 3 [iv 0] [iv 0] = h5 from rfl]
        refine (lp_eq e1).trans ?_
        rw [onE_exit, if_pos rfl]
        simp only [nx_eq, hh1, hh3, d31, w31, ifB]
        by_cases h3' : n = 3
        · rw [if_pos h3', eq_t (by omega), if_pos rfl]; rfl
        · rw [if_neg h3', eq_f (by omega)]; simp only [Bool.false_eq_true, if_false]; rfl
      by_cases h3' : n = 3
      · obtain ⟨g2, e2, i2⟩ := call _ g1 0 1 i1 (by rw [chain_len]; omega)
        obtain ⟨sv, h', x, a, e3⟩ := fin _ _ i2
        refine ⟨sv, h', 100, ?_, x, by simpa [gossipP, h4, h3'] using a⟩
        rw [head, if_pos h3', kc (L := []) e2]
        exact e3
      · obtain ⟨sv, h', x, a, e3⟩ := fin _ _ i1
        refine ⟨sv, h', 100, ?_, x, by simpa [gossipP, h4, h3'] using a⟩
        rw [head, if_neg h3']
        exact e3
    · have star : ∀ (F : List Value → H → Option (Ex × List Value × H)) (oj : Nat) (L0 : List Kl) (g0 : H), L0.length ≤ 20 → Inv L0 g0 →
          (∀ ws g, F ws g = asI .i64 (gv ws 0) fun n4 => ifB (lt n4 n) (calls rn g 100 [(.int .i64 0), gv ws 0, (pt (nx h3) 0), (pt (nx h1) 0)] fun v7 h13 => asI .i64 (gv ws 0) fun n5 => out .normal [(.int .i64 (add .i64 n5 1))] h13) (out (.exit oj) [gv ws 0] g)) →
          ∃ ws' h', lpGo F 100 [iv 4] g0 = some (.exit oj, ws', h') ∧ Inv (starP L0 (n - 4)) h' := by
        intro F oj L0 g0 hL hi hF
        obtain ⟨ws1, g1, e1, i1⟩ := loop F oj 4 (n - 4) (fun i L => addC L 0 ((i : Int) + 4)) L0 g0 (by omega) hL hi (fun _ _ => addC_len _ _ _)
          (fun i L g him hi hL => by
            obtain ⟨g', e, hi'⟩ := call L g 0 ((i : Int) + 4) hi hL
            refine ⟨g', ?_, hi'⟩
            rw [show (i : Int) + 4 = 4 + (i : Int) by omega] at e
            have ha : add .i64 (4 + (i : Int)) 1 = 4 + (i : Int) + 1 := add64 (by omega) (by omega)
            rw [hF]
            simp only [gv, List.getD_cons_zero, asI_int, lt_t (show 4 + (i : Int) < n by omega), ifB, if_true, nx_eq, hh1, hh3, kc (L := L) e, ha, out])
          (fun g => by rw [hF]; simp [show ¬ (4 + ((n - 4 : Nat) : Int) < n) by omega])
        exact ⟨ws1, g1, e1, i1⟩
      obtain ⟨ws1, g1, e1, i1⟩ := star (f76_l2 rn 100 n h1 h3) 2 [] h5 (by simp) i5 (fun _ _ => rfl)
      have l1 : (starP [] (n - 4)).length = n - 4 := by rw [star_len]; simp
      obtain ⟨g2, e2, i2⟩ := call _ g1 0 1 i1 (by omega)
      obtain ⟨g3, e3, i3⟩ := call _ g2 2 3 i2 (by rw [addC_len]; omega)
      obtain ⟨g4, e4, i4⟩ := call _ g3 0 2 i3 (by rw [addC_len, addC_len]; omega)
      obtain ⟨g5, e5, i5'⟩ := call _ g4 1 3 i4 (by rw [addC_len, addC_len, addC_len]; omega)
      obtain ⟨ws6, g6, e6, i6⟩ := star (f76_l3 rn 100 n h1 h3) 4 _ g5 (by rw [addC_len, addC_len, addC_len, addC_len]; omega) i5' (fun _ _ => rfl)
      obtain ⟨sv, h', x, a, e7⟩ := fin _ _ i6
      refine ⟨sv, h', 100, ?_, x, by simpa [gossipP, h4] using a⟩
      unfold f76
      rw [al_eq, kbld31, al_st (zs := z31) (xs := [.int .i64 n, .slice none 0 0]) sz31 rfl rfl, al_st1 (v := iv 0) sz3 rfl rfl]
      rw [lt_f (show ¬ (n : Int) < 4 by omega), ifB_false, show H.fresh (H.fresh (h.new (.row [.int .i64 0, .slice none 0 0] 31 true)) 31 z31 [.int .i64 n, .slice none 0 0]) 3 [iv 0] [iv 0] = h5 from rfl]
      refine (lp_eq e1).trans ?_
      rw [onE_exit, if_pos rfl]
      refine (kc (L := []) e2 _).trans ?_
      refine (kc (L := []) e3 _).trans ?_
      refine (kc (L := []) e4 _).trans ?_
      refine (kc (L := []) e5 _).trans ?_
      refine (lp_eq e6).trans ?_
      rw [onE_exit, if_pos rfl]
      simp only [d31, w31]
      exact e7
  obtain ⟨sv, h', k, e, x, a⟩ := hF
  exact ⟨sv, h', x76 e (by obtain ⟨x, y, z, hz⟩ := a.isSl; rw [hz]; rfl), x, a⟩

end Go.AM

end

section

/- CallsGossips, on the abstract machine. -/
namespace Go.AM
open Go.Proofs
variable {k : Nat} {R : Type}
attribute [local simp] nx_eq nx_new nx_set blk_new blk_set asI_int asK_int asB_bool asP_ptr al_eq bx_eq len_slice onE_exit onE_ret onR_ret Value.cells d3 d29 d31 d56 d24 d59 d22 d25 w3 cell_new cell_set rd_new rd_set off eq lt le ifB gv out eqF1 eqF2 eqF3 eqF4 eqF5 eqF6 eqF7 eqF8 ext20 ext21 k42 k22
theorem app22 : okApp Try.prog 22 59 3 = true := by kernel_rfl

theorem kbld24 (n : Int) (K : Value → Option R) : bld Try.prog 24 [(0, .int .i64 n)] K = K (.agg #[.int .i64 n, .slice none 0 0]) := bld_some (by kernel_rfl)

theorem kbld59 (a b t : Int) (K : Value → Option R) : bld Try.prog 59 [(0, .int .i64 a), (1, .int .i64 b), (2, .int .i64 t)] K = K (.agg #[.int .i64 a, .int .i64 b, .int .i64 t]) := bld_some (by kernel_rfl)

theorem bls22 (c : Kl) (h : H) : buildSlice Try.prog 22 1 [(0, .agg #[.int .i64 c.a, .int .i64 c.b, .int .i64 c.t])] h = some (.slice (some ⟨h.nx, 0, none⟩) 1 1, h.new (.row c.cells 59 true)) := by kernel_rfl

attribute [local simp] kbld24 kbld59
theorem s33 {n : Int} {sl : Value} {l : List Kl} {h : H} (hs : SlR h 56 3 sl (l.map Kl.cells)) (hm : l.length < 1000) :
    ∃ sl' h', rn 33 #[.agg #[iv n, sl]] h = some (.agg #[iv n, sl'], h') ∧ Exw h h' ∧ SlR h' 59 3 sl' (l.map Kl.cells) := by
  have hlen := hs.lt62
  rw [List.length_map] at hlen
  -- the heap ahead of the loop
  let h1 := h.new (.row [iv n, sl] 31 true)
  let h2 := h1.new (.row [.int .i64 0, .slice none 0 0] 24 true)
  let h4 := h2.fresh 24 [.int .i64 0, .slice none 0 0] [.int .i64 n, .slice none 0 0]
  have n1 : h1.nx = h.nx + 1 := rfl
  have n2 : h2.nx = h.nx + 2 := rfl
  have n4 : h4.nx = h.nx + 3 := rfl
  have x4 : Ext h h4 := (((Ext.refl h).new' _).new' _).fresh _ _ _
  have b0 : h4.blk h.nx = some (.row [iv n, sl] 31 true) := by simp [h4, h2, h1, H.fresh]
  have b1 : h4.blk (h.nx + 1) = some (.row [.int .i64 0, .slice none 0 0] 24 true) := by simp [h4, h2, h1, H.fresh]
  have b2 : h4.blk (h.nx + 2) = some (.row [.int .i64 n, .slice none 0 0] 24 true) := by simp [h4, h2, h1, H.fresh]
  obtain ⟨ws', h', hl, hx, hgn, hg1, sv, hg2, hap, rfl⟩ := lp_for (F := f33_l1 rn (l.length + 1) h2 sl l.length) (k := l.length + 1) (l := l) (fun _ _ (_ : Unit) => ())
    (fun i _ ws g => Ext h g ∧ h.nx + 3 ≤ g.nx ∧ g.blk (h.nx + 1) = some (.row [.int .i64 0, .slice none 0 0] 24 true) ∧
      ∃ sv, g.blk (h.nx + 2) = some (.row [iv n, sv] 24 true) ∧ AqR h.nx g 59 3 sv ((l.take i).map Kl.cells) ∧ ws = [iv i]) 0 (ws := [iv 0]) (h := h4) (s0 := ())
    ⟨x4, by omega, b1, _, b2, .nil, rfl⟩ (by omega)
    (by
      rintro _ ws g ⟨hx, hgn, hg1, sv, hg2, hap, rfl⟩
      simp [f33_l1])
    (by
      rintro i c _ ws g hc ⟨hx, hgn, hg1, sv, hg2, hap, rfl⟩
      have hi := (List.getElem?_eq_some_iff.1 hc).1
      have y7 := (Ext.refl g).fresh 56 [iv 0, iv 0, iv 0] c.cells
      have hcb := blk_fresh g 56 [iv 0, iv 0, iv 0] c.cells
      have n7 : (g.fresh 56 [iv 0, iv 0, iv 0] c.cells).nx = g.nx + 1 := rfl
      unfold f33_l1
      rw [show gv [iv i] 0 = iv i from rfl, asI_int, lt_t (by omega), ifB_true, asK_int, (hs.ext hx).ldA ag56 sz56 (by omega) (x := c.cells) (by simp [hc])]
      rw [al_st (zs := [iv 0, iv 0, iv 0]) (xs := c.cells) sz56 rfl rfl]
      generalize g.fresh 56 [iv 0, iv 0, iv 0] c.cells = h7 at *
      have g1 := (y7.blk (h.nx + 1) (by omega)).trans hg1
      have g2 := (y7.blk (h.nx + 2) (by omega)).trans hg2
      have a7 := hap.ext y7
      simp only [Kl.cells] at hcb
      obtain ⟨v', h9, e9, a9, n9, k9, b9, hb9, hb9'⟩ := a7.push app22 app22 (bls22 c) rfl rfl (by simp; omega) (by omega)
      have kb : ∀ b, b < h7.nx → h7.blk b ≠ some (.row ((l.take i).map Kl.cells).flatten 59 true) → h9.blk b = h7.blk b := fun b hb hne => k9 b hb fun e => hne (a7.blkOf e).2.2
      have g1' := kb (h.nx + 1) (by omega) (by rw [g1]; simp)
      have g2' := kb (h.nx + 2) (by omega) (by rw [g2]; simp)
      rw [g1] at g1'
      rw [g2] at g2'
      have x9 : Ext h h9 := ⟨by have := hx.nx; omega, fun b hb => by
        rw [k9 b (by have := hx.nx; omega) (fun e => by have := (a7.blkOf e).1; omega)]
        exact (hx.trans y7).blk b hb⟩
      have hst : wrc 1 h9 (h.nx + 2) 1 v' = some (h9.set (h.nx + 2) (.row [iv n, v'] 24 true)) := by rw [wrc_one g2' a9.cells.1 a9.cells.2 (by simp)]; rfl
      refine ⟨[iv ((i : Int) + 1)], h9.set (h.nx + 2) (.row [iv n, v'] 24 true), ?_, x9.set (by omega) _, by rw [nx_set]; omega, ?_, v', blk_set_self _ _ _, ?_, rfl⟩
      · simp [cell_of hcb, n2, cell_of g2, e9, w22, hst]
        rw [add64 (by omega) (by omega)]
      · rw [blk_set_ne _ _ _ (by omega)]; exact g1'
      · have : (l.take (i + 1)).map Kl.cells = (l.take i).map Kl.cells ++ [c.cells] := by
          rw [List.take_add_one, hc]
          simp
        rw [this]
        refine a9.keep (by rw [nx_set]; omega) fun b hb => blk_set_ne _ _ _ ?_
        rw [hb9] at hb; cases hb; omega)
  have hfin : f33 rn (l.length + 1) (.agg #[iv n, sl]) h = some (.agg #[iv n, sv], h'.set (h.nx + 1) (.row [iv n, sv] 24 true)) := by
    have hst : wrc 2 h' (h.nx + 1) 0 (.agg #[iv n, sv]) = some (h'.set (h.nx + 1) (.row [iv n, sv] 24 true)) := by
      simp only [wrc, hg1]
      rw [if_pos ⟨rfl, by simp, by simp [Value.cells, hap.cells.2]; rfl⟩]
      rfl
    unfold f33
    rw [bx_eq, al_eq]
    rw [show nx (h.new (.row (Value.agg #[iv n, sl]).cells.toList 31 true)) = h.nx + 1 from rfl, d3]
    rw [show ((h.new (.row (Value.agg #[iv n, sl]).cells.toList 31 true)).new (.row [.int .i64 0, .slice none 0 0] 24 true)).cell (nx h) 0 = some (iv n) by simp]
    rw [Option.bind_some, asI_int, kbld24, al_st (zs := [.int .i64 0, .slice none 0 0]) (xs := [.int .i64 n, .slice none 0 0]) sz24 rfl rfl]
    rw [show (H.fresh ((h.new (.row (Value.agg #[iv n, sl]).cells.toList 31 true)).new (.row [.int .i64 0, .slice none 0 0] 24 true)) 24 [.int .i64 0, .slice none 0 0] [.int .i64 n, .slice none 0 0]) = h4 from rfl,
      show ((h.new (.row (Value.agg #[iv n, sl]).cells.toList 31 true)).new (.row [.int .i64 0, .slice none 0 0] 24 true)) = h2 from rfl, d29, nx_eq, cell_of b0]
    rw [show [iv n, sl][off 0 1]? = some sl from rfl, Option.bind_some, hs.len, List.length_map, lp_eq hl]
    simp [n2, rd_of hg2, w24, hst]
  obtain ⟨h9, e9, sm, xw⟩ := x33 hfin (by obtain ⟨x, y, z, hz⟩ := hap.isSl; rw [hz]; rfl) (hx.set (by omega) _)
  refine ⟨sv, h9, e9, xw, SlR.ext ?_ sm.ext⟩
  rw [List.take_length] at hap
  refine (hap.keep (by rw [nx_set]; omega) fun b hb => blk_set_ne _ _ _ ?_).slR
  intro e
  have := (hap.blkOf hb).2.2
  rw [e, hg1] at this
  simp at this

theorem kbld31e (K : Value → Option R) : bld Try.prog 31 [] K = K (.agg #[.int .i64 0, .slice none 0 0]) := bld_some (by kernel_rfl)

theorem kfld31 (a v : Value) (K : Value → Option R) : fld Try.prog 31 (.agg #[a, v]) 1 K = K v := by
  have e : field Try.prog 31 (.agg #[a, v]) 1 = some v := by kernel_rfl
  unfold fld
  rw [e]
  rfl

/-- A result is written into its own place. -/
theorem wrc31 {g : H} {b : Nat} {n : Int} {sv x y : Value} (hg : g.blk b = some (.row [x, y] 31 true)) (hs : scal sv = true) : wrc 2 g b 0 (.agg #[iv n, sv]) = some (g.set b (.row [iv n, sv] 31 true)) := by
  simp only [wrc, hg]
  rw [if_pos ⟨rfl, by simp, by simp [Value.cells, hs]; rfl⟩]
  rfl

theorem s30_bad {n : Int} (hn : n < 1 ∨ 7 < n) (h : H) : ∃ h', rn 30 #[iv n] h = some (.tuple #[.agg #[iv 0, .slice none 0 0], iv 2], h') ∧ Ext h h' := by
  have x1 := Ext.new h (.row [.int .i64 0, .slice none 0 0] 31 true)
  have hw := wrc31 (n := 0) (sv := .slice none 0 0) (blk_new_self h (.row [.int .i64 0, .slice none 0 0] 31 true)) rfl
  refine ⟨_, x30 (k := 0) (h1 := (h.new (.row [.int .i64 0, .slice none 0 0] 31 true)).set h.nx (.row [iv 0, .slice none 0 0] 31 true)) ?_ rfl, (Ext.refl h).new' _ |>.set (Nat.le_refl _) _⟩
  simp [f30, kbld31e, w31, hw]
  grind

theorem s31_bad {n : Int} (hn : n < 1 ∨ 7 < n) (h : H) : rn 31 #[iv n] h = some (.tuple #[iv 0, iv 2], h) := by
  refine p31 (k := 0) (h1 := h) ?_ rfl (.refl _)
  simp [f31]
  grind

theorem s30 {n : Nat} (hn1 : 1 ≤ n) (hn : n ≤ 7) (h : H) : ∃ sv h', rn 30 #[iv n] h = some (.tuple #[.agg #[iv n, sv], iv 0], h') ∧ Ext h h' ∧ SlR h' 56 3 sv ((gossipP n).map Kl.cells) := by
  have x1 := Ext.new h (.row [.int .i64 0, .slice none 0 0] 31 true)
  obtain ⟨sv, h4, e, x4, a⟩ := s76 hn1 hn (h.new (.row [.int .i64 0, .slice none 0 0] 31 true))
  have hb : h4.blk h.nx = some (.row [.int .i64 0, .slice none 0 0] 31 true) := (x4.blk _ (Nat.lt_succ_self _)).trans (blk_new_self _ _)
  have hw := wrc31 (n := n) hb a.cells.2
  have hc := fun (K : Value → H → Option (Value × H)) => calls_eq (K := K) (xs := [_]) e
  refine ⟨sv, _, x30 (k := 0) (h1 := h4.set h.nx (.row [iv n, sv] 31 true)) ?_ (by obtain ⟨x, y, z, hz⟩ := a.isSl; rw [hz]; rfl), (x1.trans x4).set (Nat.le_refl _) _, ?_⟩
  · have h1 : (n = 0) = False := eq_false (by omega)
    have h2 : (7 < n) = False := eq_false (by omega)
    simp [f30, hc, w31, hw, h1, h2, show ¬ (n : Int) < 1 by omega, show ¬ (7 : Int) < n by omega]
  · refine (a.keep (h' := h4.set h.nx (.row [iv n, sv] 31 true)) (Nat.le_refl _) fun q hq => blk_set_ne _ _ _ ?_).slR
    intro e
    have := (a.blkOf hq).1
    rw [nx_new] at this
    omega

theorem s31 {n : Nat} (hn1 : 1 ≤ n) (hn : n ≤ 7) (h : H) : rn 31 #[iv n] h = some (.tuple #[iv (gossipP n).length, iv 0], h) := by
  obtain ⟨sv, h4, e, x4, a⟩ := s76 hn1 hn h
  have hc := fun (K : Value → H → Option (Value × H)) => calls_eq (K := K) (xs := [_]) e
  refine p31 (k := 0) (h1 := h4) ?_ rfl x4
  have h1 : (n = 0) = False := eq_false (by omega)
  have h2 : (7 < n) = False := eq_false (by omega)
  simp [f31, hc, kfld31, a.slR.len, h1, h2, show ¬ (n : Int) < 1 by omega, show ¬ (7 : Int) < n by omega]

theorem s32 {n : Int} {sl : Value} {l : List Kl} {h : H} (hs : SlR h 56 3 sl (l.map Kl.cells)) : rn 32 #[.agg #[iv n, sl]] h = some (.bool (decide (n = 0) && decide (l = [])), h) := by
  refine p32 (k := 0) (h1 := h.new (.row [iv n, sl] 31 true)) ?_ rfl (.new _ _)
  simp [f32, hs.len]
  have h1 : ((l.length : Int) == 0) = decide (l = []) := by
    cases l with
    | nil => rfl
    | cons x l => simp; omega
  rw [h1]
  by_cases h0 : n = 0 <;> simp [h0]

def neededP (n : Int) : Int := if n < 4 then quo .i64 (mul .i64 n (sub .i64 n 1)) 2 else sub .i64 (mul .i64 2 n) 4

theorem s34 (n : Int) (h : H) : rn 34 #[iv n] h = some (iv (neededP n), h) := by
  refine p34 (k := 0) (h1 := h) ?_ rfl (.refl _)
  simp [f34, neededP, nz]
  by_cases h0 : n < 4 <;> simp [h0]

theorem gossip_ok : ∀ n : Fin 8, 1 ≤ n.1 → validP n.1 (gossipP n.1) = true ∧ allP n.1 (newsP n.1 (gossipP n.1)) = true ∧ ((gossipP n.1).length : Int) = neededP n.1 := by decide +kernel

theorem s5 {n : Int} {h : H} : ∃ h', rn 5 #[iv n] h = some (.bool true, h') := by
  by_cases hn : n < 1 ∨ 7 < n
  · obtain ⟨h1, e1, x1⟩ := s30_bad hn h
    have c1 := fun (K : Value → H → Option (Value × H)) => calls_eq (K := K) (xs := [_]) e1
    have hw := wrc31 (n := 0) (sv := .slice none 0 0) (blk_new_self h1 (.row [.int .i64 0, .slice none 0 0] 31 true)) rfl
    have c2 := fun (K : Value → H → Option (Value × H)) => calls_eq (K := K) (xs := [_]) (s31_bad hn ((h1.new (.row [.int .i64 0, .slice none 0 0] 31 true)).set h1.nx (.row [iv 0, .slice none 0 0] 31 true)))
    have c3 := fun (K : Value → H → Option (Value × H)) => calls_eq (K := K) (xs := [_]) (s32 (n := 0) (l := []) (.nil (h := (h1.new (.row [.int .i64 0, .slice none 0 0] 31 true)).set h1.nx (.row [iv 0, .slice none 0 0] 31 true))))
    refine ⟨_, t5 (k := 0) (v := .bool true) (h1 := ((h1.new (.row [.int .i64 0, .slice none 0 0] 31 true)).set h1.nx (.row [iv 0, .slice none 0 0] 31 true))) ?_⟩
    simp [f5, c1, w31, hw, c2, c3]
    grind
  · obtain ⟨m, rfl⟩ := Int.eq_ofNat_of_zero_le (show 0 ≤ n by omega)
    obtain ⟨hv, hal, hne⟩ := gossip_ok ⟨m, by omega⟩ (by simp; omega)
    simp only at hv hal hne
    have hln := (validP_ok hv).2.2.1
    obtain ⟨sv, h1, e1, x1, s1⟩ := s30 (show 1 ≤ m by omega) (show m ≤ 7 by omega) h
    have c1 := fun (K : Value → H → Option (Value × H)) => calls_eq (K := K) (xs := [_]) e1
    obtain ⟨a0, n0, c0, hsv⟩ := s1.isSl
    have hw := wrc31 (n := m) (sv := sv) (blk_new_self h1 (.row [.int .i64 0, .slice none 0 0] 31 true)) (by rw [hsv]; rfl)
    have x2 : Ext h1 ((h1.new (.row [.int .i64 0, .slice none 0 0] 31 true)).set h1.nx (.row [iv m, sv] 31 true)) := (Ext.refl h1).new' _ |>.set (Nat.le_refl _) _
    have b2 : ((h1.new (.row [.int .i64 0, .slice none 0 0] 31 true)).set h1.nx (.row [iv m, sv] 31 true)).blk h1.nx = some (.row [iv m, sv] 31 true) := blk_set_self _ _ _
    generalize hG : (h1.new (.row [.int .i64 0, .slice none 0 0] 31 true)).set h1.nx (.row [iv m, sv] 31 true) = h2 at *
    have c2 := fun (K : Value → H → Option (Value × H)) => calls_eq (K := K) (xs := [_]) (s31 (show 1 ≤ m by omega) (show m ≤ 7 by omega) h2)
    obtain ⟨tv, h3, e3, x3, s3⟩ := s33 (n := m) (s1.ext x2) (by omega)
    have c3 := fun (K : Value → H → Option (Value × H)) => calls_eq (K := K) (xs := [_]) e3
    obtain ⟨a4, n4, c4, htv⟩ := s3.isSl
    have hw4 : ∀ (K : H → Option (Value × H)), (al h3 24 [(.int .i64 0), (.slice none 0 0)] fun h10 => st Try.prog h10 24 (nx h3) 0 (.agg #[iv m, tv]) K) = K (h3.fresh 24 [(.int .i64 0), (.slice none 0 0)] [iv m, tv]) := fun K => al_st (xs := [iv m, tv]) sz24 rfl (by rw [htv]; rfl)
    have x4 := (Ext.refl h3).fresh 24 [(.int .i64 0), (.slice none 0 0)] [iv m, tv]
    have b4 := blk_fresh h3 24 [(.int .i64 0), (.slice none 0 0)] [iv m, tv]
    have s4 := s3.ext x4
    generalize h3.fresh 24 [(.int .i64 0), (.slice none 0 0)] [iv m, tv] = h4 at *
    have c5 := fun (K : Value → H → Option (Value × H)) => calls_eq (K := K) (xs := [_]) (s34 m h4)
    have c6 := fun (K : Value → H → Option (Value × H)) => calls_eq (K := K) (xs := [_]) (s35 (n := m) s4)
    have c7 := fun (K : Value → H → Option (Value × H)) => calls_eq (K := K) (xs := [_]) (s36 (n := m) s4 hv)
    rw [Int.toNat_natCast, hal] at c7
    rw [hv] at c6
    refine ⟨_, t5 (k := 0) (v := .bool true) (h1 := h4) ?_⟩
    unfold f5
    rw [c1, ext20, ext21, asI_int, al_eq, w31, nx_eq, hw, Option.bind_some, c2, ext20, asI_int, ext21, asI_int]
    rw [lt_f (by omega), ifB_false, lt_f (by omega), ifB_false, d31, rd_all (n := 2) b2 rfl, Option.bind_some, c3, hw4]
    simp [c5, c6, c7, rd_all (n := 2) b4 rfl, cell_of b4, s4.len, hne, d24, d22, d3]

end Go.AM

end

section

/- The log backward, as the program makes it. -/
namespace Go.AM
open Go.Proofs
variable {k : Nat} {R : Type}
theorem s117_nil (h : H) : rn 117 #[.slice none 0 0, iv 0, iv 0, cmpV] h = some (undef, h) := by
  refine x117 (k := 2) ?_ rfl
  unfold f117
  refine lp_eq (ws' := [iv 1]) (lpGo_exit (m := 1) (i := 0) ?_)
  unfold f117_l1
  rw [show add .i64 (0 : Int) 1 = 1 from rfl, show AM.gv [iv (1 : Int)] 0 = iv (1 : Int) from rfl, asI_int, lt_f (by omega), ifB_false]
  rfl

theorem s108_nil (h : H) : rn 108 #[.slice none 0 0, cmpV] h = some (undef, h) := by
  have e : rn 114 #[.slice none 0 0, iv 0, cmpV] h = some (undef, h) := by
    refine x114 (k := 2) ?_ rfl
    unfold f114
    have x1 : lpGo (f114_l1 rn 2 (.slice none 0 0) 0 cmpV) 2 [iv 0, iv 20] h = some (.exit 0, [iv 0, iv 20], h) := by
      refine lpGo_exit (m := 1) ?_
      unfold f114_l1
      rw [show AM.gv [iv (0 : Int), iv 20] 1 = iv 20 from rfl, asI_int, show AM.le (20 : Int) 0 = false from rfl, ifB_false]
      rfl
    have x2 : lpGo (f114_l2 rn 2 (.slice none 0 0) 0 cmpV) 2 [iv 20] h = some (.exit 2, [iv 20], h) := by
      refine lpGo_exit (m := 1) ?_
      unfold f114_l2
      rw [show AM.gv [iv (20 : Int)] 0 = iv 20 from rfl, asI_int, lt_f (by omega), ifB_false]
      rfl
    rw [lp_eq x1, onE_exit, if_pos rfl, show AM.gv [iv (0 : Int), iv 20] 0 = iv 0 from rfl, calls_eq (xs := [_, _, _, _]) (s117_nil h), lp_eq x2, onE_exit, if_pos rfl]
  refine x108 (k := 0) ?_ rfl
  unfold f108
  rw [len_slice]
  rw [show ((0 : Nat) : Int) = 0 from rfl, calls_eq (xs := [_, _, _]) e]

theorem AqR.ka {lo : Nat} {h : H} {v : Value} {L : List Kl} (a : AqR lo h 56 3 v (L.map Kl.cells)) : (v = .slice none 0 0 ∧ L = []) ∨ ∃ b, lo ≤ b ∧ AM.blkOf v = some b ∧ KA h b v L := by
  generalize hM : L.map Kl.cells = M at a
  cases a with
  | nil => exact .inl ⟨rfl, by simpa using hM⟩
  | @at_ b c M hlo hb hr hx hm hc =>
    subst hM
    rw [List.length_map] at *
    have h30 : (2:Nat)^30 < U := by decide
    have hk : capK c = L.length := by
      rcases hc with rfl | rfl
      · exact capK_U _
      · unfold capK; rw [if_pos (by omega)]
    exact .inr ⟨b, hlo, rfl, ⟨_, rfl, by omega, by omega⟩, hb, hr⟩

attribute [local simp] nx_eq nx_new nx_set blk_new blk_set asI_int asK_int asB_bool asP_ptr al_eq bx_eq len_slice onE_exit onE_ret onR_ret Value.cells d3 d29 d31 d56 d24 d59 d22 cell_new cell_set rd_new rd_set off eq lt le ifB gv out eqF1 eqF2 eqF3 eqF4 eqF5 eqF6 eqF7 eqF8 kbld31 kbld56 kbld24 kbld59
theorem s94 {n : Int} {sl : Value} {l : List Kl} {h : H} (hs : SlR h 56 3 sl (l.map Kl.cells)) (v : VP n l) :
    ∃ sl' h', rn 94 #[.agg #[iv n, sl]] h = some (.agg #[iv n, sl'], h') ∧ Ext h h' ∧ (∀ g, h'.nx ≤ g.nx → (∀ b, h.nx ≤ b → b < h'.nx → g.blk b = h'.blk b) → SlR g 56 3 sl' ((turnP l).map Kl.cells)) ∧ ∃ x m c, sl' = .slice x m c := by
  have hlen := hs.lt62
  rw [List.length_map] at hlen
  have hl24 := v.len
  -- the heap ahead of the loop
  let h1 := h.new (.row [iv n, sl] 31 true)
  let h2 := h1.new (.row [.int .i64 0, .slice none 0 0] 31 true)
  let h4 := h2.fresh 31 [.int .i64 0, .slice none 0 0] [.int .i64 n, .slice none 0 0]
  have n1 : h1.nx = h.nx + 1 := rfl
  have n2 : h2.nx = h.nx + 2 := rfl
  have n4 : h4.nx = h.nx + 3 := rfl
  have x4 : Ext h h4 := (((Ext.refl h).new' _).new' _).fresh _ _ _
  have b0 : h4.blk h.nx = some (.row [iv n, sl] 31 true) := by simp [h4, h2, h1, H.fresh]
  have b1 : h4.blk (h.nx + 1) = some (.row [.int .i64 0, .slice none 0 0] 31 true) := by simp [h4, h2, h1, H.fresh]
  have b2 : h4.blk (h.nx + 2) = some (.row [.int .i64 n, .slice none 0 0] 31 true) := by simp [h4, h2, h1, H.fresh]
  obtain ⟨ws', h', hl, hx, hgn, hg1, sv, hg2, hap, rfl⟩ := lp_for (F := f94_l1 rn (l.length + 1) h2 sl l.length) (k := l.length + 1) (l := l) (fun _ _ (_ : Unit) => ())
    (fun i _ ws g => Ext h g ∧ h.nx + 3 ≤ g.nx ∧ g.blk (h.nx + 1) = some (.row [.int .i64 0, .slice none 0 0] 31 true) ∧
      ∃ sv, g.blk (h.nx + 2) = some (.row [iv n, sv] 31 true) ∧ AqR h.nx g 56 3 sv (((l.take i).map turnK).map Kl.cells) ∧ ws = [iv i]) 0 (ws := [iv 0]) (h := h4) (s0 := ())
    ⟨x4, by omega, b1, _, b2, .nil, rfl⟩ (by omega)
    (by
      rintro _ ws g ⟨hx, hgn, hg1, sv, hg2, hap, rfl⟩
      simp [f94_l1])
    (by
      rintro i c _ ws g hc ⟨hx, hgn, hg1, sv, hg2, hap, rfl⟩
      have hi := (List.getElem?_eq_some_iff.1 hc).1
      have hct := ok_t (v.ok c (List.mem_of_getElem? hc))
      have y7 := (Ext.refl g).fresh 56 [iv 0, iv 0, iv 0] c.cells
      have hcb := blk_fresh g 56 [iv 0, iv 0, iv 0] c.cells
      have n7 : (g.fresh 56 [iv 0, iv 0, iv 0] c.cells).nx = g.nx + 1 := rfl
      unfold f94_l1
      rw [show gv [iv i] 0 = iv i from rfl, asI_int, lt_t (by omega), ifB_true, asK_int, (hs.ext hx).ldA ag56 sz56 (by omega) (x := c.cells) (by simp [hc])]
      rw [al_st (zs := [iv 0, iv 0, iv 0]) (xs := c.cells) sz56 rfl rfl]
      generalize g.fresh 56 [iv 0, iv 0, iv 0] c.cells = h7 at *
      have g1 := (y7.blk (h.nx + 1) (by omega)).trans hg1
      have g2 := (y7.blk (h.nx + 2) (by omega)).trans hg2
      have a7 := hap.ext y7
      simp only [Kl.cells] at hcb
      obtain ⟨v', h9, e9, a9, n9, k9, b9, hb9, hb9'⟩ := a7.push app29 app29 (bls29 (turnK c)) rfl rfl (by simp; omega) (by omega)
      have kb : ∀ b, b < h7.nx → h7.blk b ≠ some (.row (((l.take i).map turnK).map Kl.cells).flatten 56 true) → h9.blk b = h7.blk b := fun b hb hne => k9 b hb fun e => hne (a7.blkOf e).2.2
      have g1' := kb (h.nx + 1) (by omega) (by rw [g1]; simp)
      have g2' := kb (h.nx + 2) (by omega) (by rw [g2]; simp)
      rw [g1] at g1'
      rw [g2] at g2'
      have x9 : Ext h h9 := ⟨by have := hx.nx; omega, fun b hb => by
        rw [k9 b (by have := hx.nx; omega) (fun e => by have := (a7.blkOf e).1; omega)]
        exact (hx.trans y7).blk b hb⟩
      have hst : wrc 1 h9 (h.nx + 2) 1 v' = some (h9.set (h.nx + 2) (.row [iv n, v'] 31 true)) := by rw [wrc_one g2' a9.cells.1 a9.cells.2 (by simp)]; rfl
      refine ⟨[iv ((i : Int) + 1)], h9.set (h.nx + 2) (.row [iv n, v'] 31 true), ?_, x9.set (by omega) _, by rw [nx_set]; omega, ?_, v', blk_set_self _ _ _, ?_, rfl⟩
      · have hsb : AM.sub .i64 31 c.t = 31 - c.t := sub64 (by omega) (by omega)
        simp only [turnK] at e9
        simp [cell_of hcb, n2, cell_of g2, hsb, e9, w29, hst]
        rw [add64 (by omega) (by omega)]
      · rw [blk_set_ne _ _ _ (by omega)]; exact g1'
      · have : ((l.take (i + 1)).map turnK).map Kl.cells = ((l.take i).map turnK).map Kl.cells ++ [(turnK c).cells] := by
          rw [List.take_add_one, hc]
          simp
        rw [this]
        refine a9.keep (by rw [nx_set]; omega) fun b hb => blk_set_ne _ _ _ ?_
        rw [hb9] at hb; cases hb; omega)
  rw [List.take_length] at hap
  -- it is sorted
  have srt : ∃ h12, rn 108 #[sv, cmpV] h' = some (undef, h12) ∧ Ext h h12 ∧ h.nx + 3 ≤ h12.nx ∧ h12.blk (h.nx + 1) = some (.row [.int .i64 0, .slice none 0 0] 31 true) ∧ h12.blk (h.nx + 2) = some (.row [iv n, sv] 31 true) ∧
      ∀ g, h12.nx ≤ g.nx → (∀ b, h.nx ≤ b → b ≠ h.nx + 1 → b < h12.nx → g.blk b = h12.blk b) → SlR g 56 3 sv ((turnP l).map Kl.cells) := by
    rcases hap.ka with ⟨hv0, hl0⟩ | ⟨b, hlo, hb, ka⟩
    · obtain rfl : l = [] := by simpa using hl0
      subst hv0
      exact ⟨h', s108_nil h', hx, hgn, hg1, hg2, fun _ _ _ => .nil⟩
    · skip
      obtain ⟨h12, S, e, f, k12, p, s⟩ := s108 ka (fun x hx => by have := v.tOk x hx; omega) (by simp; omega)
      have hS : fsts S = turnP l := sorted_bkt v.tOk p s
      rw [hS] at k12
      have nb1 : h.nx + 1 ≠ b := fun e => by rw [← e, ] at ka; have := ka.row; rw [hg1] at this; simp at this
      have nb2 : h.nx + 2 ≠ b := fun e => by rw [← e, ] at ka; have := ka.row; rw [hg2] at this; simp at this
      refine ⟨h12, e, ⟨Nat.le_trans hx.nx f.nx, fun q hq => (f.blk q (by have := hx.nx; omega) (by omega)).trans (hx.blk q hq)⟩, Nat.le_trans hgn f.nx, (f.blk _ (by omega) nb1).trans hg1, (f.blk _ (by omega) nb2).trans hg2, fun g hn hb' => ?_⟩
      exact (k12.keep (h' := g) hn (hb' b hlo (fun e => nb1 e.symm) k12.lt)).slR
  obtain ⟨h12, e12, x12, n12, c1, c2, hsr⟩ := srt
  have hfin : f94 rn (l.length + 1) (.agg #[iv n, sl]) h = some (.agg #[iv n, sv], h12.set (h.nx + 1) (.row [iv n, sv] 31 true)) := by
    have hst : wrc 2 h12 (h.nx + 1) 0 (.agg #[iv n, sv]) = some (h12.set (h.nx + 1) (.row [iv n, sv] 31 true)) := wrc31 c1 hap.cells.2
    have ks := fun (K : Value → H → Option (Value × H)) => calls_eq (K := K) (xs := [sv, cmpV]) e12
    unfold f94
    rw [bx_eq, al_eq]
    rw [show nx (h.new (.row (Value.agg #[iv n, sl]).cells.toList 31 true)) = h.nx + 1 from rfl, d3]
    rw [show ((h.new (.row (Value.agg #[iv n, sl]).cells.toList 31 true)).new (.row [.int .i64 0, .slice none 0 0] 31 true)).cell (nx h) 0 = some (iv n) by simp]
    rw [Option.bind_some, asI_int, kbld31, al_st (zs := [.int .i64 0, .slice none 0 0]) (xs := [.int .i64 n, .slice none 0 0]) sz31 rfl rfl]
    rw [show (H.fresh ((h.new (.row (Value.agg #[iv n, sl]).cells.toList 31 true)).new (.row [.int .i64 0, .slice none 0 0] 31 true)) 31 [.int .i64 0, .slice none 0 0] [.int .i64 n, .slice none 0 0]) = h4 from rfl,
      show ((h.new (.row (Value.agg #[iv n, sl]).cells.toList 31 true)).new (.row [.int .i64 0, .slice none 0 0] 31 true)) = h2 from rfl, d29, nx_eq, cell_of b0]
    rw [show [iv n, sl][off 0 1]? = some sl from rfl, Option.bind_some, hs.len, List.length_map, lp_eq hl]
    rw [show (.func (.func 109) #[] #[] : Value) = cmpV from rfl]
    simp only [onE_exit, if_true, d29, nx_eq, n2, cell_of hg2, off, List.getElem?_cons_succ, List.getElem?_cons_zero, Option.bind_some, ks]
    simp [n2, rd_of c2, w31, hst]
  refine ⟨sv, _, x94 hfin (by obtain ⟨x, y, z, hz⟩ := hap.isSl; rw [hz]; rfl), x12.set (by omega) _, fun g hn hb => hsr g hn fun b q1 q2 q3 => (hb b q1 q3).trans (blk_set_ne _ _ _ q2), hap.isSl⟩

end Go.AM

end

section

/- Turn, on both sides; rows of calls that are the same. -/
namespace Go.AM
open Go.Proofs
variable {k : Nat} {R : Type}
attribute [local simp] nx_eq nx_new nx_set blk_new blk_set asI_int asK_int asB_bool asP_ptr al_eq bx_eq len_slice onE_exit onE_ret onR_ret Value.cells d3 d29 d31 d56 d24 d59 d22 cell_new cell_set rd_new rd_set off eq lt le ifB gv out eqF1 eqF2 eqF3 eqF4 eqF5 eqF6 eqF7 eqF8 kbld31 kbld56 kbld24 kbld59
theorem keqv59 (a b c a' b' c' : Int) (K : Bool → Option R) : eqv Try.prog 59 (.agg #[.int .i64 a, .int .i64 b, .int .i64 c]) (.agg #[.int .i64 a', .int .i64 b', .int .i64 c']) K = K (a == a' && b == b' && c == c') := by
  have : binOp Try.prog .eql 59 (.agg #[iv a, iv b, iv c]) (.agg #[iv a', iv b', iv c']) = (if (a == a') = true then (if (b == b') = true then (if (c == c') = true then some true else some false) else some false) else some false).map Value.bool := by kernel_rfl
  unfold eqv
  rw [this]
  cases h1 : (a == a') <;> cases h2 : (b == b') <;> cases h3 : (c == c') <;> simp

theorem s57_bad {n : Int} {sl : Value} {l : List Kl} {h : H} (hs : SlR h 56 3 sl (l.map Kl.cells)) (hv : validP n l = false) : ∃ h', rn 57 #[.agg #[iv n, sl]] h = some (.tuple #[.agg #[iv 0, .slice none 0 0], iv 2], h') ∧ Ext h h' := by
  have x1 : Ext h (h.new (.row [iv n, sl] 31 true)) := .new _ _
  have x2 := Ext.new (h.new (.row [iv n, sl] 31 true)) (.row [.int .i64 0, .slice none 0 0] 31 true)
  have hw := wrc31 (n := 0) (sv := .slice none 0 0) (blk_new_self (h.new (.row [iv n, sl] 31 true)) (.row [.int .i64 0, .slice none 0 0] 31 true)) rfl
  rw [nx_new] at hw
  have c1 := fun (K : Value → H → Option (Value × H)) => calls_eq (K := K) (xs := [_]) (s71 (n := n) (hs.ext (x1.trans x2)))
  refine ⟨_, x57 (k := 0) (h1 := ((h.new (.row [iv n, sl] 31 true)).new (.row [.int .i64 0, .slice none 0 0] 31 true)).set (h.nx + 1) (.row [iv 0, .slice none 0 0] 31 true)) ?_ rfl, ((Ext.refl h).new' _ |>.new' _).set (by omega) _⟩
  simp [f57, c1, hv, kbld31e, w31, hw]

theorem s57 {n : Int} {sl : Value} {l : List Kl} {h : H} (hs : SlR h 56 3 sl (l.map Kl.cells)) (v : VP n l) :
    ∃ sl' h', rn 57 #[.agg #[iv n, sl]] h = some (.tuple #[.agg #[iv n, sl'], iv 0], h') ∧ Ext h h' ∧ SlR h' 56 3 sl' ((turnP l).map Kl.cells) ∧ ∃ x m c, sl' = .slice x m c := by
  have x1 : Ext h (h.new (.row [iv n, sl] 31 true)) := .new _ _
  have x2 := Ext.new (h.new (.row [iv n, sl] 31 true)) (.row [.int .i64 0, .slice none 0 0] 31 true)
  have x12 := x1.trans x2
  have b1 : ((h.new (.row [iv n, sl] 31 true)).new (.row [.int .i64 0, .slice none 0 0] 31 true)).blk h.nx = some (.row [iv n, sl] 31 true) := (x2.blk _ (Nat.lt_succ_self _)).trans (blk_new_self _ _)
  have b2 : ((h.new (.row [iv n, sl] 31 true)).new (.row [.int .i64 0, .slice none 0 0] 31 true)).blk (h.nx + 1) = some (.row [.int .i64 0, .slice none 0 0] 31 true) := blk_new_self _ _
  have n2 : ((h.new (.row [iv n, sl] 31 true)).new (.row [.int .i64 0, .slice none 0 0] 31 true)).nx = h.nx + 2 := rfl
  have c1 := fun (K : Value → H → Option (Value × H)) => calls_eq (K := K) (xs := [_]) (s71 (n := n) (hs.ext x12))
  obtain ⟨sv, h', e, x, hr, p, m, c, rfl⟩ := s94 (n := n) (hs.ext x12) v
  have c2 := fun (K : Value → H → Option (Value × H)) => calls_eq (K := K) (xs := [_]) e
  have hv := vp_iff.2 v
  have b2' := (x.blk (h.nx + 1) (by omega)).trans b2
  have hw := wrc31 (n := n) b2' (sv := .slice p m c) rfl
  generalize hg : (h.new (.row [iv n, sl] 31 true)).new (.row [.int .i64 0, .slice none 0 0] 31 true) = g at *
  refine ⟨.slice p m c, h'.set (h.nx + 1) (.row [iv n, .slice p m c] 31 true), x57 (k := 0) ?_ rfl, (x12.trans x).set (by omega) _, hr _ (Nat.le_refl _) (fun b q1 q2 => blk_set_ne _ _ _ (by omega)), _, _, _, rfl⟩
  unfold f57
  rw [bx_eq, al_eq]
  simp only [nx_eq, nx_new, show (Value.agg #[iv n, sl]).cells.toList = [iv n, sl] from rfl]
  rw [hg]
  simp [rd_of b1, c1, hv, c2, w31, hw]

theorem s59 {v0 v1 : Value} {a b : List Kl} {h : H} (ha : SlR h 59 3 v0 (a.map Kl.cells)) (hb : SlR h 59 3 v1 (b.map Kl.cells)) : rn 59 #[v0, v1] h = some (.bool (decide (a = b)), h) := by
  have hl := ha.lt62
  rw [List.length_map] at hl
  have hn0 : ∀ {T : Type} (K : Int → Option T), len v0 K = K (a.length : Int) := fun K => by rw [ha.len]; simp
  have hn1 : ∀ {T : Type} (K : Int → Option T), len v1 K = K (b.length : Int) := fun K => by rw [hb.len]; simp
  refine p59 (k := a.length + 1) (h1 := h) ?_ rfl (.refl _)
  by_cases hlen : a.length = b.length
  · have hl := lp_same (F := f59_l1 rn (a.length + 1) v0 v1 a.length) (k := a.length + 1) (l := a) (h := h) (fun i (_ : Unit) => [.bool false, iv i])
      (fun i x s => if decide (b[i]? = some x) = true then .inl s else .inr i) (fun _ _ => True) (fun _ => .ret) (fun i => [.bool false, iv i]) 0 (fun _ => [.bool false, iv a.length]) (ws := [.bool false, iv 0]) (s0 := ()) rfl trivial (by omega) (by simp)
      (fun _ _ => by simp [f59_l1])
      (by
        intro i x _ hx _
        have hi := (List.getElem?_eq_some_iff.1 hx).1
        refine ⟨fun _ _ => trivial, ?_⟩
        obtain ⟨y, hbi⟩ : ∃ y, b[i]? = some y := ⟨_, List.getElem?_eq_getElem (by omega)⟩
        have g1 : ∀ (K : Value → Option (Ex × List Value × H)), (six v0 (i : Int) 3 fun b o => ld Try.prog h 59 b o K) = K (.agg #[iv x.a, iv x.b, iv x.t]) := fun K => ha.ldA ag59 sz59 (by omega) (x := x.cells) (by simp [hx]) K
        have g2 : ∀ (K : Value → Option (Ex × List Value × H)), (six v1 (i : Int) 3 fun b o => ld Try.prog h 59 b o K) = K (.agg #[iv y.a, iv y.b, iv y.t]) := fun K => hb.ldA ag59 sz59 (by omega) (x := y.cells) (by simp [hbi]) K
        have hxy : (x.a == y.a && x.b == y.b && x.t == y.t) = decide (b[i]? = some x) := by
          rw [hbi]
          cases x; cases y
          simp
          grind
        unfold f59_l1
        rw [show gv [.bool false, iv i] 1 = iv i from rfl, asI_int, lt_t (by omega), ifB_true, asK_int, g1, asK_int, g2, keqv59, hxy]
        have hadd : add .i64 (i : Int) 1 = (i : Int) + 1 := add64 (by omega) (by omega)
        by_cases hq : b[i]? = some x
        · simp [hq, rnd, hadd]
        · simp [hq, rnd])
    have hiff : a = b ↔ ∀ (j : Nat) (x : Kl), a[j]? = some x → b[j]? = some x := by
      constructor
      · rintro rfl j x h; exact h
      · intro hh
        apply List.ext_getElem hlen
        intro j h1 h2
        have := hh j a[j] (List.getElem?_eq_getElem h1)
        rw [List.getElem?_eq_getElem h2] at this
        exact (Option.some.inj this).symm
    unfold f59
    simp only [hn0, hn1]
    rw [eq_t (by omega)]
    simp
    rcases itL_all (ok := fun i x => decide (b[i]? = some x)) (g := fun i _ => i) (s0 := ()) a 0 with ⟨⟨r, h1⟩, j, x, hx, h2⟩ | ⟨h1, h2⟩
    · rw [h1] at hl
      rw [lp_eq hl]
      simp
      rw [hiff]
      intro hh
      have := hh j x hx
      simp [this] at h2
    · rw [h1] at hl
      rw [lp_eq hl.1]
      simp
      rw [hiff]
      intro j x hx
      simpa using h2 j x hx
  · unfold f59
    simp only [hn0, hn1]
    rw [eq_f (by omega)]
    simp
    intro hab
    exact hlen (by rw [hab])

theorem fil_step {L : List Kl} {i : Nat} {c : Kl} (hc : L[i]? = some c) (p : Kl → Bool) : (L.take (i + 1)).filter p = (L.take i).filter p ++ (if p c = true then [c] else []) := by
  rw [List.take_add_one, hc, List.filter_append]
  congr 1
  simp [List.filter_cons]

set_option maxHeartbeats 1000000 in
theorem s58 {n : Int} {sl : Value} {l : List Kl} {h : H} (hs : SlR h 59 3 sl (l.map Kl.cells)) (v : VP n l) :
    ∃ sl' h', rn 58 #[.agg #[iv n, sl]] h = some (.agg #[iv n, sl'], h') ∧ Ext h h' ∧ SlR h' 59 3 sl' ((turnP l).map Kl.cells) ∧ ∃ x m c, sl' = .slice x m c := by
  have hlen := hs.lt62
  rw [List.length_map] at hlen
  have hl24 := v.len
  let h1 := h.new (.row [iv n, sl] 24 true)
  let h2 := h1.new (.row [.int .i64 0, .slice none 0 0] 24 true)
  let h4 := h2.fresh 24 [.int .i64 0, .slice none 0 0] [.int .i64 n, .slice none 0 0]
  have n1 : h1.nx = h.nx + 1 := rfl
  have n2 : h2.nx = h.nx + 2 := rfl
  have n4 : h4.nx = h.nx + 3 := rfl
  have x4 : Ext h h4 := (((Ext.refl h).new' _).new' _).fresh _ _ _
  have b0 : h4.blk h.nx = some (.row [iv n, sl] 24 true) := by simp [h4, h2, h1, H.fresh]
  have b1 : h4.blk (h.nx + 1) = some (.row [.int .i64 0, .slice none 0 0] 24 true) := by simp [h4, h2, h1, H.fresh]
  have b2 : h4.blk (h.nx + 2) = some (.row [.int .i64 n, .slice none 0 0] 24 true) := by simp [h4, h2, h1, H.fresh]
  let G : Nat → List Kl := fun x => (l.map turnK).filter fun y => decide (y.t = ((x + 1 : Nat) : Int))
  have hG : ∀ x, ((List.range x).flatMap G).length ≤ 24 := fun x => by
    have := (flat_perm (fun y : Kl => y.t) (l.map turnK) x).length_eq
    have h2 := List.length_filter_le (fun y : Kl => decide (1 ≤ y.t ∧ y.t ≤ (x : Int))) (l.map turnK)
    rw [List.length_map] at h2
    show ((List.range x).flatMap fun (x : Nat) => (l.map turnK).filter fun y => decide (y.t = ((x + 1 : Nat) : Int))).length ≤ 24
    omega
  obtain ⟨e, ws', h', hlp, rfl, hx, hgn, hg0, hg1, sv, hg2, hap⟩ := lp_range (F := f58_l1 rn 40 h h2) (k := 40) (n := 30)
    (fun x ws g => ws = [iv ((x + 1 : Nat) : Int)] ∧ Ext h g ∧ h.nx + 3 ≤ g.nx ∧ g.blk h.nx = some (.row [iv n, sl] 24 true) ∧ g.blk (h.nx + 1) = some (.row [.int .i64 0, .slice none 0 0] 24 true) ∧
      ∃ sv, g.blk (h.nx + 2) = some (.row [iv n, sv] 24 true) ∧ AqR h.nx g 59 3 sv (((List.range x).flatMap G).map Kl.cells))
    (fun e ws g => e = .exit 0 ∧ Ext h g ∧ h.nx + 3 ≤ g.nx ∧ g.blk h.nx = some (.row [iv n, sl] 24 true) ∧ g.blk (h.nx + 1) = some (.row [.int .i64 0, .slice none 0 0] 24 true) ∧
      ∃ sv, g.blk (h.nx + 2) = some (.row [iv n, sv] 24 true) ∧ AqR h.nx g 59 3 sv (((List.range 30).flatMap G).map Kl.cells))
    (by
      rintro x ws g hx30 ⟨rfl, hx, hgn, hg0, hg1, sv, hg2, hap⟩
      obtain ⟨ws', h', hl, hx', hgn', hg0', hg1', sv', hg2', hap', hws'⟩ := lp_for (F := f58_l2 rn 40 h2 [iv ((x + 1 : Nat) : Int)] sl l.length) (k := 40) (l := l) (fun _ _ (_ : Unit) => ())
        (fun i _ ws g => Ext h g ∧ h.nx + 3 ≤ g.nx ∧ g.blk h.nx = some (.row [iv n, sl] 24 true) ∧ g.blk (h.nx + 1) = some (.row [.int .i64 0, .slice none 0 0] 24 true) ∧
          ∃ sv, g.blk (h.nx + 2) = some (.row [iv n, sv] 24 true) ∧ AqR h.nx g 59 3 sv (((List.range x).flatMap G ++ ((l.map turnK).take i).filter fun y => decide (y.t = ((x + 1 : Nat) : Int))).map Kl.cells) ∧ ws = [iv i]) 2 (ws := [iv 0]) (h := g) (s0 := ())
        ⟨hx, hgn, hg0, hg1, sv, hg2, by simpa using hap, rfl⟩ (by omega)
        (by
          rintro _ ws g ⟨hx, hgn, hg0, hg1, sv, hg2, hap, rfl⟩
          simp [f58_l2])
        (by
          rintro i c _ ws g hc ⟨hx, hgn, hg0, hg1, sv, hg2, hap, rfl⟩
          have hi := (List.getElem?_eq_some_iff.1 hc).1
          have hct := ok_t (v.ok c (List.mem_of_getElem? hc))
          have y7 := (Ext.refl g).fresh 59 [iv 0, iv 0, iv 0] c.cells
          have hcb := blk_fresh g 59 [iv 0, iv 0, iv 0] c.cells
          have n7 : (g.fresh 59 [iv 0, iv 0, iv 0] c.cells).nx = g.nx + 1 := rfl
          have hc' : (l.map turnK)[i]? = some (turnK c) := by rw [List.getElem?_map, hc]; rfl
          have hfs := fil_step hc' fun y => decide (y.t = ((x + 1 : Nat) : Int))
          have hsb : AM.sub .i64 31 c.t = 31 - c.t := sub64 (by omega) (by omega)
          unfold f58_l2
          rw [show gv [iv i] 0 = iv i from rfl, asI_int, lt_t (by omega), ifB_true, asK_int, (hs.ext hx).ldA ag59 sz59 (by omega) (x := c.cells) (by simp [hc])]
          rw [al_st (zs := [iv 0, iv 0, iv 0]) (xs := c.cells) sz59 rfl rfl]
          generalize g.fresh 59 [iv 0, iv 0, iv 0] c.cells = h7 at *
          have g0 := (y7.blk h.nx (by omega)).trans hg0
          have g1 := (y7.blk (h.nx + 1) (by omega)).trans hg1
          have g2 := (y7.blk (h.nx + 2) (by omega)).trans hg2
          have a7 := hap.ext y7
          simp only [Kl.cells] at hcb
          by_cases hcx : 31 - c.t = ((x + 1 : Nat) : Int)
          · rw [if_pos (by exact decide_eq_true hcx)] at hfs
            obtain ⟨v', h9, e9, a9, n9, k9, b9, hb9, hb9'⟩ := a7.push app22 app22 (bls22 (turnK c)) rfl rfl (by
              rw [List.length_map, List.length_append]
              have h1 := hG x
              have h2 := List.length_filter_le (fun y : Kl => decide (y.t = ((x + 1 : Nat) : Int))) ((l.map turnK).take i)
              rw [List.length_take, List.length_map] at h2
              omega) (by omega)
            have kb : ∀ b r, b < h7.nx → h7.blk b = some (.row r 24 true) → h9.blk b = h7.blk b := fun b r hb hr => k9 b hb fun e => by
              have := (a7.blkOf e).2.2
              rw [hr] at this
              simp at this
            have g0' := (kb h.nx _ (by omega) g0).trans g0
            have g1' := (kb (h.nx + 1) _ (by omega) g1).trans g1
            have g2' := (kb (h.nx + 2) _ (by omega) g2).trans g2
            have x9 : Ext h h9 := ⟨by have := hx.nx; omega, fun b hb => by
              rw [k9 b (by have := hx.nx; omega) (fun e => by have := (a7.blkOf e).1; omega)]
              exact (hx.trans y7).blk b hb⟩
            have hst : wrc 1 h9 (h.nx + 2) 1 v' = some (h9.set (h.nx + 2) (.row [iv n, v'] 24 true)) := by rw [wrc_one g2' a9.cells.1 a9.cells.2 (by simp)]; rfl
            refine ⟨[iv ((i : Int) + 1)], h9.set (h.nx + 2) (.row [iv n, v'] 24 true), ?_, x9.set (by omega) _, by rw [nx_set]; omega, ?_, ?_, v', blk_set_self _ _ _, ?_, rfl⟩
            · simp only [turnK, hcx] at e9
              have hadd : add .i64 (i : Int) 1 = (i : Int) + 1 := add64 (by omega) (by omega)
              simp only [d3, cell_of hcb, off, List.getElem?_cons_succ, List.getElem?_cons_zero, Option.bind_some, asI_int, nx_eq, n2, d22, cell_of g2, show gv [iv ((x + 1 : Nat) : Int)] 0 = iv ((x + 1 : Nat) : Int) from rfl, hsb, eq_t hcx, ifB_true, kbld59, e9, w22, hst, hadd]
              rfl
            · rw [blk_set_ne _ _ _ (by omega)]; exact g0'
            · rw [blk_set_ne _ _ _ (by omega)]; exact g1'
            · rw [hfs, ← List.append_assoc, List.map_append]
              refine AqR.keep (h := h9) (by simpa using a9) (by rw [nx_set]; omega) fun b hb => blk_set_ne _ _ _ ?_
              rw [hb9] at hb; cases hb; omega
          · rw [if_neg (by exact fun e => hcx (of_decide_eq_true e)), List.append_nil] at hfs
            refine ⟨[iv ((i : Int) + 1)], h7, ?_, hx.trans y7, by omega, g0, g1, sv, g2, by rw [hfs]; exact a7, rfl⟩
            have hadd : add .i64 (i : Int) 1 = (i : Int) + 1 := add64 (by omega) (by omega)
            simp only [d3, cell_of hcb, off, List.getElem?_cons_succ, List.getElem?_cons_zero, Option.bind_some, asI_int, nx_eq, n2, show gv [iv ((x + 1 : Nat) : Int)] 0 = iv ((x + 1 : Nat) : Int) from rfl, hsb, eq_f hcx, ifB_false, hadd]
            rfl)
      have hadd : add .i64 ((x + 1 : Nat) : Int) 1 = ((x + 1 + 1 : Nat) : Int) := by rw [add64 (by omega) (by omega)]; omega
      refine ⟨.normal, [iv ((x + 1 + 1 : Nat) : Int)], h', ?_, .inl ⟨rfl, rfl, hx', hgn', hg0', hg1', sv', hg2', ?_⟩⟩
      · unfold f58_l1
        rw [show gv [iv ((x + 1 : Nat) : Int)] 0 = iv ((x + 1 : Nat) : Int) from rfl, asI_int, show le ((x + 1 : Nat) : Int) 30 = true by simp [le]; omega, ifB_true, d22, nx_eq, cell_of hg0]
        rw [show [iv n, sl][off 0 1]? = some sl from rfl, Option.bind_some, hs.len, List.length_map, lp_eq hl]
        simp only [onE_exit, if_true, asI_int, hadd]
        rfl
      · rw [List.range_succ, List.flatMap_append]
        have : (l.map turnK).take l.length = l.map turnK := List.take_of_length_le (by simp)
        rw [this] at hap'
        simpa [G] using hap')
    (by
      rintro ws g ⟨rfl, hx, hgn, hg0, hg1, r⟩
      refine ⟨.exit 0, [iv ((30 + 1 : Nat) : Int)], g, ?_, by simp, rfl, hx, hgn, hg0, hg1, r⟩
      unfold f58_l1
      rw [show gv [iv ((30 + 1 : Nat) : Int)] 0 = iv 31 from rfl, asI_int, show le 31 30 = false from rfl, ifB_false]
      rfl)
    (ws := [iv 1]) (h := h4) (by omega) ⟨rfl, x4, by omega, b0, b1, _, b2, .nil⟩
  have hfin : f58 rn 40 (.agg #[iv n, sl]) h = some (.agg #[iv n, sv], h'.set (h.nx + 1) (.row [iv n, sv] 24 true)) := by
    have hst : wrc 2 h' (h.nx + 1) 0 (.agg #[iv n, sv]) = some (h'.set (h.nx + 1) (.row [iv n, sv] 24 true)) := by
      simp only [wrc, hg1]
      rw [if_pos ⟨rfl, by simp, by simp [Value.cells, hap.cells.2]; rfl⟩]
      rfl
    unfold f58
    rw [bx_eq, al_eq]
    rw [show nx (h.new (.row (Value.agg #[iv n, sl]).cells.toList 24 true)) = h.nx + 1 from rfl, d3]
    rw [show ((h.new (.row (Value.agg #[iv n, sl]).cells.toList 24 true)).new (.row [.int .i64 0, .slice none 0 0] 24 true)).cell (nx h) 0 = some (iv n) by simp]
    rw [Option.bind_some, asI_int, kbld24, al_st (zs := [.int .i64 0, .slice none 0 0]) (xs := [.int .i64 n, .slice none 0 0]) sz24 rfl rfl]
    rw [show (H.fresh ((h.new (.row (Value.agg #[iv n, sl]).cells.toList 24 true)).new (.row [.int .i64 0, .slice none 0 0] 24 true)) 24 [.int .i64 0, .slice none 0 0] [.int .i64 n, .slice none 0 0]) = h4 from rfl,
      show ((h.new (.row (Value.agg #[iv n, sl]).cells.toList 24 true)).new (.row [.int .i64 0, .slice none 0 0] 24 true)) = h2 from rfl, lp_eq hlp]
    simp [n2, rd_of hg2, w24, hst]
  refine ⟨sv, _, x58 hfin (by obtain ⟨x, y, z, hz⟩ := hap.isSl; rw [hz]; rfl), hx.set (by omega) _, ?_, hap.isSl⟩
  refine (hap.keep (by rw [nx_set]; omega) fun b hb => blk_set_ne _ _ _ ?_).slR
  intro e
  have := (hap.blkOf hb).2.2
  rw [e, hg1] at this
  simp at this

end Go.AM

end

section

/- CallsTurned, on the abstract machine. -/
namespace Go.AM
open Go.Proofs
variable {k : Nat} {R : Type}
theorem kfld24 (a v : Value) (K : Value → Option R) : fld Try.prog 24 (.agg #[a, v]) 1 K = K v := by
  have e : field Try.prog 24 (.agg #[a, v]) 1 = some v := by kernel_rfl
  unfold fld
  rw [e]
  rfl

theorem s11 {n : Int} {sl : Value} {l : List Kl} {h : H} (hs : SlR h 59 3 sl (l.map Kl.cells)) : ∃ h', rn 11 #[.agg #[iv n, sl]] h = some (.bool true, h') := by
  have x1 : Ext h (h.new (.row [iv n, sl] 24 true)) := .new _ _
  have b1 : (h.new (.row [iv n, sl] 24 true)).blk h.nx = some (.row [iv n, sl] 24 true) := blk_new_self _ _
  have n1 : h.nx < (h.new (.row [iv n, sl] 24 true)).nx := Nat.lt_succ_self _
  have start : ∃ h1, f11 rn 0 (.agg #[iv n, sl]) h = some (.bool true, h1) := by
    unfold f11
    rw [bx_eq, nx_eq, show (Value.agg #[iv n, sl]).cells.toList = [iv n, sl] from rfl]
    generalize h.new (.row [iv n, sl] 24 true) = h1 at *
    have ld1 : ∀ (g : H), Ext h1 g → ∀ (K : Value → Option (Value × H)), ld Try.prog g 24 h.nx 0 K = K (.agg #[iv n, sl]) := fun g x K => by
      rw [d24, rd_all (n := 2) ((x.blk _ n1).trans b1) rfl]; rfl
    obtain ⟨la, h2, e2, x2, s2⟩ := s18 (n := n) (hs.ext x1)
    rw [ld1 _ (.refl _), calls_eq (xs := [_]) e2]
    cases hv : validP n l with
    | false =>
      have hv' : validP n (l.take 26) = false := by rw [validP_take]; exact hv
      obtain ⟨h3, e3, x3⟩ := s57_bad s2 hv'
      rw [calls_eq (xs := [_]) e3, ext20, ext21, asI_int]
      have y5 : Ext h3 (h3.fresh 31 [.int .i64 0, .slice none 0 0] [iv 0, .slice none 0 0]) := (Ext.refl _).fresh _ _ _
      have b5 := blk_fresh h3 31 [.int .i64 0, .slice none 0 0] [iv 0, .slice none 0 0]
      rw [al_st (zs := [.int .i64 0, .slice none 0 0]) (xs := [iv 0, .slice none 0 0]) sz31 rfl rfl, nx_eq]
      generalize h3.fresh 31 [.int .i64 0, .slice none 0 0] [iv 0, .slice none 0 0] = h5 at *
      have x5 := (x2.trans x3).trans y5
      rw [ld1 _ x5, k35 (hs.ext (x1.trans x5)), asB_bool, hv, Bool.not_false, ifB_true, d31, rd_all (n := 2) b5 rfl]
      have c1 := fun (K : Value → H → Option (Value × H)) => calls_eq (K := K) (xs := [_]) (s32 (n := 0) (l := []) (.nil (h := h5)))
      exact ⟨h5, by simp [c1, k22, eq, asB_bool, ifB]⟩
    | true =>
      have v := vp_iff.1 hv
      have hl : l.take 26 = l := List.take_of_length_le (by have := v.len; omega)
      rw [hl] at s2
      obtain ⟨lb, h3, e3, x3, s3, p3, m3, c3, rfl⟩ := s57 s2 v
      rw [calls_eq (xs := [_]) e3, ext20, ext21, asI_int]
      have y5 : Ext h3 (h3.fresh 31 [.int .i64 0, .slice none 0 0] [iv n, .slice p3 m3 c3]) := (Ext.refl _).fresh _ _ _
      have b5 := blk_fresh h3 31 [.int .i64 0, .slice none 0 0] [iv n, .slice p3 m3 c3]
      have n5 : (h3.fresh 31 [.int .i64 0, .slice none 0 0] [iv n, .slice p3 m3 c3]).nx = h3.nx + 1 := rfl
      rw [al_st (zs := [.int .i64 0, .slice none 0 0]) (xs := [iv n, .slice p3 m3 c3]) sz31 rfl rfl, nx_eq]
      generalize h3.fresh 31 [.int .i64 0, .slice none 0 0] [iv n, .slice p3 m3 c3] = h5 at *
      have x5 := (x2.trans x3).trans y5
      rw [ld1 _ x5, k35 (hs.ext (x1.trans x5)), asB_bool, hv, Bool.not_true, ifB_false, ld1 _ x5]
      obtain ⟨lc, h9, e9, x9, s9, p9, m9, c9, rfl⟩ := s58 (hs.ext (x1.trans x5)) v
      rw [calls_eq (xs := [_]) e9]
      have y11 : Ext h9 (h9.fresh 24 [.int .i64 0, .slice none 0 0] [iv n, .slice p9 m9 c9]) := (Ext.refl _).fresh _ _ _
      have b11 := blk_fresh h9 24 [.int .i64 0, .slice none 0 0] [iv n, .slice p9 m9 c9]
      have n11 : (h9.fresh 24 [.int .i64 0, .slice none 0 0] [iv n, .slice p9 m9 c9]).nx = h9.nx + 1 := rfl
      rw [al_st (zs := [.int .i64 0, .slice none 0 0]) (xs := [iv n, .slice p9 m9 c9]) sz24 rfl rfl, nx_eq]
      generalize h9.fresh 24 [.int .i64 0, .slice none 0 0] [iv n, .slice p9 m9 c9] = h11 at *
      have b5' := ((x9.trans y11).blk h3.nx (by omega)).trans b5
      rw [d3, cell_of b5', List.getElem?_cons_zero, Option.bind_some, asI_int, d3, cell_of b11, List.getElem?_cons_zero, Option.bind_some, asI_int, eq_t rfl, ifB_true, d31, rd_all (n := 2) b5' rfl]
      have s3' := s3.ext ((y5.trans x9).trans y11)
      obtain ⟨ld_, h12, e12, x12, s12⟩ := s33 (n := n) s3' (by rw [turnP_len v]; have := v.len; omega)
      rw [Option.bind_some, show ([iv n, .slice p3 m3 c3] : List Value).toArray = #[iv n, .slice p3 m3 c3] from rfl, calls_eq (xs := [_]) e12, kfld24]
      have b11' := (x12.blk h9.nx (by omega)).trans b11
      rw [d22, cell_of b11', show ([iv n, .slice p9 m9 c9] : List Value)[off 0 1]? = some (.slice p9 m9 c9) from rfl, Option.bind_some, nx_eq, show freq h9.nx h11.nx (same h12 h11) = true by simp [freq, same, x12.wr]; omega, ck_true]
      have e59 := s59 s12 ((s9.ext y11).ext x12.toExt)
      rw [calls_eq (xs := [_, _]) e59, decide_eq_true (rfl : turnP l = turnP l), asB_bool, ifB_true, eq_t rfl, ifB_true, k22]
      exact ⟨_, by rw [asB_bool]⟩
  obtain ⟨h1, e⟩ := start
  exact ⟨_, t11 e⟩

end Go.AM

end

section

/- The logs that a statement is handed, in the abstract heap. -/
namespace Go.AM
open Go.Proofs Go.ChangeShapes
variable {HH : Type} {enc : TypeId × Value → HH} {w : World} {base : Nat} {held : Bool}
noncomputable def fields59 : Array Field := match Try.prog.underlying 59 with
  | some (.struct fs) => fs
  | _ => #[]

theorem under59 : Try.prog.underlying 59 = some (.struct fields59) := by kernel_rfl

theorem fields59_types : fields59.toList.map (fun f => (f.type, f.offset)) = [(3, 0), (3, 1), (3, 2)] := by kernel_rfl

theorem cellsOf3 : Try.prog.cellsOf 3 = 1 := by kernel_rfl

theorem cellsOf59 : Try.prog.cellsOf 59 = 3 := by kernel_rfl

theorem flat59 (n : Nat) (cs : List Value) (x : DataW HH × List MemPlace) (h : DataW.trod enc Try.prog w base (fun _ => true) held n 59 cs = some x) : ∃ c : Kl, cs = c.cells := by
  obtain ⟨a, b, t, e⟩ := trod_three under59 fields59_types (show Try.prog.underlying 3 = some (.int .i64) from by kernel_rfl) cellsOf3 cellsOf59 h
  exact ⟨⟨a, b, t⟩, e⟩

/-- Rows that are cells of calls are the cells of a list of calls. -/
theorem calls_of : ∀ (l : List (List Value)), (∀ x ∈ l, ∃ c : Kl, x = c.cells) → ∃ l' : List Kl, l = l'.map Kl.cells := by
  intro l
  induction l with
  | nil => intro _; exact ⟨[], rfl⟩
  | cons x l ih =>
    intro h
    obtain ⟨c, hc⟩ := h x (by simp)
    obtain ⟨l', hl⟩ := ih (fun y hy => h y (List.mem_cons_of_mem _ hy))
    exact ⟨c :: l', by rw [hc, hl]; rfl⟩

noncomputable def fields24 : Array Field := match Try.prog.underlying 24 with
  | some (.struct fs) => fs
  | _ => #[]

noncomputable def field24 (i : Nat) : Field := fields24[i]!

theorem under24s : Try.prog.underlying 24 = some (.struct fields24) := by kernel_rfl

theorem fields24_eq : fields24 = #[field24 0, field24 1] := by kernel_rfl

theorem field24_0 : ((field24 0).type, (field24 0).offset) = (3, 0) := by kernel_rfl

theorem field24_1 : ((field24 1).type, (field24 1).offset) = (22, 1) := by kernel_rfl

theorem under3 : Try.prog.underlying 3 = some (.int .i64) := by kernel_rfl

theorem under22L : Try.prog.underlying 22 = some (.slice 59) := by kernel_rfl

theorem cellsOf24 : Try.prog.cellsOf 24 = 2 := by kernel_rfl

theorem cellsOf22 : Try.prog.cellsOf 22 = 1 := by kernel_rfl

theorem bytes59 : Try.prog.bytesOf 59 = 24 := by kernel_rfl

theorem types24 : Try.prog.cellTypes Try.prog.depth 24 = some [3, 22] := by kernel_rfl

set_option maxRecDepth 100000 in
/-- A log that came in. -/
theorem open_log {rr : Reach} {b0 : Nat} {v : Value} {d : DataW HH} {ps : List MemPlace} (hv : Value.okWide Try.prog w rr b0 24 v) (hwt : ∀ x ∈ d.weights Try.prog 24, x ≤ reachBytes)
    (hd : DataW.Trod enc Try.prog w base (fun _ => true) held 24 v d ps) {ι : Nat → Emb} {h : H} (r : Rel Try.prog E0 ι h w) (hro : ∀ b k, h.blk b = some k → k.own = false) :
    ∃ (n : Int) (sl sl0 : Value) (ι' : Nat → Emb) (h' : H) (l : List Kl), v = .agg #[iv n, sl] ∧ (Lit.int .i64 n).wf = true ∧ Rel Try.prog E0 ι' h' w ∧ (∀ b k, h'.blk b = some k → k.own = false) ∧ Ext h h' ∧ (∀ b, b < h.nx → ι' b = ι b) ∧
      VR ι' h'.nx sl0 sl ∧ SlR h' 59 3 sl0 (l.map Kl.cells) := by
  obtain ⟨n, a, len, cap, d1, p1, rfl, hn, hw1, hhas, hd1⟩ := open_numslice under24s fields24_eq (Prod.mk.inj field24_0) (Prod.mk.inj field24_1) under3 under22L cellsOf24 cellsOf3 cellsOf22 types24 hv hwt hd
  obtain ⟨ι', h', v0, l, g1, g2, g3, g4, g5, g6, g7⟩ := open_flat r hro under22L sz59 cellsOf59 (by decide) (Q := fun x => ∃ c : Kl, x = c.cells) flat59 (by
    rintro cs ⟨c, rfl⟩
    exact ⟨rfl, fun v hv => by simp [Kl.cells] at hv; rcases hv with rfl | rfl | rfl <;> exact ⟨_, _, rfl⟩⟩) (by rw [bytes59]; exact Nat.succ_pos _) hw1 hhas hd1
  obtain ⟨l', rfl⟩ := calls_of l g7
  exact ⟨n, _, v0, ι', h', l', rfl, hn, g1, g2, g3, g4, g5, g6⟩

end Go.AM

end
