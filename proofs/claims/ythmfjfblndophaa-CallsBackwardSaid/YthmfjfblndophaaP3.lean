/- Parts of the proof, put together: what the functions of the program answer, and plain laws. -/
import Derived.Test.YthmfjfblndophaaAmRun
import Derived.Test.YthmfjfblndophaaP2

section

/- The ways, as the document tells them. -/
namespace Go.AM
open Go.Proofs
variable {R : Type}
attribute [local simp] nx_eq nx_new nx_set blk_new blk_set asI_int asK_int asB_bool asP_ptr al_eq bx_eq len_slice onE_exit onE_ret onR_ret Value.cells d3 d29 d31 d56 d24 d59 d22 d25 d121 d89 d61 w3 w25 w121 cell_new cell_set rd_new rd_set off eq lt le ifB gv out eqF1 eqF2 eqF3 eqF4 eqF5 eqF6 eqF7 eqF8 ext20 ext21 k42 k72 k73 k74
theorem and_one (x : Int) : AM.and .i64 x 1 = 0 ∨ AM.and .i64 x 1 = 1 := by
  unfold AM.and
  show IntKind.i64.wrap ((BitVec.ofInt 64 x &&& BitVec.ofInt 64 1).toNat : Nat) = 0 ∨ IntKind.i64.wrap ((BitVec.ofInt 64 x &&& BitVec.ofInt 64 1).toNat : Nat) = 1
  rw [BitVec.toNat_and, show (BitVec.ofInt 64 1).toNat = 1 from rfl, Nat.and_one_is_mod]
  have : (BitVec.ofInt 64 x).toNat % 2 = 0 ∨ (BitVec.ofInt 64 x).toNat % 2 = 1 := by omega
  rcases this with h | h <;> rw [h]
  · exact .inl rfl
  · exact .inr rfl

/-- A slice without room. -/
theorem full_push {g : H} {wv : Value} {w : List Int} {z : Int} (hw : SlR g 3 1 wv (cellsI w)) (hm : w.length < 1000) :
    ∃ v11 v13 h7, (∀ {R : Type} (K : Value → Option R), sli Try.prog g 25 wv none (some (.int .i64 w.length)) (some (.int .i64 w.length)) K = K v11) ∧
      (∀ {R : Type} (K : Value → H → Option R), app Try.prog (g.new (.row [iv z] 3 true)) 25 25 v11 (.slice (some ⟨g.nx, 0, none⟩) 1 1) K = K v13 h7) ∧ Ext g h7 ∧ h7.wr = g.wr ∧ h7.nx = g.nx + 2 ∧ SlR h7 3 1 v13 (cellsI (w ++ [z])) := by
  obtain ⟨i, z3, h1, h2, h3, h4, h5, h6, h7⟩ := okApp_spec app25
  have h30 : 2 ^ 30 < U := by decide
  have x1 := Ext.new g (.row [iv z] 3 true)
  have hsrc : srcCells 1 (.slice (some ⟨g.nx, 0, none⟩) 1 1) (g.new (.row [iv z] 3 true)) = some [iv z] := by
    simp only [srcCells, Nat.one_mul]
    rw [if_neg (by omega)]
    simp only [H.rd, blk_new_self]
    rfl
  have hlen : lenOf (.slice (some ⟨g.nx, 0, none⟩) 1 1) = some 1 := rfl
  have hold := (hw.ext x1).srcAll (by decide)
  generalize hL : cellsI w = L at hw
  cases hw with
  | nil =>
    have hw0 : w = [] := by simpa using hL
    subst hw0
    refine ⟨.slice none 0 0, .slice (some ⟨g.nx + 1, 0, none⟩) 1 (U + 1), (g.new (.row [iv z] 3 true)).new (.row [iv z] 3 true), fun K => ?_, fun K => ?_, x1.new' _, rfl, rfl, ?_⟩
    · unfold sli slice
      simp only [h1, sz3, Option.bind_some]
      rfl
    · unfold AM.app append
      simp only [h1, h2, h3, hlen, h4, hsrc, Option.bind_some]
      rw [if_pos ⟨h5, h6, h7⟩, if_neg (by omega), if_pos (by omega)]
      rfl
    · exact (AqR.at_ (lo := 0) (l := [[iv z]]) (c := U + 1) (Nat.zero_le _) (Nat.lt_succ_self _) (blk_new_self _ _) (by simp) (by simp) (.inl rfl)).slR
  | @at_ b o c cs own L hb hr hk hc hl hx =>
    subst hL
    have hwl : (cellsI w).length = w.length := by simp
    have hck : capK w.length = w.length := by unfold capK; rw [if_pos (by omega)]
    have hr1 := (x1.blk b hb).trans hr
    refine ⟨.slice (some ⟨b, o, none⟩) w.length w.length, .slice (some ⟨g.nx + 1, 0, none⟩) (w.length + 1) (U + (w.length + 1)), (g.new (.row [iv z] 3 true)).new (.row (w.map iv ++ [iv z]) 3 true), fun K => ?_, fun K => ?_, x1.new' _, rfl, rfl, ?_⟩
    · unfold sli slice
      simp only [h1, hr]
      rw [if_pos ⟨trivial, hc, rfl⟩]
      simp only [sz3, Option.bind_some, bound]
      rw [if_pos ⟨by omega, by omega⟩]
      simp only [Option.bind_some]
      rw [if_pos ⟨by omega, by omega⟩]
      simp
    · unfold AM.app append
      simp only [h1, h2, h3, hlen, h4, hsrc, Option.bind_some]
      rw [if_pos ⟨h5, h6, h7⟩, if_neg (by omega), hck, if_neg (by omega), if_pos (by omega), if_pos (by omega)]
      have hrd : (if w.length = 0 then some [] else (g.new (.row [iv z] 3 true)).rd b o (w.length * 1)) = some (w.map iv) := by
        split
        · rename_i h9
          rw [List.eq_nil_of_length_eq_zero h9]
          rfl
        · have := hold
          simp only [srcCells] at this
          rw [hwl, if_neg (by omega)] at this
          rw [this, flat1]
      rw [hrd]
      rfl
    · have := AqR.at_ (lo := 0) (h := (g.new (.row [iv z] 3 true)).new (.row (w.map iv ++ [iv z]) 3 true)) (e := 3) (s := 1) (b := g.nx + 1) (l := cellsI (w ++ [z])) (c := U + (w.length + 1)) (Nat.zero_le _) (Nat.lt_succ_self _) (by rw [flat1]; simp [blk_new]) (by intro x hx; simp only [List.mem_map] at hx; obtain ⟨z, _, rfl⟩ := hx; rfl) (by simp; omega) (.inl (by simp))
      have := this.slR
      simpa using this

theorem SsR.append {h : H} {vs us : List Value} {ls ms : List (List Int)} (a : SsR h vs ls) (b : SsR h us ms) : SsR h (vs ++ us) (ls ++ ms) := by
  refine ⟨by simp [a.1, b.1], fun j v l hv hl => ?_⟩
  by_cases hj : j < vs.length
  · rw [List.getElem?_append_left hj] at hv
    rw [List.getElem?_append_left (by rw [← a.1]; exact hj)] at hl
    exact a.2 j v l hv hl
  · rw [List.getElem?_append_right (by omega)] at hv
    rw [List.getElem?_append_right (by rw [← a.1]; omega), ← a.1] at hl
    exact b.2 _ v l hv hl

theorem SsR.scal {h : H} {vs : List Value} {ls : List (List Int)} (a : SsR h vs ls) : (cellsV vs).flatten.all AM.scal = true := by
  rw [List.all_eq_true]
  intro x hx
  have : x ∈ vs := by
    have : ∀ (l : List Value), x ∈ (cellsV l).flatten → x ∈ l := by
      intro l
      induction l with
      | nil => intro h; simp at h
      | cons y l ih =>
        intro h
        simp only [List.map_cons, List.flatten_cons, List.mem_append, List.mem_cons, List.not_mem_nil, or_false] at h ⊢
        rcases h with h | h
        · exact .inl h
        · exact .inr (ih h)
    exact this vs hx
  obtain ⟨j, hj, rfl⟩ := List.getElem_of_mem this
  obtain ⟨y, n, c, e⟩ := (a.2 j vs[j] (ls[j]'(by rw [← a.1]; exact hj)) (List.getElem?_eq_getElem hj) (List.getElem?_eq_getElem _)).isSl
  rw [e]
  rfl

/-- What the document's search answers. -/
def RefOk (n t : Int) (l : List Kl) (F : Nat) (tm : Int) : Prop :=
  ∀ (p seen : Int) (w : List Int) (sl wv : Value) (g : H), 0 ≤ p ∧ p < n → w.length + F < 100 → p ≠ t → SlR g 59 3 sl (l.map Kl.cells) → SlR g 3 1 wv (cellsI w) →
    ∃ v vs g', rn 111 #[.agg #[iv n, sl], iv p, iv t, iv seen, iv tm, wv] g = some (v, g') ∧ Ext g g' ∧ SlR g' 25 1 v (cellsV vs) ∧ SsR g' vs ((waysF l t F p tm seen).map (w ++ ·))

theorem bls58v (v : Value) (h : H) (hv : ∃ x n c, v = .slice x n c) : buildSlice Try.prog 58 1 [(0, v)] h = some (.slice (some ⟨h.nx, 0, none⟩) 1 1, h.new (.row [v] 25 true)) := by
  obtain ⟨x, n, c, rfl⟩ := hv
  kernel_rfl

theorem s111_end {n t : Int} {l : List Kl} {seen tm : Int} {w : List Int} {sl wv : Value} {g : H} (hw : SlR g 3 1 wv (cellsI w)) :
    ∃ v g', rn 111 #[.agg #[iv n, sl], iv t, iv t, iv seen, iv tm, wv] g = some (v, g') ∧ Ext g g' ∧ SlR g' 25 1 v (cellsV [wv]) ∧ SsR g' [wv] [w] := by
  have x1 : Ext g (g.new (.row [iv n, sl] 24 true)) := .new _ _
  have x2 := x1.new' (.row [wv] 25 true)
  have hb := bls58v wv (g.new (.row [iv n, sl] 24 true)) hw.isSl
  have hc := fun (K : Value → H → Option (Value × H)) => bls_some (K := K) hb
  refine ⟨.slice (some ⟨g.nx + 1, 0, none⟩) 1 1, (g.new (.row [iv n, sl] 24 true)).new (.row [wv] 25 true), x111 (k := 0) ?_ rfl, x2, ?_, ⟨rfl, fun j v m hv hm => ?_⟩⟩
  · simp [f111, hc]
  · exact (AqR.lit (lo := 0) (e := 25) (s := 1) (l := cellsV [wv]) (Nat.zero_le _) rfl (by simp) (by simp)).slR
  · cases j with
    | zero => simp at hv hm; subst hv; subst hm; exact hw.ext x2
    | succ j => simp at hv

theorem ways_few {n t : Int} {l : List Kl} (hv : validP n l = true) : ∀ (F : Nat) (p tm seen : Int) (k : Nat), k ≤ l.length → (∀ j c, l[j]? = some c → tm < c.t → k ≤ j) → (waysF l t F p tm seen).length ≤ 2 ^ (l.length - k) ∧
    ∀ (i : Nat) (c : Kl), l[i]? = some c → (wayStep (waysF l t F) t p tm seen i c).length ≤ 2 ^ (l.length - i - 1) := by
  intro F
  induction F with
  | zero =>
    intro p tm seen k hk hj
    refine ⟨by simp [waysF], fun i c hc => ?_⟩
    unfold wayStep
    split
    · split
      · exact Nat.one_le_two_pow
      · simp [waysF]
    · simp
  | succ F ih =>
    intro p tm seen k hk hj
    have step : ∀ (G : Nat), (∀ (p tm seen : Int) (k : Nat), k ≤ l.length → (∀ j c, l[j]? = some c → tm < c.t → k ≤ j) → (waysF l t G p tm seen).length ≤ 2 ^ (l.length - k)) → ∀ (p tm seen : Int) (i : Nat) (c : Kl), l[i]? = some c →
        (wayStep (waysF l t G) t p tm seen i c).length ≤ 2 ^ (l.length - i - 1) := by
      intro G hG p tm seen i c hc
      have hil := (List.getElem?_eq_some_iff.1 hc).1
      unfold wayStep
      split
      · split
        · exact Nat.one_le_two_pow
        · rw [List.length_map, show l.length - i - 1 = l.length - (i + 1) by omega]
          refine hG _ _ _ (i + 1) (by omega) fun j d hd hlt => ?_
          rcases Nat.lt_or_ge i j with h | h
          · omega
          · rcases Nat.lt_or_ge j i with h' | h'
            · have := (validP_sorted hv h' hd hc).1; omega
            · obtain rfl : j = i := by omega
              rw [hc] at hd; cases hd; omega
      · simp
    have ih' := fun p tm seen k h1 h2 => (ih p tm seen k h1 h2).1
    have full : ∀ (p tm seen : Int) (k : Nat), k ≤ l.length → (∀ j c, l[j]? = some c → tm < c.t → k ≤ j) → (waysF l t (F + 1) p tm seen).length ≤ 2 ^ (l.length - k) := by
      intro p tm seen k hk hj
      simp only [waysF]
      have key : ∀ (l' : List Kl) (i : Nat) (acc : List (List Int)), l.drop i = l' → i + l'.length = l.length → (i ≤ k → acc = []) → (k ≤ i → acc.length + 2 ^ (l.length - i) ≤ 2 ^ (l.length - k)) →
          (foldI (fun i c acc => acc ++ wayStep (waysF l t F) t p tm seen i c) l' i acc).length ≤ 2 ^ (l.length - k) := by
        intro l'
        induction l' with
        | nil =>
          intro i acc _ hi h1 h2
          simp at hi
          simp only [foldI]
          by_cases h3 : k ≤ i
          · exact Nat.le_trans (Nat.le_add_right _ _) (h2 h3)
          · rw [h1 (by omega)]; simp
        | cons c l' ih2 =>
          intro i acc hd hi h1 h2
          simp only [List.length_cons] at hi
          have hc : l[i]? = some c := by
            have := List.getElem?_drop (xs := l) (i := i) (j := 0)
            rw [hd] at this
            simpa using this.symm
          have hdr : l.drop (i + 1) = l' := by
            have := List.drop_drop (i := 1) (j := i) (l := l)
            rw [hd] at this
            rw [← this]
            rfl
          simp only [foldI]
          have hs := step F ih' p tm seen i c hc
          by_cases h3 : k ≤ i
          · refine ih2 (i + 1) _ hdr (by omega) (fun h => by omega) (fun _ => ?_)
            have h4 := h2 h3
            have e1 : 2 ^ (l.length - i) = 2 ^ (l.length - i - 1) + 2 ^ (l.length - i - 1) := by
              rw [← Nat.two_mul, ← Nat.pow_succ']
              congr 1
              omega
            rw [List.length_append, show l.length - (i + 1) = l.length - i - 1 by omega]
            omega
          · have hng : ¬ tm < c.t := fun h => h3 (hj i c hc h)
            have hst0 : wayStep (waysF l t F) t p tm seen i c = [] := by
              unfold wayStep
              rw [if_neg]
              simp [goes, Int.not_lt.1 hng]
            rw [hst0, h1 (by omega), List.append_nil]
            refine ih2 (i + 1) _ hdr (by omega) (fun _ => rfl) (fun h => ?_)
            have : i + 1 = k := by omega
            rw [this]; simp
      refine key l 0 [] (by simp) (by simp) (fun _ => rfl) (fun h => ?_)
      have : k = 0 := by omega
      subst this
      simp
    exact ⟨full p tm seen k hk hj, step (F + 1) full p tm seen⟩

theorem ref_body {n t : Int} {l : List Kl} (hv : validP n l = true) (F : Nat) (tm : Int) (hrec : ∀ tm', tm < tm' → tm' ≤ 30 → RefOk n t l F tm') : RefOk n t l (F + 1) tm := by
  obtain ⟨hn1, hn7, hl24, hok⟩ := validP_ok hv
  intro p seen w sl wv g hp hlen hpt hsl hwv
  have x1 : Ext g (g.new (.row [iv n, sl] 24 true)) := .new _ _
  have hb1 : (g.new (.row [iv n, sl] 24 true)).blk g.nx = some (.row [iv n, sl] 24 true) := blk_new_self _ _
  have hn1' : g.nx < (g.new (.row [iv n, sl] 24 true)).nx := Nat.lt_succ_self _
  have hpw : 2 ^ l.length ≤ 2 ^ 24 := Nat.pow_le_pow_right (by omega) hl24
  obtain ⟨ws', g', hl, hx, sv, vs, hap, hss, hbd, rfl⟩ := lp_for (F := f111_l1 rn 30 p t seen tm wv g sl l.length) (k := 30) (l := l) (fun i c acc => acc ++ wayStep (waysF l t F) t p tm seen i c)
    (fun i acc ws h3 => Ext (g.new (.row [iv n, sl] 24 true)) h3 ∧ ∃ sv vs, AqR (g.nx + 1) h3 25 1 sv (cellsV vs) ∧ SsR h3 vs (acc.map (w ++ ·)) ∧ acc.length + 2 ^ (l.length - i) ≤ 2 ^ l.length ∧ ws = [sv, iv i]) 0 (ws := [.slice none 0 0, iv 0]) (h := g.new (.row [iv n, sl] 24 true)) (s0 := [])
    ⟨.refl _, _, [], .nil, ⟨rfl, fun j v l hv => by simp at hv⟩, by simp, rfl⟩ (by omega)
    (by
      rintro acc ws' h3 ⟨_, sv, vs, _, _, _, rfl⟩
      simp [f111_l1])
    (by
      rintro i c acc ws' h3 hc ⟨hx, sv, vs, hap, hss, hbd, rfl⟩
      have hil := (List.getElem?_eq_some_iff.1 hc).1
      have hcok := hok _ _ hc
      have hadd : add .i64 (i : Int) 1 = (i : Int) + 1 := add64 (by omega) (by omega)
      have y5 := (Ext.refl h3).fresh 59 [iv 0, iv 0, iv 0] c.cells
      have hcb := blk_fresh h3 59 [iv 0, iv 0, iv 0] c.cells
      have n5 : (h3.fresh 59 [iv 0, iv 0, iv 0] c.cells).nx = h3.nx + 1 := rfl
      have x5 := hx.trans y5
      have hb5 := (x5.blk _ hn1').trans hb1
      have hsl5 := hsl.ext (x1.trans x5)
      have hwv5 := hwv.ext (x1.trans x5)
      have a5 := hap.ext y5
      have s5 : SsR (h3.fresh 59 [iv 0, iv 0, iv 0] c.cells) vs (acc.map (w ++ ·)) := hss.keep y5.nx fun v hv q hq => y5.blk q (hss.bel hv hq)
      have hgx := hx.nx
      rw [nx_new] at hgx
      have hst := (ways_few (t := t) hv F p tm seen 0 (by omega) (fun _ _ _ _ => Nat.zero_le _)).2 i c hc
      have e2 : 2 ^ (l.length - i) = 2 ^ (l.length - i - 1) + 2 ^ (l.length - i - 1) := by
        rw [← Nat.two_mul, ← Nat.pow_succ']
        congr 1
        omega
      have hbd' : (acc ++ wayStep (waysF l t F) t p tm seen i c).length + 2 ^ (l.length - (i + 1)) ≤ 2 ^ l.length := by
        rw [List.length_append, show l.length - (i + 1) = l.length - i - 1 by omega]
        omega
      unfold f111_l1
      rw [show gv [sv, iv i] 1 = iv i from rfl, show gv [sv, iv i] 0 = sv from rfl, asI_int, lt_t (by omega), ifB_true, asK_int, (hsl.ext (x1.trans hx)).ldA ag59 sz59 (by omega) (x := c.cells) (by simp [hc])]
      rw [al_st (zs := [iv 0, iv 0, iv 0]) (xs := c.cells) sz59 rfl rfl]
      generalize h3.fresh 59 [iv 0, iv 0, iv 0] c.cells = h5 at *
      simp only [Kl.cells] at hcb
      by_cases hg : goes c p tm seen = true
      · have hg' := hg
        simp only [goes, Bool.and_eq_true, Bool.not_eq_true', decide_eq_false_iff_not] at hg
        obtain ⟨⟨g_t, g_h⟩, g_s⟩ := hg
        have hoth := oth_ok hcok g_h
        have hcalc := oth_calc (by omega) hcok g_h
        have htm : tm < c.t ∧ c.t ≤ 30 := ⟨Int.not_le.1 g_t, (okC_iff.1 hcok).2.2.2.2⟩
        have hin : AM.and .i64 (shr .i64 seen (c.oth p)) 1 = 0 := by
          have h1 : AM.and .i64 (shr .i64 seen (c.oth p)) 1 ≠ 1 := by simpa [inP] using g_s
          exact (and_one _).resolve_right h1
        obtain ⟨v11, v13, h7, e11, e13, x7, w7, n7, s7⟩ := full_push (z := (i : Int)) hwv5 (by omega)
        have hkb : ∀ (K : Value → H → Option (Ex × List Value × H)), bls Try.prog h5 25 1 [(0, iv (i : Int))] K = K (.slice (some ⟨h5.nx, 0, none⟩) 1 1) (h5.new (.row [iv (i : Int)] 3 true)) := fun K => bls_some (bls25 _ _)
        have hck1 : fres wv h5.nx (same (h5.new (.row [iv (i : Int)] 3 true)) h5) = true := by
          have h9 : same (h5.new (.row [iv (i : Int)] 3 true)) h5 = true := by simp [same, wr_new]
          rw [h9]
          have h8 := hwv5
          generalize cellsI w = L at h8
          clear hwv hwv5
          cases h8 with
          | nil => rfl
          | at_ hb' => simp [fres, hb']
        have hck2 : ∀ b, b < h5.nx → freq b h5.nx (same (h5.new (.row [iv (i : Int)] 3 true)) h5) = true := fun b hb => by simp [freq, same, wr_new, hb]
        have hck3 : ∀ b, b < h5.nx → freq b (h5.nx + 1) (same h7 (h5.new (.row [iv (i : Int)] 3 true))) = true := fun b hb => by simp [freq, same, wr_new, w7]; omega
        -- the answer of the call
        obtain ⟨v14, vs', h8, e8, x8, s8, ss8⟩ : ∃ v14 vs' h8, rn 111 #[.agg #[iv n, sl], iv (c.oth p), iv t, iv (AM.or .i64 seen (shl .i64 1 (c.oth p))), iv c.t, v13] h7 = some (v14, h8) ∧ Ext h7 h8 ∧ SlR h8 25 1 v14 (cellsV vs') ∧ SsR h8 vs' ((wayStep (waysF l t F) t p tm seen i c).map (w ++ ·)) := by
          by_cases hto : c.oth p = t
          · obtain ⟨v, g', e1, e2, e3, e4⟩ := s111_end (n := n) (t := t) (l := l) (seen := AM.or .i64 seen (shl .i64 1 (c.oth p))) (tm := c.t) (sl := sl) s7
            refine ⟨v, [v13], g', by rw [hto] at e1 ⊢; exact e1, e2, e3, ?_⟩
            simpa [wayStep, hg', hto] using e4
          · obtain ⟨v, us, g', e1, e2, e3, e4⟩ := hrec c.t htm.1 htm.2 (c.oth p) (withP seen (c.oth p)) (w ++ [(i : Int)]) sl v13 h7 ⟨hoth.1, hoth.2.1⟩ (by simp; omega) hto (hsl5.ext x7) s7
            refine ⟨v, us, g', e1, e2, e3, ?_⟩
            simpa [wayStep, hg', hto, Function.comp_def] using e4
        have hkc : ∀ (K : Value → H → Option (Ex × List Value × H)), calls rn h7 111 [.agg #[iv n, sl], iv (c.oth p), iv t, iv (AM.or .i64 seen (shl .i64 1 (c.oth p))), iv c.t, v13] K = K v14 h8 := fun K => calls_eq (xs := [_, _, _, _, _, _]) e8
        have x58 := x7.trans x8
        have hlv : vs.length = acc.length := by rw [hss.1]; simp
        have hlu : vs'.length = (wayStep (waysF l t F) t p tm seen i c).length := by rw [ss8.1]; simp
        obtain ⟨v15, h9, e9, a9, n9, f9, _⟩ := (a5.ext x58).app app58 app58 s8 ss8.scal (by simp; omega) (by have := x58.nx; omega)
        have svb : ∀ q c, blkOf sv = some q → h5.blk q = some (.row c 3 true) → False := fun q c h1 h2 => by
          have := (a5.blkOf h1).2.2
          rw [this] at h2
          simp at h2
        have keep9 : ∀ v m, SlR h8 3 1 v (cellsI m) → SlR h9 3 1 v (cellsI m) := fun v m hm => slR_keep hm n9 fun q hq => f9 q (slR_bel hm hq) (fun e => by
          generalize cellsI m = L at hm
          cases hm with
          | nil => cases hq
          | at_ _ hr =>
            cases hq
            have := ((a5.ext x58).blkOf e).2.2
            rw [this] at hr
            simp at hr)
        have ssN : SsR h9 (vs ++ vs') ((acc ++ wayStep (waysF l t F) t p tm seen i c).map (w ++ ·)) := by
          rw [List.map_append]
          exact SsR.append ⟨by simpa using hlv, fun j v m hv hm => keep9 v m ((s5.2 j v m hv hm).ext x58)⟩ ⟨by simpa using hlu, fun j v m hv hm => keep9 v m (ss8.2 j v m hv hm)⟩
        refine ⟨[v15, iv ((i : Int) + 1)], h9, ?_, ⟨by have := x58.nx; rw [nx_new]; omega, fun q hq => ?_⟩, v15, vs ++ vs', by simpa using a9, ssN, hbd', rfl⟩
        · have hq1 : h3.nx < h5.nx := by omega
          have hq2 : g.nx < h5.nx := by omega
          have hlw : ∀ (K : Int → Option (Ex × List Value × H)), len wv K = K w.length := fun K => by rw [hwv5.len]; simp
          by_cases hA : c.a = p
          · have hcalc' := hcalc
            rw [hA] at hcalc'
            simp [cell_of hcb, cell_of hb5, rd_of hb5, show tm < c.t from htm.1, hA, hcalc', nn_ge hoth.1, hin, hlw, e11, hkb, hck1, hck2 _ hq1, hck2 _ hq2, e13, hck3 _ hq1, hck3 _ hq2, ck, hkc, e9, hadd]
          · have hB : c.b = p := by simpa [Kl.has, hA] using g_h
            have hcalc' := hcalc
            rw [hB] at hcalc'
            simp [cell_of hcb, cell_of hb5, rd_of hb5, show tm < c.t from htm.1, hA, hB, hcalc', nn_ge hoth.1, hin, hlw, e11, hkb, hck1, hck2 _ hq1, hck2 _ hq2, e13, hck3 _ hq1, hck3 _ hq2, ck, hkc, e9, hadd]
        · have hq' : q < g.nx + 1 := hq
          rw [f9 q (by have := x58.nx; omega) (fun e => by have := (a5.blkOf e).1; omega), x58.blk q (by omega)]
          exact x5.blk q hq
      · have hst0 : wayStep (waysF l t F) t p tm seen i c = [] := by simp [wayStep, hg]
        rw [hst0, List.append_nil] at hbd' ⊢
        refine ⟨[sv, iv ((i : Int) + 1)], h5, ?_, x5, sv, vs, a5, s5, hbd', rfl⟩
        by_cases g_t : tm < c.t
        · by_cases g_h : c.has p = true
          · have hoth := oth_ok hcok g_h
            have hcalc := oth_calc (by omega) hcok g_h
            have hin : AM.and .i64 (shr .i64 seen (c.oth p)) 1 = 1 := by
              have : goes c p tm seen = false := by simpa using hg
              simpa [goes, Int.not_le.2 g_t, g_h, inP] using this
            by_cases hA : c.a = p
            · have hcalc' := hcalc
              rw [hA] at hcalc'
              simp [cell_of hcb, cell_of hb5, rd_of hb5, g_t, hA, hcalc', nn_ge hoth.1, hin, hadd]
            · have hB : c.b = p := by simpa [Kl.has, hA] using g_h
              have hcalc' := hcalc
              rw [hB] at hcalc'
              simp [cell_of hcb, cell_of hb5, rd_of hb5, g_t, hA, hB, hcalc', nn_ge hoth.1, hin, hadd]
          · have hA : ¬ c.a = p := by intro e; simp [Kl.has, e] at g_h
            have hB : ¬ c.b = p := by intro e; simp [Kl.has, e] at g_h
            simp [cell_of hcb, cell_of hb5, g_t, hA, hB, hadd]
        · simp [cell_of hcb, cell_of hb5, g_t, hadd])
  refine ⟨sv, vs, g', x111 (k := 30) ?_ hap.slR.notR, x1.trans hx, hap.slR, by simpa [waysF] using hss⟩
  simp [f111, hpt, hsl.len, lp_eq hl]

end Go.AM

end

section

/- CallsWays, on the abstract machine. -/
namespace Go.AM
open Go.Proofs
variable {R : Type}
attribute [local simp] nx_eq nx_new nx_set blk_new blk_set asI_int asK_int asB_bool asP_ptr al_eq bx_eq len_slice onE_exit onE_ret onR_ret Value.cells d3 d29 d31 d56 d24 d59 d22 d25 d121 d89 d61 w3 w25 w121 cell_new cell_set rd_new rd_set off eq lt le ifB gv out eqF1 eqF2 eqF3 eqF4 eqF5 eqF6 eqF7 eqF8 ext20 ext21 k42 k72 k73 k74
theorem refOk {n t : Int} {l : List Kl} (hv : validP n l = true) : ∀ (f : Nat) (tm : Int), 31 - tm ≤ f → RefOk n t l (f + 1) tm := by
  intro f
  induction f with
  | zero => intro tm htm; exact ref_body hv 0 tm (fun tm' h1 h2 => by omega)
  | succ f ih => intro tm htm; exact ref_body hv (f + 1) tm (fun tm' h1 h2 => ih tm' (by omega))

theorem s98 {n s t : Int} {sl : Value} {l : List Kl} {h : H} (hs : SlR h 59 3 sl (l.map Kl.cells)) (hp : pairP n l s t = true) :
    ∃ v vs h', rn 98 #[.agg #[iv n, sl], iv s, iv t] h = some (v, h') ∧ Ext h h' ∧ SlR h' 25 1 v (cellsV vs) ∧ SsR h' vs (allWays l s t) := by
  obtain ⟨⟨⟨hv, hsn⟩, htn⟩, hst⟩ : ((validP n l = true ∧ (0 ≤ s ∧ s < n)) ∧ (0 ≤ t ∧ t < n)) ∧ s ≠ t := by simpa [pairP] using hp
  have x1 : Ext h (h.new (.row [iv n, sl] 24 true)) := .new _ _
  obtain ⟨v, vs, h', e, x, a, b⟩ := refOk hv 31 0 (by omega) s (shl .i64 1 s) [] sl (.slice none 0 0) _ hsn (by simp) hst (hs.ext x1) .nil
  have hc := fun (K : Value → H → Option (Value × H)) => calls_eq (K := K) (xs := [_, _, _, _, _, _]) e
  refine ⟨v, vs, h', x98 (k := 0) ?_ a.notR, x1.trans x, a, by simpa [allWays] using b⟩
  simp [f98, nn_ge hsn.1, hc]

theorem kbld108 (a b c : Int) (K : Value → Option R) : bld Try.prog 108 [(0, .int .i64 a), (1, .int .i64 b), (2, .int .i64 c)] K = K (.agg #[.int .i64 a, .int .i64 b, .int .i64 c]) := bld_some (by kernel_rfl)

theorem inx108 (a b c : Int) (k : Nat) (hk : k < 3) : index Try.prog 108 (.agg #[.int .i64 a, .int .i64 b, .int .i64 c]) (.int .i64 k) = some (.int .i64 ([a, b, c].getD k 0)) := by
  rcases (show k = 0 ∨ k = 1 ∨ k = 2 by omega) with rfl | rfl | rfl <;> kernel_rfl

theorem kinx108 (a b c : Int) {k : Nat} (hk : k < 3) (K : Value → Option R) : inx Try.prog 108 (.agg #[.int .i64 a, .int .i64 b, .int .i64 c]) k K = K (.int .i64 ([a, b, c].getD k 0)) := by
  unfold inx
  rw [inx108 a b c k hk]
  rfl

theorem ofK_eq (l : List Kl) (w : List Int) {k : Nat} (hk : k < 3) : [arrP l w, (w.length : Int), sub .i64 (arrP l w) (leaveP l w)].getD k 0 = ofK l k w := by
  rcases (show k = 0 ∨ k = 1 ∨ k = 2 by omega) with rfl | rfl | rfl <;> rfl

theorem time_ok {n : Int} {l : List Kl} (hv : validP n l = true) {i : Nat} {c : Kl} (hc : l[i]? = some c) : 1 ≤ c.t ∧ c.t ≤ 30 := by
  have := okC_iff.1 ((validP_ok hv).2.2.2 i c hc)
  exact this.2.2.2

theorem ofK_lt {n : Int} {l : List Kl} {w : List Int} {k : Nat} (hv : validP n l = true) (hw : okW l w) (hl : w.length ≤ 32) (hk : k < 3) : ofK l k w < 99 := by
  obtain ⟨x, c, h1, h2, h3, h4, h5⟩ := okW_last hw
  obtain ⟨y, d, g1, g2, g3, g4⟩ := okW_head hw
  have hc := time_ok hv h3
  have hd := time_ok hv g3
  rcases (show k = 0 ∨ k = 1 ∨ k = 2 by omega) with rfl | rfl | rfl
  · simp only [ofK]; omega
  · simp only [ofK]; omega
  · simp only [ofK, h4, g4]
    rw [sub64 (by omega) (by omega)]
    omega

theorem BestR.slR {o : Option (List Int)} {v : Value} {e : Int} {h : H} (b : BestR o v e h) : SlR h 3 1 v (cellsI (o.getD [])) ∧ e = (if o = none then 4 else 0) := by
  cases o with
  | none => obtain ⟨rfl, rfl⟩ := b; exact ⟨.nil, rfl⟩
  | some w => exact ⟨b.1, b.2.1⟩

theorem s70 {n s t : Int} {sl : Value} {l : List Kl} {h : H} {k : Nat} (hk : k < 3) (hs : SlR h 59 3 sl (l.map Kl.cells)) (hp : pairP n l s t = true) :
    ∃ v e h', rn 70 #[.agg #[iv n, sl], iv s, iv t, iv k] h = some (.tuple #[v, iv e], h') ∧ Ext h h' ∧ BestR (bestP (ofK l k) l s t) v e h' := by
  have hv : validP n l = true := by
    simp only [pairP, Bool.and_eq_true] at hp
    exact hp.1.1.1
  have x1 : Ext h (h.new (.row [iv n, sl] 24 true)) := .new _ _
  obtain ⟨v2, vs, h2, e, x2, a, b⟩ := s98 (n := n) (s := s) (t := t) (hs.ext x1) hp
  have hb2 : h2.blk h.nx = some (.row [iv n, sl] 24 true) := (x2.blk _ (Nat.lt_succ_self _)).trans (blk_new_self _ _)
  have hsl2 := hs.ext (x1.trans x2)
  have hall := fun w hw => allWays_ok (l := l) (s := s) (t := t) w hw
  have hlen32 : ∀ w ∈ allWays l s t, w.length ≤ 32 := fun w hw => (waysF_ok (n := 0) 32 _ _ _ w hw).2.1
  have hcnt : (allWays l s t).length ≤ 2 ^ 24 := by
    have := (ways_few (t := t) hv 32 s 0 (shl .i64 1 s) 0 (by omega) (fun _ _ _ _ => Nat.zero_le _)).1
    exact Nat.le_trans this (Nat.pow_le_pow_right (by omega) (by have := (validP_ok hv).2.2.1; omega))
  unfold bestP
  generalize allWays l s t = W at *
  have hvl := b.1
  obtain ⟨ws', h', hl, rfl, bv, few, hbv, hm⟩ := lp_for (F := f70_l1 rn (W.length + 1) k h v2 W.length) (k := W.length + 1) (l := W) (fun _ w (o : Option (List Int)) => betterP (ofK l k) o w)
    (fun i o ws g => g = h2 ∧ ∃ bv few, ws = [bv, iv few, iv i] ∧ match o with
      | none => bv = .slice none 0 0 ∧ few = 99
      | some w => SlR h2 3 1 bv (cellsI w) ∧ few = ofK l k w ∧ w ≠ []) 0 (ws := [.slice none 0 0, iv 99, iv 0]) (h := h2) (s0 := none)
    ⟨rfl, _, _, rfl, rfl, rfl⟩ (by omega)
    (by
      rintro o ws g ⟨rfl, bv, few, rfl, _⟩
      simp [f70_l1])
    (by
      rintro i w o ws g hw ⟨rfl, bv, few, rfl, hm⟩
      have hi := (List.getElem?_eq_some_iff.1 hw).1
      have hwm := List.mem_of_getElem? hw
      have hok := hall w hwm
      have hl32 := hlen32 w hwm
      obtain ⟨x, c, h1, h2', h3, h4, h5⟩ := okW_last hok
      obtain ⟨y, d, g1, g2, g3, g4⟩ := okW_head hok
      have hvi : vs[i]? = some (vs[i]'(by omega)) := List.getElem?_eq_getElem (by omega)
      have hsi := b.2 i _ w hvi hw
      generalize vs[i]'(by omega) = vi at *
      have e1 : ∀ (K : Value → Option (Ex × List Value × H)), (six v2 (i : Int) 1 fun b o => (g.cell b o).bind K) = K vi := fun K => a.c0 (by omega) (x := [vi]) (by simp [hvi]) rfl K
      have e2 : ∀ (K : Value → Option (Ex × List Value × H)), (six vi 0 1 fun b o => (g.cell b o).bind K) = K (iv y) := fun K => hsi.c0 (by omega) (x := [iv y]) (by simp [g1]) rfl K
      have e3 : ∀ (K : Value → Option (Ex × List Value × H)), (six vi (sub .i64 (w.length : Int) 1) 1 fun b o => (g.cell b o).bind K) = K (iv x) := fun K => by
        rw [sub64 (by omega) (by omega)]
        exact hsi.c0 (by omega) (x := [iv x]) (by rw [show ((w.length : Int) - 1).toNat = w.length - 1 by omega]; simp [h1]) rfl K
      have e4 : ∀ (K : Value → Option (Ex × List Value × H)), (six sl x 3 fun b o => (g.cell b (o + 2)).bind K) = K (iv c.t) := fun K => hsl2.cF h2' (x := c.cells) (by simp [h3]) rfl K
      have e5 : ∀ (K : Value → Option (Ex × List Value × H)), (six sl y 3 fun b o => (g.cell b (o + 2)).bind K) = K (iv d.t) := fun K => hsl2.cF g2 (x := d.cells) (by simp [g3]) rfl K
      have e6 : ∀ (K : Int → Option (Ex × List Value × H)), len vi K = K w.length := fun K => by rw [hsi.len]; simp
      have hadd : add .i64 (i : Int) 1 = (i : Int) + 1 := add64 (by omega) (by omega)
      have hK := ofK_eq l w hk
      rw [h4, g4] at hK
      have e7 : ∀ (K : Value → Option (Ex × List Value × H)), inx Try.prog 108 (.agg #[.int .i64 c.t, .int .i64 w.length, .int .i64 (sub .i64 c.t d.t)]) k K = K (iv (ofK l k w)) := fun K => by rw [kinx108 _ _ _ hk, hK]
      have hF : f70_l1 rn (W.length + 1) k h v2 W.length [bv, iv few, iv i] g = if ofK l k w < few then some (.normal, [vi, iv (ofK l k w), iv ((i : Int) + 1)], g) else some (.normal, [bv, iv few, iv ((i : Int) + 1)], g) := by
        simp [f70_l1, hi, e1, e2, e3, e4, e5, e6, e7, cell_of hb2, kbld108, hadd]
      rw [hF]
      cases o with
      | none =>
        obtain ⟨rfl, rfl⟩ := hm
        have := ofK_lt hv hok hl32 hk
        rw [if_pos this]
        exact ⟨_, _, rfl, rfl, vi, _, rfl, hsi, rfl, hok.1⟩
      | some w0 =>
        obtain ⟨q1, rfl, q3⟩ := hm
        by_cases hlt : ofK l k w < ofK l k w0
        · rw [if_pos hlt]
          have hb : betterP (ofK l k) (some w0) w = some w := by simp only [betterP, hlt, if_true]
          rw [hb]
          exact ⟨[vi, iv (ofK l k w), iv ((i : Int) + 1)], g, rfl, rfl, vi, ofK l k w, rfl, hsi, rfl, hok.1⟩
        · rw [if_neg hlt]
          have hb : betterP (ofK l k) (some w0) w = some w0 := by simp only [betterP, hlt, if_false]
          rw [hb]
          exact ⟨[bv, iv (ofK l k w0), iv ((i : Int) + 1)], g, rfl, rfl, bv, ofK l k w0, rfl, q1, rfl, q3⟩)
  rw [foldI_foldl] at hm
  subst hbv
  have c1 := fun (K : Value → H → Option (Value × H)) => calls_eq (K := K) (xs := [_, _, _]) e
  have hlv : ∀ (K : Int → Option (Value × H)), len v2 K = K W.length := fun K => by rw [a.len, List.length_map, hvl]
  generalize W.foldl (fun o w => betterP (ofK l k) o w) none = o at *
  cases o with
  | none =>
    obtain ⟨rfl, _⟩ := hm
    refine ⟨.slice none 0 0, 4, h', x70 (k := W.length + 1) ?_ rfl, x1.trans x2, rfl, rfl⟩
    simp [f70, c1, hlv, lp_eq hl, eqv, nil25]
  | some w =>
    obtain ⟨q1, _, q3⟩ := hm
    have hnb : ∃ b o n c, bv = .slice (some ⟨b, o, none⟩) n c := by
      generalize hL : cellsI w = L at q1
      cases q1 with
      | nil => simp at hL; exact absurd hL q3
      | at_ => exact ⟨_, _, _, _, rfl⟩
    obtain ⟨b0, o0, n0, c0, hbv⟩ := hnb
    refine ⟨bv, 0, h', x70 (k := W.length + 1) ?_ q1.notR2, x1.trans x2, q1, rfl, q3⟩
    simp [f70, c1, hlv, lp_eq hl, eqv, hbv, some25]

theorem s23 {n s t : Int} {sl : Value} {l : List Kl} {h : H} (hs : SlR h 59 3 sl (l.map Kl.cells)) (hp : pairP n l s t = true) :
    ∃ v e h', rn 23 #[.agg #[iv n, sl], iv s, iv t] h = some (.tuple #[v, iv e], h') ∧ Ext h h' ∧ BestR (bestP (ofK l 0) l s t) v e h' := by
  have x1 : Ext h (h.new (.row [iv n, sl] 24 true)) := .new _ _
  obtain ⟨v, e, h', e1, x, b⟩ := s70 (k := 0) (by omega) (hs.ext x1) hp
  have hc := fun (K : Value → H → Option (Value × H)) => calls_eq (K := K) (xs := [_, _, _, iv 0]) e1
  exact ⟨v, e, h', x23 (k := 0) (by simp [f23, hc]) b.plain, x1.trans x, b⟩

theorem s24 {n s t : Int} {sl : Value} {l : List Kl} {h : H} (hs : SlR h 59 3 sl (l.map Kl.cells)) (hp : pairP n l s t = true) :
    ∃ v e h', rn 24 #[.agg #[iv n, sl], iv s, iv t] h = some (.tuple #[v, iv e], h') ∧ Ext h h' ∧ BestR (bestP (ofK l 1) l s t) v e h' := by
  have x1 : Ext h (h.new (.row [iv n, sl] 24 true)) := .new _ _
  obtain ⟨v, e, h', e1, x, b⟩ := s70 (k := 1) (by omega) (hs.ext x1) hp
  have hc := fun (K : Value → H → Option (Value × H)) => calls_eq (K := K) (xs := [_, _, _, iv 1]) e1
  exact ⟨v, e, h', x24 (k := 0) (by simp [f24, hc]) b.plain, x1.trans x, b⟩

theorem s25 {n s t : Int} {sl : Value} {l : List Kl} {h : H} (hs : SlR h 59 3 sl (l.map Kl.cells)) (hp : pairP n l s t = true) :
    ∃ v e h', rn 25 #[.agg #[iv n, sl], iv s, iv t] h = some (.tuple #[v, iv e], h') ∧ Ext h h' ∧ BestR (bestP (ofK l 2) l s t) v e h' := by
  have x1 : Ext h (h.new (.row [iv n, sl] 24 true)) := .new _ _
  obtain ⟨v, e, h', e1, x, b⟩ := s70 (k := 2) (by omega) (hs.ext x1) hp
  have hc := fun (K : Value → H → Option (Value × H)) => calls_eq (K := K) (xs := [_, _, _, iv 2]) e1
  exact ⟨v, e, h', x25 (k := 0) (by simp [f25, hc]) b.plain, x1.trans x, b⟩

theorem s3 {n s t : Int} {sl : Value} {l : List Kl} {h : H} (hs : SlR h 59 3 sl (l.map Kl.cells)) : ∃ h', rn 3 #[.agg #[iv n, sl], iv s, iv t] h = some (.bool true, h') := by
  have x1 : Ext h (h.new (.row [iv n, sl] 24 true)) := .new _ _
  have b1 : (h.new (.row [iv n, sl] 24 true)).blk h.nx = some (.row [iv n, sl] 24 true) := blk_new_self _ _
  have n1 : h.nx < (h.new (.row [iv n, sl] 24 true)).nx := Nat.lt_succ_self _
  have start : ∃ h1, f3 rn 0 (.agg #[iv n, sl]) s t h = some (.bool true, h1) := by
    unfold f3
    rw [bx_eq, nx_eq, show (Value.agg #[iv n, sl]).cells.toList = [iv n, sl] from rfl]
    generalize h.new (.row [iv n, sl] 24 true) = h1 at *
    have ld1 : ∀ (g : H), Ext h1 g → ∀ (K : Value → Option (Value × H)), ld Try.prog g 24 h.nx 0 K = K (.agg #[iv n, sl]) := fun g x K => by
      rw [d24, rd_all (n := 2) ((x.blk _ n1).trans b1) rfl]; rfl
    obtain ⟨la, h2, e2, x2, s2⟩ := s18 (n := n) (hs.ext x1)
    rw [ld1 _ (.refl _), calls_eq (xs := [_]) e2]
    cases hp : pairP n l s t with
    | true =>
      have hv : validP n l = true := by
        simp only [pairP, Bool.and_eq_true] at hp
        exact hp.1.1.1
      have hl : l.take 26 = l := List.take_of_length_le (by have := (validP_ok hv).2.2.1; omega)
      rw [hl] at s2
      obtain ⟨va, ea, h3, e3, x3, ba⟩ := s17 s2 hp
      rw [calls_eq (xs := [_, _, _]) e3, ext20, ext21, asI_int]
      have x13 := x2.trans x3
      rw [ld1 _ x13]
      obtain ⟨lb, h4, e4, x4, s4⟩ := s18 (n := n) (hs.ext (x1.trans x13))
      rw [calls_eq (xs := [_]) e4]
      rw [hl] at s4
      have x14 := x13.trans x4
      obtain ⟨vb, eb, h5, e5, x5, bb⟩ := s19 s4 hp
      rw [calls_eq (xs := [_, _, _]) e5, ext20, ext21, asI_int]
      have x15 := x14.trans x5
      rw [ld1 _ x15]
      obtain ⟨lc, h6, e6, x6, s6⟩ := s18 (n := n) (hs.ext (x1.trans x15))
      rw [calls_eq (xs := [_]) e6]
      rw [hl] at s6
      have x16 := x15.trans x6
      obtain ⟨vc, ec, h7, e7, x7, bc⟩ := s20 s6 hp
      rw [calls_eq (xs := [_, _, _]) e7, ext20, ext21, asI_int]
      have x17 := x16.trans x7
      rw [ld1 _ x17, calls_eq (xs := [_, _, _]) (s21 (n := n) (s := s) (t := t) (hs.ext (x1.trans x17))), asB_bool, hp, Bool.not_true, ifB_false, ld1 _ x17]
      obtain ⟨vd, ed, h8, e8, x8, bd⟩ := s23 (hs.ext (x1.trans x17)) hp
      rw [calls_eq (xs := [_, _, _]) e8, ext20, ext21, asI_int]
      have x18 := x17.trans x8
      rw [ld1 _ x18]
      obtain ⟨ve, ee, h9, e9, x9, be⟩ := s24 (hs.ext (x1.trans x18)) hp
      rw [calls_eq (xs := [_, _, _]) e9, ext20, ext21, asI_int]
      have x19 := x18.trans x9
      rw [ld1 _ x19]
      obtain ⟨vf, ef, h10, e10, x10, bf⟩ := s25 (hs.ext (x1.trans x19)) hp
      rw [calls_eq (xs := [_, _, _]) e10, ext20, ext21, asI_int]
      rw [k26 (ba.slR.1.ext (x4.trans (x5.trans (x6.trans (x7.trans (x8.trans (x9.trans x10))))))) (bd.slR.1.ext (x9.trans x10)), asB_bool, decide_eq_true rfl, ifB_true]
      rw [k26 (bb.slR.1.ext (x6.trans (x7.trans (x8.trans (x9.trans x10))))) (be.slR.1.ext x10), asB_bool, decide_eq_true rfl, ifB_true]
      rw [k26 (bc.slR.1.ext (x8.trans (x9.trans x10))) bf.slR.1, asB_bool, decide_eq_true rfl, ifB_true]
      rw [eq_t (ba.slR.2.trans bd.slR.2.symm), ifB_true, eq_t (bb.slR.2.trans be.slR.2.symm), ifB_true, eq_t (bc.slR.2.trans bf.slR.2.symm), ifB_true, k22, asB_bool]
      exact ⟨_, rfl⟩
    | false =>
      have hp' : pairP n (l.take 26) s t = false := by rw [pairP_take]; exact hp
      obtain ⟨h3, e3, x3⟩ := s17_bad s2 hp'
      rw [calls_eq (xs := [_, _, _]) e3, ext20, ext21, asI_int]
      have x13 := x2.trans x3
      rw [ld1 _ x13]
      obtain ⟨lb, h4, e4, x4, s4⟩ := s18 (n := n) (hs.ext (x1.trans x13))
      rw [calls_eq (xs := [_]) e4]
      have x14 := x13.trans x4
      obtain ⟨h5, e5, x5⟩ := s19_bad s4 hp'
      rw [calls_eq (xs := [_, _, _]) e5, ext20, ext21, asI_int]
      have x15 := x14.trans x5
      rw [ld1 _ x15]
      obtain ⟨lc, h6, e6, x6, s6⟩ := s18 (n := n) (hs.ext (x1.trans x15))
      rw [calls_eq (xs := [_]) e6]
      have x16 := x15.trans x6
      obtain ⟨h7, e7, x7⟩ := s20_bad s6 hp'
      rw [calls_eq (xs := [_, _, _]) e7, ext20, ext21, asI_int]
      have x17 := x16.trans x7
      rw [ld1 _ x17, calls_eq (xs := [_, _, _]) (s21 (n := n) (s := s) (t := t) (hs.ext (x1.trans x17))), asB_bool, hp]
      refine ⟨h7, ?_⟩
      have h00 : add .i64 (add .i64 0 0) 0 = 0 := by decide
      simp [k22, h00]
  obtain ⟨h1, e⟩ := start
  exact ⟨_, t3 e⟩

end Go.AM

end

section

/- Arrivals. -/
namespace Go.AM
open Go.Proofs
variable {R : Type}
attribute [local simp] nx_eq nx_new nx_set blk_new blk_set asI_int asK_int asB_bool asP_ptr al_eq bx_eq len_slice onE_exit onE_ret onR_ret Value.cells d3 d29 d31 d56 d24 d59 d22 d25 w3 cell_new cell_set rd_new rd_set off eq lt le ifB gv out eqF1 eqF2 eqF3 eqF4 eqF5 eqF6 eqF7 eqF8 ext20 ext21 k42 k72 k73 k74
theorem u64_small {a : Int} (h1 : 0 ≤ a) (h2 : a < 18446744073709551616) : IntKind.u64.wrap a = a := by
  simp only [IntKind.wrap, IntKind.signed, IntKind.bits, Bool.false_and]
  exact Int.emod_eq_of_lt h1 h2

theorem and_u64 {a b : Nat} (ha : a < 2 ^ 64) (hb : b < 2 ^ 64) : AM.and .u64 (a : Int) (b : Int) = ((a &&& b : Nat) : Int) := by
  unfold AM.and
  show IntKind.u64.wrap ((BitVec.ofInt 64 (a : Int) &&& BitVec.ofInt 64 (b : Int)).toNat : Nat) = _
  have e : ∀ {x : Nat}, x < 2 ^ 64 → (BitVec.ofInt 64 (x : Int)).toNat = x := fun {x} hx => by
    rw [ofInt_nat, BitVec.toNat_ofNat]
    exact Nat.mod_eq_of_lt hx
  rw [BitVec.toNat_and, e ha, e hb]
  have := Nat.and_lt_two_pow a hb
  exact u64_small (by omega) (by omega)

/-- Once a small number. -/
theorem s116 {n : Nat} (hn : n < 2 ^ 31) (h : H) : rn 116 #[.int .u64 1, .int .u64 n] h = some (.tuple #[.int .u64 0, .int .u64 n], h) := by
  refine p116 (k := 0) (h1 := h) ?_ rfl (.refl _)
  have a1 : AM.and .u64 1 4294967295 = 1 := by decide
  have a2 : AM.and .u64 (n : Int) 4294967295 = n := by
    have := and_u64 (a := n) (b := 4294967295) (by omega) (by decide)
    rw [show ((4294967295 : Nat) : Int) = 4294967295 from rfl] at this
    rw [this, show (4294967295 : Nat) = 2 ^ 32 - 1 from rfl, Nat.and_two_pow_sub_one_eq_mod]
    congr 1
    exact Nat.mod_eq_of_lt (by omega)
  have a3 : shr .u64 1 32 = 0 := by decide
  have a4 : shr .u64 (n : Int) 32 = 0 := by
    unfold shr
    rw [show min (32 : Int).toNat IntKind.u64.bits = 32 from rfl, Int.fdiv_eq_ediv_of_nonneg _ (by decide)]
    exact Int.ediv_eq_zero_of_lt (by omega) (by omega)
  have m1 : mul .u64 1 (n : Int) = n := by unfold mul; rw [Int.one_mul]; exact u64_small (by omega) (by omega)
  have m2 : ∀ x : Int, mul .u64 0 x = 0 := fun x => by unfold mul; rw [Int.zero_mul]; rfl
  have m3 : mul .u64 1 0 = 0 := by decide
  have p1 : add .u64 0 0 = 0 := by decide
  have q0 : AM.and .u64 0 4294967295 = 0 := by decide
  have q1 : shr .u64 0 32 = 0 := by decide
  simp [f116, nn, a1, a2, a3, a4, m1, m2, m3, p1, q0, q1]

theorem s112 {n : Nat} (hn : n < 2 ^ 31) (h : H) : rn 112 #[.int .u64 1, .int .u64 n] h = some (.tuple #[.int .u64 0, .int .u64 n], h) := by
  refine p112 (k := 0) (h1 := h) ?_ rfl (.refl _)
  have c1 := fun (K : Value → H → Option (Value × H)) => calls_eq (K := K) (xs := [_, _]) (s116 hn h)
  simp [f112, c1]

/-- A copy from the beginning of a row to a later place in it, and to its beginning. -/
theorem cpy_row {h : H} {b n c k m : Nat} {src : Value} {l : List Int} {xs : List Int} {bs : Option Addr} {cs : Nat} (hb : h.blk b = some (.row (l.map iv) 3 true)) (hs : srcCells 1 (.slice bs (min k n) cs) h = some (xs.map iv)) (hsrc : src = .slice bs k cs) (h0 : 0 < min k n)
    (hx : xs.length = min k n) (hm : m + xs.length ≤ l.length) (K : Int → H → Option R) :
    cpy Try.prog h 25 (.slice (some ⟨b, m, none⟩) n c) src K = K (min k n : Nat) (h.set b (.row (setAt (l.map iv) m (xs.map iv)) 3 true)) := by
  subst hsrc
  unfold cpy copyS
  simp only [under25, sz3, Option.bind_some]
  rw [if_neg (by omega), hs, Option.bind_some, hb]
  simp only
  rw [if_pos ⟨by simpa using hm, by rw [List.all_map, List.all_eq_true]; intro x _; rfl⟩]

theorem setAt_ints (l xs : List Int) (m : Nat) (h : m + xs.length ≤ l.length) : setAt (l.map iv) m (xs.map iv) = (l.take m ++ xs ++ l.drop (m + xs.length)).map iv := by
  have e : l = l.take m ++ ((l.drop m).take xs.length ++ l.drop (m + xs.length)) := by
    rw [show l.drop (m + xs.length) = (l.drop m).drop xs.length by rw [List.drop_drop], List.take_append_drop, List.take_append_drop]
  conv => lhs; rw [e]
  rw [List.map_append, List.map_append]
  have hm : ((l.take m).map iv).length = m := by simp; omega
  have := setAt_mid (xs.map iv) ((l.take m).map iv) (((l.drop m).take xs.length).map iv) ((l.drop (m + xs.length)).map iv) (by simp; omega)
  rw [hm] at this
  rw [this]
  simp

theorem s101 {v : Value} {x : Int} {n : Nat} {h : H} (hv : SlR h 3 1 v (cellsI [x])) (h1 : 1 ≤ n) (hn : n < 2 ^ 20) : ∃ v' h' b, rn 101 #[v, iv n] h = some (v', h') ∧ Ext h h' ∧ h.nx ≤ b ∧ blkOf v' = some b ∧ IA h' b v' (List.replicate n x) := by
  obtain ⟨bs, cs, hsv, hsrc0⟩ : ∃ bs cs, v = .slice bs 1 cs ∧ srcCells 1 v h = some [iv x] := by
    have := hv.srcAll (by decide)
    generalize hL : cellsI [x] = L at hv
    cases hv with
    | nil => cases hL
    | at_ => subst hL; exact ⟨_, _, rfl, this⟩
  let h2 := h.new (.row ((List.replicate n (0 : Int)).map iv) 3 true)
  have x2 : Ext h h2 := .new _ _
  have b2 : h2.blk h.nx = some (.row ((List.replicate n (0 : Int)).map iv) 3 true) := blk_new_self _ _
  have hv2 := hv.ext x2
  have hsrc2 : srcCells 1 (.slice bs (min 1 n) cs) h2 = some ([x].map iv) := by
    rw [show min 1 n = 1 by omega, ← hsv]
    exact hv2.srcAll (by decide)
  have kmk : ∀ (K : Value → H → Option (Value × H)), mks Try.prog h 25 n n K = K (.slice (some ⟨h.nx, 0, none⟩) n n) h2 := fun K => mks_ints app25 zero3 (by omega) K
  have kc1 : ∀ (K : Int → H → Option (Value × H)), cpy Try.prog h2 25 (.slice (some ⟨h.nx, 0, none⟩) n n) v K = K 1 (h2.set h.nx (.row (setAt ((List.replicate n (0 : Int)).map iv) 0 ([x].map iv)) 3 true)) := fun K => by
    rw [cpy_row (k := 1) (xs := [x]) (l := List.replicate n 0) b2 hsrc2 hsv (by omega) (by simp; omega) (by simp; omega), show min 1 n = 1 by omega]
    rfl
  rw [setAt_ints _ _ _ (by simp; omega)] at kc1
  let row (i : Nat) : List Int := List.replicate i x ++ List.replicate (n - i) 0
  have hrow1 : (List.replicate n (0 : Int)).take 0 ++ [x] ++ (List.replicate n 0).drop (0 + [x].length) = row 1 := by simp [row]
  rw [hrow1] at kc1
  generalize hH3 : h2.set h.nx (.row ((row 1).map iv) 3 true) = h3 at kc1
  have n3 : h3.nx = h.nx + 1 := by rw [← hH3]; rfl
  have f3 : ∀ q, q < h.nx → h3.blk q = h.blk q := fun q hq => by rw [← hH3, blk_set_ne _ _ _ (by omega)]; exact x2.blk q hq
  have b3 : h3.blk h.nx = some (.row ((row 1).map iv) 3 true) := by rw [← hH3]; exact blk_set_self _ _ _
  -- the rounds
  have rounds : ∃ ws' g, lpGo (f101_l1 rn (n + 2) (.slice (some ⟨h.nx, 0, none⟩) n n)) (n + 2) [iv 1] h3 = some (.exit 0, ws', g) ∧ g.nx = h.nx + 1 ∧ (∀ q, q < h.nx → g.blk q = h.blk q) ∧ g.blk h.nx = some (.row ((row n).map iv) 3 true) := by
    obtain ⟨e, ws', g, hl, rfl, q1, q2, q3⟩ := lpGo_inv (F := f101_l1 rn (n + 2) (.slice (some ⟨h.nx, 0, none⟩) n n))
      (fun d ws g => ∃ i : Nat, ws = [iv i] ∧ 1 ≤ i ∧ i ≤ n ∧ d = n - i ∧ g.nx = h.nx + 1 ∧ (∀ q, q < h.nx → g.blk q = h.blk q) ∧ g.blk h.nx = some (.row ((row i).map iv) 3 true))
      (fun e ws g => e = .exit 0 ∧ g.nx = h.nx + 1 ∧ (∀ q, q < h.nx → g.blk q = h.blk q) ∧ g.blk h.nx = some (.row ((row n).map iv) 3 true))
      (by
        rintro d ws g ⟨i, rfl, hi1, hin, rfl, gn, gf, gb⟩
        by_cases hend : i = n
        · subst hend
          exact ⟨.exit 0, [iv i], g, by simp [f101_l1], .inr ⟨by simp, rfl, gn, gf, gb⟩⟩
        · have hcap : capK n = n := by
            have h30 : (2 : Nat) ^ 30 < U := by decide
            unfold capK; rw [if_pos (by omega)]
          have hnU : n < U := by
            have h30 : (2 : Nat) ^ 30 < U := by decide
            omega
          have s1 : ∀ (K : Value → Option (Ex × List Value × H)), sli Try.prog g 25 (.slice (some ⟨h.nx, 0, none⟩) n n) (some (iv i)) none none K = K (.slice (some ⟨h.nx, i, none⟩) (n - i) (n - i)) := fun K => by
            unfold sli slice
            simp only [under25, gb]
            rw [if_pos ⟨trivial, by omega, rfl⟩]
            simp only [sz3, Option.bind_some, bound, hcap]
            rw [if_pos ⟨by omega, by omega⟩]
            simp only [Option.bind_some]
            rw [if_pos (.inr hnU)]
            simp [show ¬ n = i by omega]
          have s2 : ∀ (K : Value → Option (Ex × List Value × H)), sli Try.prog g 25 (.slice (some ⟨h.nx, 0, none⟩) n n) none (some (iv i)) none K = K (.slice (some ⟨h.nx, 0, none⟩) i n) := fun K => by
            unfold sli slice
            simp only [under25, gb]
            rw [if_pos ⟨trivial, by omega, rfl⟩]
            simp only [sz3, Option.bind_some, bound, hcap]
            rw [if_pos ⟨by omega, by omega⟩]
            simp only [Option.bind_some]
            rw [if_pos (.inr hnU)]
            simp
          have hmin : 0 < min i (n - i) := by omega
          have hsrc : srcCells 1 (.slice (some ⟨h.nx, 0, none⟩) (min i (n - i)) n) g = some ((List.replicate (min i (n - i)) x).map iv) := by
            simp only [srcCells, Nat.mul_one]
            rw [if_neg (by omega)]
            simp only [H.rd, gb]
            rw [if_pos (by simp [row]; omega)]
            rw [List.drop_zero, ← List.map_take]
            congr 2
            simp only [row]
            rw [List.take_append_of_le_length (by simp; omega), List.take_replicate]
            congr 1
            omega
          have kc : ∀ (K : Int → H → Option (Ex × List Value × H)), cpy Try.prog g 25 (.slice (some ⟨h.nx, i, none⟩) (n - i) (n - i)) (.slice (some ⟨h.nx, 0, none⟩) i n) K = K (min i (n - i) : Nat) (g.set h.nx (.row ((row (i + min i (n - i))).map iv) 3 true)) := fun K => by
            rw [cpy_row (k := i) (xs := List.replicate (min i (n - i)) x) (l := row i) gb hsrc rfl hmin (by simp) (by simp [row]; omega), setAt_ints _ _ _ (by simp [row]; omega)]
            have hrow : (row i).take i ++ List.replicate (min i (n - i)) x ++ (row i).drop (i + (List.replicate (min i (n - i)) x).length) = row (i + min i (n - i)) := by
              simp only [row, List.take_append, List.drop_append, List.length_replicate, List.take_replicate, List.drop_replicate, Nat.min_self, Nat.sub_self, Nat.min_zero, Nat.zero_min, List.replicate_zero, List.append_nil]
              rw [show i - (i + min i (n - i)) = 0 by omega, List.replicate_zero, List.nil_append, List.replicate_append_replicate]
              congr 2
              omega
            rw [hrow]
          refine ⟨.normal, [iv ((i + min i (n - i) : Nat) : Int)], g.set h.nx (.row ((row (i + min i (n - i))).map iv) 3 true), ?_, .inl ⟨rfl, n - (i + min i (n - i)), by omega, i + min i (n - i), rfl, by omega, by omega, rfl, ?_, ?_, blk_set_self _ _ _⟩⟩
          · have hadd : add .i64 (i : Int) ((min i (n - i) : Nat) : Int) = ((i + min i (n - i) : Nat) : Int) := by rw [add64 (by omega) (by omega)]; omega
            simp only [f101_l1, gv, List.getD_cons_zero, AM.len, asI_int, lt_t (show (i : Int) < n by omega), ifB, if_true, s1, s2, kc, hadd, out]
          · rw [nx_set]; exact gn
          · intro q hq
            rw [blk_set_ne _ _ _ (by omega)]
            exact gf q hq)
      (n - 1) (n + 2) (by omega) ⟨1, rfl, Nat.le_refl _, h1, rfl, n3, f3, b3⟩
    exact ⟨ws', g, hl, q1, q2, q3⟩
  obtain ⟨ws', g, hl, q1, q2, q3⟩ := rounds
  have hrn : row n = List.replicate n x := by simp [row]
  rw [hrn] at q3
  have ia : IA g h.nx (.slice (some ⟨h.nx, 0, none⟩) n n) (List.replicate n x) := by
    have h30 : (2 : Nat) ^ 30 < U := by decide
    have hcap : capK n = n := by unfold capK; rw [if_pos (by omega)]
    exact ⟨⟨n, by simp, by simp [hcap], by omega⟩, by omega, q3⟩
  refine ⟨.slice (some ⟨h.nx, 0, none⟩) n n, g, h.nx, x101 (k := n + 2) ?_ rfl, ⟨by omega, q2⟩, Nat.le_refl _, rfl, ia⟩
  have hlv : ∀ (K : Int → Option (Value × H)), len v K = K 1 := fun K => by rw [hsv]; rfl
  have w1 : wr .u64 1 = 1 := by decide
  have w2 : wr .u64 (n : Int) = n := u64_small (by omega) (by omega)
  have w3' : wr .i64 (n : Int) = n := wrap64 (by omega) (by omega)
  have c1 := fun (K : Value → H → Option (Value × H)) => calls_eq (K := K) (xs := [_, _]) (s112 (n := n) (by omega) h)
  unfold f101
  rw [lt_f (by omega), ifB_false, hlv, w1, w2, c1, ext20, asI_int, ext21, asI_int, lt_f (by omega), ifB_false, lt_f (by omega), ifB_false, w3', kmk, kc1]
  refine (lp_eq hl).trans ?_
  rw [onE_exit, if_pos rfl]

/-- A call, as arrivals go. -/
def arrG (c : Kl) (A : List Int) : List Int :=
  if A.getD c.a.toNat 0 ≠ -1 ∧ A.getD c.b.toNat 0 = -1 then A.set c.b.toNat c.t
  else if A.getD c.b.toNat 0 ≠ -1 ∧ A.getD c.a.toNat 0 = -1 then A.set c.a.toNat c.t else A

def arr0 (n : Nat) (s : Int) : List Int := (List.replicate n (-1)).set s.toNat 0

def arriveP (n : Nat) (l : List Kl) (s : Int) : List Int := l.foldl (fun A c => arrG c A) (arr0 n s)

theorem arrG_len (c : Kl) (A : List Int) : (arrG c A).length = A.length := by
  unfold arrG
  split
  · simp
  · split <;> simp

theorem s81 {n s : Int} {sl : Value} {l : List Kl} {h : H} (hs : SlR h 56 3 sl (l.map Kl.cells)) (hv : validP n l = true) (hp : 0 ≤ s ∧ s < n) :
    ∃ v h' b, rn 81 #[.agg #[iv n, sl], iv s, iv 0] h = some (v, h') ∧ Ext h h' ∧ h.nx ≤ b ∧ IA h' b v (arriveP n.toNat l s) := by
  obtain ⟨hn1, hn7, hl24, hok⟩ := validP_ok hv
  obtain ⟨m, rfl⟩ := Int.eq_ofNat_of_zero_le (show 0 ≤ n by omega)
  have x1 : Ext h (h.new (.row [iv m, sl] 31 true)) := .new _ _
  have x2 := Ext.new (h.new (.row [iv m, sl] 31 true)) (.row [iv (-1)] 3 true)
  have x12 := x1.trans x2
  have a2 : SlR ((h.new (.row [iv m, sl] 31 true)).new (.row [iv (-1)] 3 true)) 3 1 (.slice (some ⟨h.nx + 1, 0, none⟩) 1 1) (cellsI [-1]) := (AqR.lit (lo := 0) (l := cellsI [-1]) (Nat.zero_le _) rfl (by simp) (by simp)).slR
  obtain ⟨v3, h3, b, e101, x3, hlo, _, ia3⟩ := s101 a2 (show 1 ≤ m by omega) (show m < 2 ^ 20 by omega)
  have hlo' : h.nx + 2 ≤ b := hlo
  have w3' := ia3.wrc (i := s.toNat) (by simp; omega) 0
  have ia4 := ia3.set s.toNat 0
  have hb2 : ((h.new (.row [iv m, sl] 31 true)).new (.row [iv (-1)] 3 true)).blk h.nx = some (.row [iv m, sl] 31 true) := (x2.blk _ (Nat.lt_succ_self _)).trans (blk_new_self _ _)
  have hb3 : h3.blk h.nx = some (.row [iv m, sl] 31 true) := (x3.blk h.nx (by simp only [nx_new]; omega)).trans hb2
  generalize hH4 : h3.set b (.row (((List.replicate m (-1)).set s.toNat 0).map iv) 3 true) = h4 at *
  have x4 : Ext h h4 := by
    rw [← hH4]
    exact (x12.trans x3).set (by omega) _
  have hb4 : h4.blk h.nx = some (.row [iv m, sl] 31 true) := by rw [← hH4, blk_set_ne _ _ _ (by omega)]; exact hb3
  obtain ⟨ws', h', hl, hx, hia, hlen, rfl⟩ := lp_for (F := f81_l1 rn (l.length + 1) 0 v3 sl l.length) (k := l.length + 1) (l := l) (fun _ c (A : List Int) => arrG c A)
    (fun i A ws g => Ext h g ∧ IA g b v3 A ∧ A.length = m ∧ ws = [iv i]) 0 (ws := [iv 0]) (h := h4) (s0 := arr0 m s)
    ⟨x4, ia4, by simp [arr0], rfl⟩ (by omega)
    (by
      rintro A ws g ⟨_, _, _, rfl⟩
      simp [f81_l1])
    (by
      rintro i c A ws g hc ⟨hx, hia, hlen, rfl⟩
      have hil := (List.getElem?_eq_some_iff.1 hc).1
      obtain ⟨ha, hb⟩ := ok_range hv hc
      have y7 := (Ext.refl g).fresh 56 [iv 0, iv 0, iv 0] c.cells
      have hcb := blk_fresh g 56 [iv 0, iv 0, iv 0] c.cells
      have ia7 := hia.ext y7
      have x7 := hx.trans y7
      have hA : A[c.a.toNat]? = some (A.getD c.a.toNat 0) := by simp [show c.a.toNat < A.length by omega]
      have hB : A[c.b.toNat]? = some (A.getD c.b.toNat 0) := by simp [show c.b.toNat < A.length by omega]
      have hadd : add .i64 (i : Int) 1 = (i : Int) + 1 := add64 (by omega) (by omega)
      have z1 : AM.and .i64 (shr .i64 0 c.a) 1 = 0 := by
        obtain ⟨a, hca⟩ := Int.eq_ofNat_of_zero_le ha.1
        rw [hca]
        have := bit_nat (a := 0) (p := a) (by decide) (by omega)
        simpa using this
      have z2 : AM.and .i64 (shr .i64 0 c.b) 1 = 0 := by
        obtain ⟨a, hca⟩ := Int.eq_ofNat_of_zero_le hb.1
        rw [hca]
        have := bit_nat (a := 0) (p := a) (by decide) (by omega)
        simpa using this
      have hF : ∃ g', Ext h g' ∧ IA g' b v3 (arrG c A) ∧ f81_l1 rn (l.length + 1) 0 v3 sl l.length [iv i] g = some (.normal, [iv ((i : Int) + 1)], g') := by
        unfold f81_l1
        rw [show gv [iv i] 0 = iv i from rfl, asI_int, lt_t (by omega), ifB_true, asK_int, (hs.ext hx).ldA ag56 sz56 (by omega) (x := c.cells) (by simp [hc])]
        rw [al_st (zs := [iv 0, iv 0, iv 0]) (xs := c.cells) sz56 rfl rfl]
        generalize g.fresh 56 [iv 0, iv 0, iv 0] c.cells = h7 at *
        simp only [Kl.cells] at hcb
        have gA : ∀ (K : Value → Option (Ex × List Value × H)), (six v3 c.a 1 fun b o => (h7.cell b o).bind K) = K (iv (A.getD c.a.toNat 0)) := fun K => ia7.get ha.1 hA K
        have gB : ∀ (K : Value → Option (Ex × List Value × H)), (six v3 c.b 1 fun b o => (h7.cell b o).bind K) = K (iv (A.getD c.b.toNat 0)) := fun K => ia7.get hb.1 hB K
        have wA := ia7.wrc (i := c.a.toNat) (by omega) c.t
        have wB := ia7.wrc (i := c.b.toNat) (by omega) c.t
        have pA : ∀ (K : H → Option (Ex × List Value × H)), (six v3 c.a 1 fun b o => (wrc 1 h7 b o (.int .i64 c.t)).bind K) = K (h7.set b (.row ((A.set c.a.toNat c.t).map iv) 3 true)) := fun K => by rw [ia7.put ha.1 (by omega), wA]; rfl
        have pB : ∀ (K : H → Option (Ex × List Value × H)), (six v3 c.b 1 fun b o => (wrc 1 h7 b o (.int .i64 c.t)).bind K) = K (h7.set b (.row ((A.set c.b.toNat c.t).map iv) 3 true)) := fun K => by rw [ia7.put hb.1 (by omega), wB]; rfl
        have sA := ia7.set c.a.toNat c.t
        have sB := ia7.set c.b.toNat c.t
        unfold arrG
        generalize hx0 : A.getD c.a.toNat 0 = x at *
        generalize hy0 : A.getD c.b.toNat 0 = y at *
        by_cases h1 : x ≠ -1 ∧ y = -1
        · rw [if_pos h1]
          refine ⟨_, x7.set (by omega) _, sB, ?_⟩
          simp [cell_of hcb, z1, z2, nn_ge ha.1, nn_ge hb.1, gA, gB, pA, pB, h1.1, h1.2, hadd]
        · rw [if_neg h1]
          by_cases h2 : y ≠ -1 ∧ x = -1
          · rw [if_pos h2]
            refine ⟨_, x7.set (by omega) _, sA, ?_⟩
            simp [cell_of hcb, z1, z2, nn_ge ha.1, nn_ge hb.1, gA, gB, pA, pB, h2.1, h2.2, hadd]
          · rw [if_neg h2]
            refine ⟨_, x7, ia7, ?_⟩
            simp [cell_of hcb, z1, z2, nn_ge ha.1, nn_ge hb.1, gA, gB, pA, pB, hadd]
            grind
      obtain ⟨g', q1, q2, q3⟩ := hF
      exact ⟨_, g', q3, q1, q2, by rw [arrG_len]; exact hlen, rfl⟩)
  rw [foldI_foldl] at hia
  refine ⟨v3, h', b, x81 (k := l.length + 1) ?_ hia.slR.notR, hx, by omega, hia⟩
  have c1 := fun (K : Value → H → Option (Value × H)) => calls_eq (K := K) (xs := [_, _]) e101
  have kbls : ∀ (K : Value → H → Option (Value × H)), bls Try.prog (h.new (.row [iv m, sl] 31 true)) 25 1 [(0, .int .i64 (-1))] K = K (.slice (some ⟨h.nx + 1, 0, none⟩) 1 1) ((h.new (.row [iv m, sl] 31 true)).new (.row [iv (-1)] 3 true)) := fun K => bls_some (bls25 (-1) _)
  have p3 : ∀ (K : H → Option (Value × H)), (six v3 s 1 fun b o => (wrc 1 h3 b o (.int .i64 0)).bind K) = K h4 := fun K => by rw [ia3.put hp.1 (by simp; omega), w3']; rfl
  simp [f81, kbls, c1, p3, cell_of hb4, hs.len, lp_eq hl]

theorem s45 {n s : Int} {sl : Value} {l : List Kl} {h : H} (hs : SlR h 56 3 sl (l.map Kl.cells)) (hv : validP n l = true) (hp : 0 ≤ s ∧ s < n) :
    ∃ v h' b, rn 45 #[.agg #[iv n, sl], iv s] h = some (.tuple #[v, iv 0], h') ∧ Ext h h' ∧ h.nx ≤ b ∧ IA h' b v (arriveP n.toNat l s) := by
  have x1 : Ext h (h.new (.row [iv n, sl] 31 true)) := .new _ _
  obtain ⟨v, h', b, e, x, hlo, ia⟩ := s81 (hs.ext x1) hv hp
  have c1 := fun (K : Value → H → Option (Value × H)) => calls_eq (K := K) (xs := [_, _, _]) e
  refine ⟨v, h', b, x45 (k := 0) ?_ ia.slR.notR2, x1.trans x, Nat.le_trans x1.nx hlo, ia⟩
  simp [f45, k71 (hs.ext x1), hv, hp, c1]

end Go.AM

end

section

/- PLAIN: the log backward. -/
namespace Go.AM
def turnK (c : Kl) : Kl := ⟨c.a, c.b, 31 - c.t⟩

/-- Calls by their times, each time's calls in order. -/
def bktT (T : List Tg) : List Tg := (List.range 30).flatMap fun (x : Nat) => T.filter fun y => decide (y.1.t = ((x + 1 : Nat) : Int))

def bkt (L : List Kl) : List Kl := (List.range 30).flatMap fun (x : Nat) => L.filter fun y => decide (y.t = ((x + 1 : Nat) : Int))

theorem srt_flat {T : List Tg} (hi : IncT T) : ∀ n : Nat, Srt ((List.range n).flatMap fun (x : Nat) => T.filter fun y => decide (y.1.t = ((x + 1 : Nat) : Int)))
  | 0 => List.Pairwise.nil
  | n + 1 => by
    rw [List.range_succ, List.flatMap_append, srt_append]
    refine ⟨srt_flat hi n, ?_, ?_⟩
    · simp only [List.flatMap_cons, List.flatMap_nil, List.append_nil]
      have h1 : (T.filter fun y => decide (y.1.t = ((n + 1 : Nat) : Int))).Pairwise fun x y => x.2 < y.2 := List.Pairwise.filter _ hi
      refine h1.imp_of_mem fun {x y} hx hy h => ?_
      simp at hx hy
      unfold ltT
      omega
    · intro x hx y hy
      simp at hx hy
      unfold ltT
      omega

theorem flat_perm {α : Type} (f : α → Int) (T : List α) : ∀ n : Nat, ((List.range n).flatMap fun (x : Nat) => T.filter fun y => decide (f y = ((x + 1 : Nat) : Int))).Perm (T.filter fun y => decide (1 ≤ f y ∧ f y ≤ n))
  | 0 => by
    have : (T.filter fun y => decide (1 ≤ f y ∧ f y ≤ ((0 : Nat) : Int))) = [] := by
      rw [List.filter_eq_nil_iff]; intro x _; simp; omega
    rw [this]; exact .refl _
  | n + 1 => by
    rw [List.range_succ, List.flatMap_append]
    refine ((flat_perm f T n).append_right _).trans ?_
    simp only [List.flatMap_cons, List.flatMap_nil, List.append_nil]
    induction T with
    | nil => exact .refl _
    | cons a T ih =>
      simp only [List.filter_cons]
      by_cases h1 : 1 ≤ f a ∧ f a ≤ n
      · rw [if_pos (by simpa using h1), if_neg (by simp; omega), if_pos (by simp; omega)]
        exact ih.cons a
      · rw [if_neg (by simpa using h1)]
        by_cases h2 : f a = ((n + 1 : Nat) : Int)
        · rw [if_pos (by simpa using h2), if_pos (by simp; omega)]
          exact List.perm_middle.trans (ih.cons a)
        · rw [if_neg (by simpa using h2), if_neg (by simp; omega)]
          exact ih

theorem filter_all {α : Type} {T : List α} {f : α → Int} (h : ∀ y ∈ T, 1 ≤ f y ∧ f y ≤ 30) : (T.filter fun y => decide (1 ≤ f y ∧ f y ≤ ((30 : Nat) : Int))) = T :=
  List.filter_eq_self.2 fun y hy => by simpa using h y hy

theorem bktT_perm {T : List Tg} (h : ∀ y ∈ T, 1 ≤ y.1.t ∧ y.1.t ≤ 30) : T.Perm (bktT T) := by
  have := flat_perm (fun y : Tg => y.1.t) T 30
  rw [filter_all h] at this
  exact this.symm

theorem fsts_flat (T : List Tg) (n : Nat) : fsts ((List.range n).flatMap fun (x : Nat) => T.filter fun y => decide (y.1.t = ((x + 1 : Nat) : Int))) = (List.range n).flatMap fun (x : Nat) => (fsts T).filter fun y => decide (y.t = ((x + 1 : Nat) : Int)) := by
  unfold fsts
  rw [List.map_flatMap]
  congr 1
  funext x
  rw [List.filter_map]
  rfl

/-- What sorting gives. -/
theorem sorted_bkt {L : List Kl} {S : List Tg} (h : ∀ y ∈ L, 1 ≤ y.t ∧ y.t ≤ 30) (p : (tagK L).Perm S) (s : Srt S) : fsts S = bkt L := by
  have hT : ∀ y ∈ tagK L, 1 ≤ y.1.t ∧ y.1.t ≤ 30 := fun y hy => h y.1 (by
    have := List.mem_map_of_mem (f := Prod.fst) hy
    rw [show (tagK L).map Prod.fst = L from fsts_tag L] at this; exact this)
  have h1 : Srt (bktT (tagK L)) := srt_flat (inc_tag L) 30
  have h2 : S = bktT (tagK L) := srt_eq s h1 (p.symm.trans (bktT_perm hT))
  rw [h2]
  have := fsts_flat (tagK L) 30
  rw [fsts_tag] at this
  exact this

def turnP (L : List Kl) : List Kl := bkt (L.map turnK)

/-! ### Valid logs -/
/-- No two calls at one time share a person. -/
def apartK (c d : Kl) : Prop := c.t ≤ d.t ∧ (c.t = d.t → c.a ≠ d.a ∧ c.a ≠ d.b ∧ c.b ≠ d.a ∧ c.b ≠ d.b)

structure VP (n : Int) (l : List Kl) : Prop where
  n1 : 1 ≤ n
  n7 : n ≤ 7
  len : l.length ≤ 24
  ok : ∀ c ∈ l, okC n c = true
  two : l.Pairwise apartK

theorem clash_f {c d : Kl} : clash c d = false ↔ (d.t = c.t → d.a ≠ c.a ∧ d.a ≠ c.b ∧ d.b ≠ c.a ∧ d.b ≠ c.b) := by
  unfold clash Kl.has
  simp
  constructor
  · intro h e
    have := h e
    grind
  · intro h e
    have := h e
    grind

theorem vp_iff {n : Int} {l : List Kl} : validP n l = true ↔ VP n l := by
  constructor
  · intro h
    obtain ⟨h1, h2, h3, h4⟩ := validP_ok h
    refine ⟨h1, h2, by omega, fun c hc => ?_, ?_⟩
    · obtain ⟨i, hi⟩ := List.getElem?_of_mem hc
      have := h4 i c hi
      first | exact this | exact this.1
    · rw [List.pairwise_iff_getElem]
      intro i j hi hj hij
      obtain ⟨q1, q2⟩ := validP_sorted h hij (List.getElem?_eq_getElem hi) (List.getElem?_eq_getElem hj)
      exact ⟨q1, fun e => (clash_f.1 q2) e⟩
  · rintro ⟨h1, h2, h3, h4, h5⟩
    unfold validP
    simp only [Bool.and_eq_true, Bool.not_eq_true', decide_eq_false_iff_not, Int.not_lt, List.all_eq_true, List.mem_range]
    refine ⟨⟨⟨h1, h2⟩, by omega⟩, fun i hi => ?_⟩
    unfold rowOk
    rw [List.getElem?_eq_getElem hi]
    simp only [Bool.and_eq_true, Bool.not_eq_true']
    refine ⟨⟨h4 _ (List.getElem_mem hi), ?_⟩, ?_⟩
    · by_cases h0 : 0 < i
      · have h6 : i - 1 < l.length := by omega
        have := (List.pairwise_iff_getElem.1 h5 (i - 1) i h6 hi (by omega)).1
        simp [h6]
        omega
      · simp [h0]
    · rw [List.any_eq_false]
      intro d hd
      obtain ⟨j, hj⟩ := List.getElem?_of_mem hd
      have hji : j < i := by have := (List.getElem?_eq_some_iff.1 hj).1; rw [List.length_take] at this; omega
      rw [List.getElem?_take_of_lt hji] at hj
      obtain ⟨hj1, rfl⟩ := List.getElem?_eq_some_iff.1 hj
      have := (List.pairwise_iff_getElem.1 h5 j i hj1 hi hji).2
      rw [Bool.not_eq_true, clash_f]
      exact this

theorem mem_bkt {L : List Kl} {c : Kl} (h : c ∈ bkt L) : c ∈ L := by
  unfold bkt at h
  rw [List.mem_flatMap] at h
  obtain ⟨x, _, h⟩ := h
  exact (List.mem_filter.1 h).1

theorem bkt_perm {L : List Kl} (h : ∀ y ∈ L, 1 ≤ y.t ∧ y.t ≤ 30) : (bkt L).Perm L := by
  have := flat_perm (fun y : Kl => y.t) L 30
  rw [filter_all h] at this
  exact this

theorem ok_t {n : Int} {c : Kl} (h : okC n c = true) : 1 ≤ c.t ∧ c.t ≤ 30 := (okC_iff.1 h).2.2.2

theorem ok_turn {n : Int} {c : Kl} (h : okC n c = true) : okC n (turnK c) = true := by
  rw [okC_iff] at *
  simp only [turnK]
  omega

theorem VP.tOk {n : Int} {l : List Kl} (v : VP n l) : ∀ y ∈ l.map turnK, 1 ≤ y.t ∧ y.t ≤ 30 := by
  intro y hy
  obtain ⟨x, hx, rfl⟩ := List.mem_map.1 hy
  exact ok_t (ok_turn (v.ok x hx))

/-- Calls of different places are apart if their times are the same. -/
theorem two_flat {L : List Kl} (h : L.Pairwise fun c d => c.t = d.t → c.a ≠ d.a ∧ c.a ≠ d.b ∧ c.b ≠ d.a ∧ c.b ≠ d.b) : ∀ n : Nat, ((List.range n).flatMap fun (x : Nat) => L.filter fun y => decide (y.t = ((x + 1 : Nat) : Int))).Pairwise apartK
  | 0 => List.Pairwise.nil
  | n + 1 => by
    rw [List.range_succ, List.flatMap_append, List.pairwise_append]
    refine ⟨two_flat h n, ?_, ?_⟩
    · simp only [List.flatMap_cons, List.flatMap_nil, List.append_nil]
      have h1 := List.Pairwise.filter (fun y : Kl => decide (y.t = ((n + 1 : Nat) : Int))) h
      refine h1.imp_of_mem fun {x y} hx hy h => ?_
      simp at hx hy
      exact ⟨by omega, h⟩
    · intro x hx y hy
      simp at hx hy
      exact ⟨by omega, fun e => by omega⟩

theorem VP.turn {n : Int} {l : List Kl} (v : VP n l) : VP n (turnP l) := by
  refine ⟨v.n1, v.n7, ?_, fun c hc => ?_, ?_⟩
  · have := (bkt_perm v.tOk).length_eq
    rw [List.length_map] at this
    have := v.len
    unfold turnP
    omega
  · obtain ⟨x, hx, rfl⟩ := List.mem_map.1 (mem_bkt hc)
    exact ok_turn (v.ok x hx)
  · refine two_flat ?_ 30
    rw [List.pairwise_map]
    exact v.two.imp fun {c d} h e => h.2 (by simp only [turnK] at e; omega)

theorem turnP_len {n : Int} {l : List Kl} (v : VP n l) : (turnP l).length = l.length := by
  have := (bkt_perm v.tOk).length_eq
  rw [List.length_map] at this
  exact this

end Go.AM

end

section

/- PLAIN: arrivals, and the latest times to leave. -/
namespace Go.AM
theorem gD_set (A : List Int) (i j : Nat) (x : Int) : (A.set i x).getD j 0 = if i = j ∧ i < A.length then x else A.getD j 0 := by
  simp only [List.getD_eq_getElem?_getD, List.getElem?_set]
  by_cases h : i = j
  · subst h
    by_cases h2 : i < A.length
    · simp [h2]
    · simp [h2]
  · simp [h]

/-! ### Arrivals, as the statement counts them -/
def arrS (c : Kl) (A : List Int) : List Int :=
  if 0 ≤ A.getD c.a.toNat 0 ∧ A.getD c.a.toNat 0 < c.t ∧ A.getD c.b.toNat 0 < 0 then A.set c.b.toNat c.t
  else if 0 ≤ A.getD c.b.toNat 0 ∧ A.getD c.b.toNat 0 < c.t ∧ A.getD c.a.toNat 0 < 0 then A.set c.a.toNat c.t else A

/-- Each has arrived at first, or by a call that was. -/
def ArrI (n : Int) (pre : List Kl) (A : List Int) : Prop :=
  (A.length : Int) = n ∧ ∀ p : Int, 0 ≤ p → p < n → A.getD p.toNat 0 = -1 ∨ A.getD p.toNat 0 = 0 ∨ ∃ d ∈ pre, (d.a = p ∨ d.b = p) ∧ A.getD p.toNat 0 = d.t

theorem arr_step {n : Int} {pre : List Kl} {A : List Int} {c : Kl} (h : ArrI n pre A) (hc : okC n c = true) (hp : ∀ d ∈ pre, 1 ≤ d.t ∧ apartK d c) : arrG c A = arrS c A ∧ ArrI n (pre ++ [c]) (arrG c A) := by
  obtain ⟨ha, hb, hab, ht1, ht2⟩ := okC_iff.1 hc
  obtain ⟨hl, hI⟩ := h
  have key : ∀ p : Int, 0 ≤ p → p < n → (c.a = p ∨ c.b = p) → (A.getD p.toNat 0 = -1 ∨ (0 ≤ A.getD p.toNat 0 ∧ A.getD p.toNat 0 < c.t)) := by
    intro p h0 h1 hcp
    rcases hI p h0 h1 with h | h | ⟨d, hd, hdp, h⟩
    · exact .inl h
    · exact .inr (by omega)
    · right
      obtain ⟨q1, q2, q3⟩ := hp d hd
      have : d.t ≠ c.t := fun e => by
        obtain ⟨z1, z2, z3, z4⟩ := q3 e
        rcases hdp with h5 | h5 <;> rcases hcp with h6 | h6 <;> omega
      omega
  have hA := key c.a ha.1 ha.2 (.inl rfl)
  have hB := key c.b hb.1 hb.2 (.inr rfl)
  have e1 : arrG c A = arrS c A := by
    clear hI key
    unfold arrG arrS
    generalize A.getD c.a.toNat 0 = x at *
    generalize A.getD c.b.toNat 0 = y at *
    by_cases h1 : x ≠ -1 ∧ y = -1
    · rw [if_pos h1, if_pos (show 0 ≤ x ∧ x < c.t ∧ y < 0 by omega)]
    · rw [if_neg h1, if_neg (show ¬ (0 ≤ x ∧ x < c.t ∧ y < 0) by omega)]
      by_cases h2 : y ≠ -1 ∧ x = -1
      · rw [if_pos h2, if_pos (show 0 ≤ y ∧ y < c.t ∧ x < 0 by omega)]
      · rw [if_neg h2, if_neg (show ¬ (0 ≤ y ∧ y < c.t ∧ x < 0) by omega)]
  refine ⟨e1, by rw [arrG_len]; exact hl, fun p h0 h1 => ?_⟩
  have old : A.getD p.toNat 0 = -1 ∨ A.getD p.toNat 0 = 0 ∨ ∃ d ∈ pre ++ [c], (d.a = p ∨ d.b = p) ∧ A.getD p.toNat 0 = d.t := by
    rcases hI p h0 h1 with h | h | ⟨d, hd, h⟩
    · exact .inl h
    · exact .inr (.inl h)
    · exact .inr (.inr ⟨d, List.mem_append_left _ hd, h⟩)
  unfold arrG
  split
  · rw [gD_set]
    split
    · exact .inr (.inr ⟨c, by simp, .inr (by omega), rfl⟩)
    · exact old
  · split
    · rw [gD_set]
      split
      · exact .inr (.inr ⟨c, by simp, .inl (by omega), rfl⟩)
      · exact old
    · exact old

theorem arr_fold {n : Int} : ∀ (l pre : List Kl) (A : List Int), ArrI n pre A → (∀ c ∈ l, okC n c = true) → (∀ d ∈ pre, 1 ≤ d.t) → (∀ d ∈ pre, ∀ c ∈ l, apartK d c) → l.Pairwise apartK →
    l.foldl (fun A c => arrG c A) A = l.foldl (fun A c => arrS c A) A
  | [], _, _, _, _, _, _, _ => rfl
  | c :: l, pre, A, hI, hok, h1, hp, hw => by
    rw [List.pairwise_cons] at hw
    have hc := hok c List.mem_cons_self
    obtain ⟨e, hI'⟩ := arr_step hI hc fun d hd => ⟨h1 d hd, hp d hd c List.mem_cons_self⟩
    rw [List.foldl_cons, List.foldl_cons, ← e]
    refine arr_fold l (pre ++ [c]) _ hI' (fun c hc => hok c (List.mem_cons_of_mem _ hc)) (fun d hd => ?_) (fun d hd c' hc' => ?_) hw.2
    · rcases List.mem_append.1 hd with hd | hd
      · exact h1 d hd
      · rw [List.mem_singleton.1 hd]; exact (ok_t hc).1
    · rcases List.mem_append.1 hd with hd | hd
      · exact hp d hd c' (List.mem_cons_of_mem _ hc')
      · rw [List.mem_singleton.1 hd]; exact hw.1 c' hc'

theorem arr0_inv {n s : Int} (hn : 0 ≤ n) (hs : 0 ≤ s ∧ s < n) : ArrI n [] (arr0 n.toNat s) := by
  refine ⟨by simp [arr0]; omega, fun p h0 h1 => ?_⟩
  unfold arr0
  rw [gD_set]
  split
  · exact .inr (.inl rfl)
  · left
    simp [show p.toNat < n.toNat by omega]

/-- Both count the same. -/
theorem arrive_same {n s : Int} {l : List Kl} (v : VP n l) (hs : 0 ≤ s ∧ s < n) : arriveP n.toNat l s = l.foldl (fun A c => arrS c A) (arr0 n.toNat s) :=
  arr_fold l [] _ (arr0_inv (by have := v.n1; omega) hs) v.ok (fun _ h => by simp at h) (fun _ h => by simp at h) v.two

/-! ### Calls at one time -/
def backK (l : List Kl) : List Kl := (l.map turnK).reverse

theorem VP.back {n : Int} {l : List Kl} (v : VP n l) : VP n (backK l) := by
  refine ⟨v.n1, v.n7, by unfold backK; simp; exact v.len, fun c hc => ?_, ?_⟩
  · unfold backK at hc
    rw [List.mem_reverse] at hc
    obtain ⟨x, hx, rfl⟩ := List.mem_map.1 hc
    exact ok_turn (v.ok x hx)
  · unfold backK
    rw [List.pairwise_reverse, List.pairwise_map]
    refine v.two.imp fun {c d} h => ⟨by simp only [turnK]; have := h.1; omega, fun e => ?_⟩
    obtain ⟨z1, z2, z3, z4⟩ := h.2 (by simp only [turnK] at e; omega)
    exact ⟨Ne.symm z1, Ne.symm z3, Ne.symm z2, Ne.symm z4⟩

/-! ### The latest times to leave -/
def phi (x : Int) : Int := if x ≠ -1 then 31 - x else x

end Go.AM

end

section

/- Gossip, on the abstract machine. -/
namespace Go.AM
open Go.Proofs
variable {k : Nat} {R : Type}
attribute [local simp] nx_eq nx_new nx_set blk_new blk_set asI_int asK_int asB_bool asP_ptr al_eq bx_eq len_slice onE_exit onE_ret onR_ret Value.cells d3 d29 d31 d56 d24 d59 d22 d25 w3 cell_new cell_set rd_new rd_set off eq lt le ifB gv out eqF1 eqF2 eqF3 eqF4 eqF5 eqF6 eqF7 eqF8 ext20 ext21 k42 kbld31 kbld56 k22
/-- One call more, at the next time. -/
def addC (L : List Kl) (a b : Int) : List Kl := L ++ [⟨a, b, (L.length : Int) + 1⟩]

/-- What gossip holds while it is made. -/
structure GS (h0 : H) (lo : Nat) (g : H) (tb lb : Nat) (n : Int) (L : List Kl) : Prop where
  fr : Fr lo h0 g
  tbl : lo ≤ tb ∧ tb < g.nx
  lbl : lo ≤ lb ∧ lb < g.nx
  ne : tb ≠ lb
  tb_ : g.blk tb = some (.row [iv L.length] 3 true)
  sl : ∃ sv, g.blk lb = some (.row [iv n, sv] 31 true) ∧ AqR lo g 56 3 sv (L.map Kl.cells)

theorem s100 {h0 g : H} {lo tb lb : Nat} {n a b : Int} {L : List Kl} (gs : GS h0 lo g tb lb n L) (hL : L.length < 1000) (hlo : lo ≤ g.nx) :
    ∃ g', rn 100 #[iv a, iv b, pt tb 0, pt lb 0] g = some (undef, g') ∧ GS h0 lo g' tb lb n (addC L a b) ∧ g.nx ≤ g'.nx ∧ (∀ q, q < g.nx → q ≠ tb → q ≠ lb → (∀ c, g.blk q ≠ some (.row c 56 true)) → g'.blk q = g.blk q) := by
  obtain ⟨fr, tbl, lbl, ne, htb, sv, hlb, hap⟩ := gs
  have ht : wrc 1 g tb 0 (iv ((L.length : Int) + 1)) = some (g.set tb (.row [iv ((L.length : Int) + 1)] 3 true)) := by
    rw [wrc_one htb rfl rfl (by simp)]; rfl
  have a1 : AqR lo (g.set tb (.row [iv ((L.length : Int) + 1)] 3 true)) 56 3 sv (L.map Kl.cells) := hap.keep (Nat.le_refl _) fun q hq => blk_set_ne _ _ _ (by
    intro e; subst e
    have := (hap.blkOf hq).2.2
    rw [htb] at this
    simp at this)
  obtain ⟨v', h9, e9, a9, n9, k9, b9, hb9, hb9'⟩ := a1.push app29 app29 (bls29 ⟨a, b, (L.length : Int) + 1⟩) rfl rfl (by simp; omega) hlo
  have svt : blkOf sv ≠ some tb := fun e => by have := (hap.blkOf e).2.2; rw [htb] at this; simp at this
  have svl : blkOf sv ≠ some lb := fun e => by have := (hap.blkOf e).2.2; rw [hlb] at this; simp at this
  have hlb9 : h9.blk lb = some (.row [iv n, sv] 31 true) := (k9 lb lbl.2 svl).trans ((blk_set_ne _ _ _ (Ne.symm ne)).trans hlb)
  have htb9 : h9.blk tb = some (.row [iv ((L.length : Int) + 1)] 3 true) := (k9 tb tbl.2 svt).trans (blk_set_self _ _ _)
  have hw : wrc 1 h9 lb 1 v' = some (h9.set lb (.row [iv n, v'] 31 true)) := by rw [wrc_one hlb9 a9.cells.1 a9.cells.2 (by simp)]; rfl
  have n9' : g.nx ≤ h9.nx := n9
  refine ⟨h9.set lb (.row [iv n, v'] 31 true), x100 (k := 0) ?_ rfl, ⟨⟨?_, fun q hq => ?_⟩, ⟨tbl.1, ?_⟩, ⟨lbl.1, ?_⟩, ne, ?_, v', blk_set_self _ _ _, ?_⟩, n9', fun q hq h1 h2 h3 => ?_⟩
  · have hcl : ∀ o, g.cell tb o = [iv (L.length : Int)][o]? := fun o => cell_of htb
    have hcs : ∀ o, g.cell lb o = [iv n, sv][o]? := fun o => cell_of hlb
    have hadd : add .i64 (L.length : Int) 1 = (L.length : Int) + 1 := add64 (by omega) (by omega)
    simp [f100, hcl, hcs, hadd, ht, Ne.symm ne, ne, e9, w29, hw]
  · have := fr.nx; rw [nx_set]; omega
  · rw [blk_set_ne _ _ _ (by omega), k9 q (by rw [nx_set]; omega) (fun e => by have := (hap.blkOf e).1; omega), blk_set_ne _ _ _ (by omega)]
    exact fr.blk q hq
  · rw [nx_set]; omega
  · rw [nx_set]; omega
  · rw [blk_set_ne _ _ _ ne]
    simpa [addC] using htb9
  · have : (addC L a b).map Kl.cells = L.map Kl.cells ++ [[iv a, iv b, iv ((L.length : Int) + 1)]] := by simp [addC, Kl.cells]
    rw [this]
    exact a9.keep (by rw [nx_set]; exact Nat.le_refl _) fun q hq => blk_set_ne _ _ _ (by rw [hb9] at hq; cases hq; rw [nx_set] at hb9'; omega)
  · rw [blk_set_ne _ _ _ h2, k9 q hq (fun e => h3 _ (hap.blkOf e).2.2), blk_set_ne _ _ _ h1]

/-- Calls in a row, from the first person. -/
def chainP (m : Nat) : List Kl := (List.range m).foldl (fun L (i : Nat) => addC L ((i : Int) + 1 - 1) ((i : Int) + 1)) []

def starP (L : List Kl) (m : Nat) : List Kl := (List.range m).foldl (fun L (i : Nat) => addC L 0 ((i : Int) + 4)) L

def gossipP (n : Nat) : List Kl :=
  if n < 4 then (if n = 3 then addC (chainP (n - 1)) 0 1 else chainP (n - 1))
  else starP (addC (addC (addC (addC (starP [] (n - 4)) 0 1) 2 3) 0 2) 1 3) (n - 4)

theorem addC_len (L : List Kl) (a b : Int) : (addC L a b).length = L.length + 1 := by simp [addC]

theorem chain_len (m : Nat) : (chainP m).length = m := by
  induction m with
  | zero => rfl
  | succ m ih => unfold chainP at *; rw [List.range_succ, List.foldl_append]; simp only [List.foldl_cons, List.foldl_nil]; rw [addC_len, ih]

theorem star_len (L : List Kl) (m : Nat) : (starP L m).length = L.length + m := by
  induction m with
  | zero => rfl
  | succ m ih => unfold starP at *; rw [List.range_succ, List.foldl_append]; simp only [List.foldl_cons, List.foldl_nil]; rw [addC_len, ih]; omega

theorem s76 {n : Nat} (hn1 : 1 ≤ n) (hn : n ≤ 7) (h : H) : ∃ sv h', rn 76 #[iv n] h = some (.agg #[iv n, sv], h') ∧ Ext h h' ∧ AqR h.nx h' 56 3 sv ((gossipP n).map Kl.cells) := by
  let z31 : List Value := [.int .i64 0, .slice none 0 0]
  let h1 := h.new (.row z31 31 true)
  let h3 := h1.fresh 31 z31 [.int .i64 n, .slice none 0 0]
  let h5 := h3.fresh 3 [iv 0] [iv 0]
  have n5 : h5.nx = h.nx + 3 := rfl
  have x5 : Ext h h5 := (((Ext.refl h).new' _).fresh _ _ _).fresh _ _ _
  have g0 : h5.blk h.nx = some (.row z31 31 true) := by simp [h5, h3, h1, H.fresh]
  have g1 : h5.blk (h.nx + 1) = some (.row [.int .i64 n, .slice none 0 0] 31 true) := by simp [h5, h3, h1, H.fresh]
  have g2 : h5.blk (h.nx + 2) = some (.row [iv 0] 3 true) := by simp [h5, h3, h1, H.fresh]
  have gs5 : GS h h.nx h5 (h.nx + 2) (h.nx + 1) n [] := ⟨⟨x5.nx, x5.blk⟩, ⟨by omega, by omega⟩, ⟨by omega, by omega⟩, by omega, g2, _, g1, .nil⟩
  -- what is known all along
  let Inv : List Kl → H → Prop := fun L g => GS h h.nx g (h.nx + 2) (h.nx + 1) n L ∧ g.blk h.nx = some (.row z31 31 true) ∧ h.nx + 3 ≤ g.nx
  have i5 : Inv [] h5 := ⟨gs5, g0, by omega⟩
  have call : ∀ (L : List Kl) (g : H) (a b : Int), Inv L g → L.length < 1000 → ∃ g', rn 100 #[iv a, iv b, pt (h.nx + 2) 0, pt (h.nx + 1) 0] g = some (undef, g') ∧ Inv (addC L a b) g' := by
    intro L g a b ⟨gs, gz, gn⟩ hL
    obtain ⟨g', e, gs', hn', f'⟩ := s100 (a := a) (b := b) gs hL (by omega)
    exact ⟨g', e, gs', (f' h.nx (by omega) (by omega) (by omega) (by intro c e; rw [gz] at e; simp at e)).trans gz, by omega⟩
  have fin : ∀ (L : List Kl) (g : H), Inv L g → ∃ sv h', Ext h h' ∧ AqR h.nx h' 56 3 sv (L.map Kl.cells) ∧ ((g.rd (h.nx + 1) 0 2).bind fun l => (wrc 2 g h.nx 0 (.agg l.toArray)).bind fun h10 => (h10.rd h.nx 0 2).bind fun l => some (Value.agg l.toArray, h10)) = some (.agg #[iv n, sv], h') := by
    intro L g ⟨gs, gz, gn⟩
    obtain ⟨fr, tbl, lbl, ne, htb, sv, hlb, hap⟩ := gs
    have hst : wrc 2 g h.nx 0 (.agg #[iv n, sv]) = some (g.set h.nx (.row [iv n, sv] 31 true)) := by
      simp only [wrc, gz]
      rw [if_pos ⟨rfl, by simp [z31], by simp [Value.cells, hap.cells.2]; rfl⟩]
      rfl
    refine ⟨sv, g.set h.nx (.row [iv n, sv] 31 true), ⟨by rw [nx_set]; exact fr.nx, fun q hq => by rw [blk_set_ne _ _ _ (by omega)]; exact fr.blk q hq⟩, hap.keep (Nat.le_refl _) fun q hq => blk_set_ne _ _ _ (by intro e; subst e; have := (hap.blkOf hq).2.2; rw [gz] at this; simp at this), ?_⟩
    rw [rd_all (n := 2) hlb rfl, Option.bind_some]
    rw [show ([iv (n : Int), sv].toArray) = #[iv (n : Int), sv] from rfl, hst, Option.bind_some, rd_all (n := 2) (blk_set_self _ _ _) rfl]
    rfl
  have hF : ∃ sv h' k, f76 rn k n h = some (.agg #[iv n, sv], h') ∧ Ext h h' ∧ AqR h.nx h' 56 3 sv ((gossipP n).map Kl.cells) := by
    have loop : ∀ (F : List Value → H → Option (Ex × List Value × H)) (oj : Nat) (st : Int) (m : Nat) (ab : Nat → List Kl → List Kl) (L0 : List Kl) (g0 : H), m ≤ 10 → L0.length ≤ 20 → Inv L0 g0 → (∀ i L, (ab i L).length = L.length + 1) →
        (∀ (i : Nat) (L : List Kl) (g : H), i < m → Inv L g → L.length < 1000 → ∃ g', F [iv (st + i)] g = some (.normal, [iv (st + i + 1)], g') ∧ Inv (ab i L) g') → (∀ g, F [iv (st + m)] g = some (.exit oj, [iv (st + m)], g)) →
        ∃ ws' h', lpGo F 100 [iv st] g0 = some (.exit oj, ws', h') ∧ Inv ((List.range m).foldl (fun L i => ab i L) L0) h' := by
      intro F oj st m ab L0 g0 hm hL0 hi0 hlen hstep hfin
      obtain ⟨ws', h', e, hi, _⟩ := lp_for (F := F) (k := 100) (l := List.range m) (fun _ x => ab x) (fun i L ws g => Inv L g ∧ L.length = L0.length + i ∧ ws = [iv (st + i)]) oj (ws := [iv st]) (h := g0) (s0 := L0)
        ⟨hi0, rfl, by simp⟩ (by simp; omega)
        (by
          rintro L ws g ⟨hi, hl, rfl⟩
          rw [List.length_range]
          exact hfin g)
        (by
          rintro i c L ws g hc ⟨hi, hl, rfl⟩
          have him : i < m := by simpa using (List.getElem?_eq_some_iff.1 hc).1
          obtain rfl : c = i := by
            rw [List.getElem?_range him] at hc
            exact (Option.some.inj hc).symm
          obtain ⟨g', e, hi'⟩ := hstep c L g him hi (by omega)
          exact ⟨_, g', e, hi', by rw [hlen]; omega, by rw [show st + ((c + 1 : Nat) : Int) = st + c + 1 by omega]⟩)
      rw [foldI_foldl] at hi
      exact ⟨ws', h', e, hi⟩
    have hh1 : h1.nx = h.nx + 1 := rfl
    have hh3 : h3.nx = h.nx + 2 := rfl
    have kc : ∀ {L : List Kl} {g : H} {a b : Int} {g' : H}, rn 100 #[iv a, iv b, pt (h.nx + 2) 0, pt (h.nx + 1) 0] g = some (undef, g') → ∀ {R : Type} (K : Value → H → Option R), calls rn g 100 [.int .i64 a, .int .i64 b, pt (h.nx + 2) 0, pt (h.nx + 1) 0] K = K undef g' := fun e _ K => calls_eq e
    by_cases h4 : n < 4
    · obtain ⟨ws1, g1, e1, i1⟩ := loop (f76_l1 rn 100 n h1 h3) 0 1 (n - 1) (fun i L => addC L ((i : Int) + 1 - 1) ((i : Int) + 1)) [] h5 (by omega) (by simp) i5 (fun _ _ => addC_len _ _ _)
        (fun i L g him hi hL => by
          obtain ⟨g', e, hi'⟩ := call L g ((i : Int) + 1 - 1) ((i : Int) + 1) hi hL
          refine ⟨g', ?_, hi'⟩
          have hs : sub .i64 (1 + (i : Int)) 1 = (i : Int) + 1 - 1 := by rw [sub64 (by omega) (by omega)]; omega
          have ha : add .i64 (1 + (i : Int)) 1 = 1 + (i : Int) + 1 := add64 (by omega) (by omega)
          rw [show (i : Int) + 1 = 1 + (i : Int) by omega] at e hs
          simp only [f76_l1, gv, List.getD_cons_zero, asI_int, lt_t (show 1 + (i : Int) < n by omega), ifB, if_true, hs, nx_eq, hh1, hh3, kc (L := L) e, ha, out])
        (fun g => by simp [f76_l1, show ¬ (1 + ((n - 1 : Nat) : Int) < n) by omega])
      rw [show (List.range (n - 1)).foldl (fun L (i : Nat) => addC L ((i : Int) + 1 - 1) ((i : Int) + 1)) [] = chainP (n - 1) from rfl] at i1
      have head : f76 rn 100 n h = (if n = 3 then (calls rn g1 100 [.int .i64 0, .int .i64 1, pt (h.nx + 2) 0, pt (h.nx + 1) 0] fun v2 h9 => (h9.rd (h.nx + 1) 0 2).bind fun l => (wrc 2 h9 h.nx 0 (.agg l.toArray)).bind fun h10 => (h10.rd h.nx 0 2).bind fun l => some (Value.agg l.toArray, h10)) else
          ((g1.rd (h.nx + 1) 0 2).bind fun l => (wrc 2 g1 h.nx 0 (.agg l.toArray)).bind fun h10 => (h10.rd h.nx 0 2).bind fun l => some (Value.agg l.toArray, h10))) := by
        unfold f76
        rw [al_eq, kbld31, al_st (zs := z31) (xs := [.int .i64 n, .slice none 0 0]) sz31 rfl rfl, al_st1 (v := iv 0) sz3 rfl rfl]
        rw [lt_t (show (n : Int) < 4 by omega), ifB_true, show H.fresh (H.fresh (h.new (.row [.int .i64 0, .slice none 0 0] 31 true)) 31 z31 [.int .i64 n, .slice none 0 0]) 3 [iv 0] [iv 0] = h5 from rfl]
        refine (lp_eq e1).trans ?_
        rw [onE_exit, if_pos rfl]
        simp only [nx_eq, hh1, hh3, d31, w31, ifB]
        by_cases h3' : n = 3
        · rw [if_pos h3', eq_t (by omega), if_pos rfl]; rfl
        · rw [if_neg h3', eq_f (by omega)]; simp only [Bool.false_eq_true, if_false]; rfl
      by_cases h3' : n = 3
      · obtain ⟨g2, e2, i2⟩ := call _ g1 0 1 i1 (by rw [chain_len]; omega)
        obtain ⟨sv, h', x, a, e3⟩ := fin _ _ i2
        refine ⟨sv, h', 100, ?_, x, by simpa [gossipP, h4, h3'] using a⟩
        rw [head, if_pos h3', kc (L := []) e2]
        exact e3
      · obtain ⟨sv, h', x, a, e3⟩ := fin _ _ i1
        refine ⟨sv, h', 100, ?_, x, by simpa [gossipP, h4, h3'] using a⟩
        rw [head, if_neg h3']
        exact e3
    · have star : ∀ (F : List Value → H → Option (Ex × List Value × H)) (oj : Nat) (L0 : List Kl) (g0 : H), L0.length ≤ 20 → Inv L0 g0 →
          (∀ ws g, F ws g = asI .i64 (gv ws 0) fun n4 => ifB (lt n4 n) (calls rn g 100 [(.int .i64 0), gv ws 0, (pt (nx h3) 0), (pt (nx h1) 0)] fun v7 h13 => asI .i64 (gv ws 0) fun n5 => out .normal [(.int .i64 (add .i64 n5 1))] h13) (out (.exit oj) [gv ws 0] g)) →
          ∃ ws' h', lpGo F 100 [iv 4] g0 = some (.exit oj, ws', h') ∧ Inv (starP L0 (n - 4)) h' := by
        intro F oj L0 g0 hL hi hF
        obtain ⟨ws1, g1, e1, i1⟩ := loop F oj 4 (n - 4) (fun i L => addC L 0 ((i : Int) + 4)) L0 g0 (by omega) hL hi (fun _ _ => addC_len _ _ _)
          (fun i L g him hi hL => by
            obtain ⟨g', e, hi'⟩ := call L g 0 ((i : Int) + 4) hi hL
            refine ⟨g', ?_, hi'⟩
            rw [show (i : Int) + 4 = 4 + (i : Int) by omega] at e
            have ha : add .i64 (4 + (i : Int)) 1 = 4 + (i : Int) + 1 := add64 (by omega) (by omega)
            rw [hF]
            simp only [gv, List.getD_cons_zero, asI_int, lt_t (show 4 + (i : Int) < n by omega), ifB, if_true, nx_eq, hh1, hh3, kc (L := L) e, ha, out])
          (fun g => by rw [hF]; simp [show ¬ (4 + ((n - 4 : Nat) : Int) < n) by omega])
        exact ⟨ws1, g1, e1, i1⟩
      obtain ⟨ws1, g1, e1, i1⟩ := star (f76_l2 rn 100 n h1 h3) 2 [] h5 (by simp) i5 (fun _ _ => rfl)
      have l1 : (starP [] (n - 4)).length = n - 4 := by rw [star_len]; simp
      obtain ⟨g2, e2, i2⟩ := call _ g1 0 1 i1 (by omega)
      obtain ⟨g3, e3, i3⟩ := call _ g2 2 3 i2 (by rw [addC_len]; omega)
      obtain ⟨g4, e4, i4⟩ := call _ g3 0 2 i3 (by rw [addC_len, addC_len]; omega)
      obtain ⟨g5, e5, i5'⟩ := call _ g4 1 3 i4 (by rw [addC_len, addC_len, addC_len]; omega)
      obtain ⟨ws6, g6, e6, i6⟩ := star (f76_l3 rn 100 n h1 h3) 4 _ g5 (by rw [addC_len, addC_len, addC_len, addC_len]; omega) i5' (fun _ _ => rfl)
      obtain ⟨sv, h', x, a, e7⟩ := fin _ _ i6
      refine ⟨sv, h', 100, ?_, x, by simpa [gossipP, h4] using a⟩
      unfold f76
      rw [al_eq, kbld31, al_st (zs := z31) (xs := [.int .i64 n, .slice none 0 0]) sz31 rfl rfl, al_st1 (v := iv 0) sz3 rfl rfl]
      rw [lt_f (show ¬ (n : Int) < 4 by omega), ifB_false, show H.fresh (H.fresh (h.new (.row [.int .i64 0, .slice none 0 0] 31 true)) 31 z31 [.int .i64 n, .slice none 0 0]) 3 [iv 0] [iv 0] = h5 from rfl]
      refine (lp_eq e1).trans ?_
      rw [onE_exit, if_pos rfl]
      refine (kc (L := []) e2 _).trans ?_
      refine (kc (L := []) e3 _).trans ?_
      refine (kc (L := []) e4 _).trans ?_
      refine (kc (L := []) e5 _).trans ?_
      refine (lp_eq e6).trans ?_
      rw [onE_exit, if_pos rfl]
      simp only [d31, w31]
      exact e7
  obtain ⟨sv, h', k, e, x, a⟩ := hF
  exact ⟨sv, h', x76 e (by obtain ⟨x, y, z, hz⟩ := a.isSl; rw [hz]; rfl), x, a⟩

end Go.AM

end

section

/- CallsGossips, on the abstract machine. -/
namespace Go.AM
open Go.Proofs
variable {k : Nat} {R : Type}
attribute [local simp] nx_eq nx_new nx_set blk_new blk_set asI_int asK_int asB_bool asP_ptr al_eq bx_eq len_slice onE_exit onE_ret onR_ret Value.cells d3 d29 d31 d56 d24 d59 d22 d25 w3 cell_new cell_set rd_new rd_set off eq lt le ifB gv out eqF1 eqF2 eqF3 eqF4 eqF5 eqF6 eqF7 eqF8 ext20 ext21 k42 k22
theorem app22 : okApp Try.prog 22 59 3 = true := by kernel_rfl

theorem kbld24 (n : Int) (K : Value → Option R) : bld Try.prog 24 [(0, .int .i64 n)] K = K (.agg #[.int .i64 n, .slice none 0 0]) := bld_some (by kernel_rfl)

theorem kbld59 (a b t : Int) (K : Value → Option R) : bld Try.prog 59 [(0, .int .i64 a), (1, .int .i64 b), (2, .int .i64 t)] K = K (.agg #[.int .i64 a, .int .i64 b, .int .i64 t]) := bld_some (by kernel_rfl)

theorem bls22 (c : Kl) (h : H) : buildSlice Try.prog 22 1 [(0, .agg #[.int .i64 c.a, .int .i64 c.b, .int .i64 c.t])] h = some (.slice (some ⟨h.nx, 0, none⟩) 1 1, h.new (.row c.cells 59 true)) := by kernel_rfl

attribute [local simp] kbld24 kbld59
theorem s33 {n : Int} {sl : Value} {l : List Kl} {h : H} (hs : SlR h 56 3 sl (l.map Kl.cells)) (hm : l.length < 1000) :
    ∃ sl' h', rn 33 #[.agg #[iv n, sl]] h = some (.agg #[iv n, sl'], h') ∧ Exw h h' ∧ SlR h' 59 3 sl' (l.map Kl.cells) := by
  have hlen := hs.lt62
  rw [List.length_map] at hlen
  -- the heap ahead of the loop
  let h1 := h.new (.row [iv n, sl] 31 true)
  let h2 := h1.new (.row [.int .i64 0, .slice none 0 0] 24 true)
  let h4 := h2.fresh 24 [.int .i64 0, .slice none 0 0] [.int .i64 n, .slice none 0 0]
  have n1 : h1.nx = h.nx + 1 := rfl
  have n2 : h2.nx = h.nx + 2 := rfl
  have n4 : h4.nx = h.nx + 3 := rfl
  have x4 : Ext h h4 := (((Ext.refl h).new' _).new' _).fresh _ _ _
  have b0 : h4.blk h.nx = some (.row [iv n, sl] 31 true) := by simp [h4, h2, h1, H.fresh]
  have b1 : h4.blk (h.nx + 1) = some (.row [.int .i64 0, .slice none 0 0] 24 true) := by simp [h4, h2, h1, H.fresh]
  have b2 : h4.blk (h.nx + 2) = some (.row [.int .i64 n, .slice none 0 0] 24 true) := by simp [h4, h2, h1, H.fresh]
  obtain ⟨ws', h', hl, hx, hgn, hg1, sv, hg2, hap, rfl⟩ := lp_for (F := f33_l1 rn (l.length + 1) h2 sl l.length) (k := l.length + 1) (l := l) (fun _ _ (_ : Unit) => ())
    (fun i _ ws g => Ext h g ∧ h.nx + 3 ≤ g.nx ∧ g.blk (h.nx + 1) = some (.row [.int .i64 0, .slice none 0 0] 24 true) ∧
      ∃ sv, g.blk (h.nx + 2) = some (.row [iv n, sv] 24 true) ∧ AqR h.nx g 59 3 sv ((l.take i).map Kl.cells) ∧ ws = [iv i]) 0 (ws := [iv 0]) (h := h4) (s0 := ())
    ⟨x4, by omega, b1, _, b2, .nil, rfl⟩ (by omega)
    (by
      rintro _ ws g ⟨hx, hgn, hg1, sv, hg2, hap, rfl⟩
      simp [f33_l1])
    (by
      rintro i c _ ws g hc ⟨hx, hgn, hg1, sv, hg2, hap, rfl⟩
      have hi := (List.getElem?_eq_some_iff.1 hc).1
      have y7 := (Ext.refl g).fresh 56 [iv 0, iv 0, iv 0] c.cells
      have hcb := blk_fresh g 56 [iv 0, iv 0, iv 0] c.cells
      have n7 : (g.fresh 56 [iv 0, iv 0, iv 0] c.cells).nx = g.nx + 1 := rfl
      unfold f33_l1
      rw [show gv [iv i] 0 = iv i from rfl, asI_int, lt_t (by omega), ifB_true, asK_int, (hs.ext hx).ldA ag56 sz56 (by omega) (x := c.cells) (by simp [hc])]
      rw [al_st (zs := [iv 0, iv 0, iv 0]) (xs := c.cells) sz56 rfl rfl]
      generalize g.fresh 56 [iv 0, iv 0, iv 0] c.cells = h7 at *
      have g1 := (y7.blk (h.nx + 1) (by omega)).trans hg1
      have g2 := (y7.blk (h.nx + 2) (by omega)).trans hg2
      have a7 := hap.ext y7
      simp only [Kl.cells] at hcb
      obtain ⟨v', h9, e9, a9, n9, k9, b9, hb9, hb9'⟩ := a7.push app22 app22 (bls22 c) rfl rfl (by simp; omega) (by omega)
      have kb : ∀ b, b < h7.nx → h7.blk b ≠ some (.row ((l.take i).map Kl.cells).flatten 59 true) → h9.blk b = h7.blk b := fun b hb hne => k9 b hb fun e => hne (a7.blkOf e).2.2
      have g1' := kb (h.nx + 1) (by omega) (by rw [g1]; simp)
      have g2' := kb (h.nx + 2) (by omega) (by rw [g2]; simp)
      rw [g1] at g1'
      rw [g2] at g2'
      have x9 : Ext h h9 := ⟨by have := hx.nx; omega, fun b hb => by
        rw [k9 b (by have := hx.nx; omega) (fun e => by have := (a7.blkOf e).1; omega)]
        exact (hx.trans y7).blk b hb⟩
      have hst : wrc 1 h9 (h.nx + 2) 1 v' = some (h9.set (h.nx + 2) (.row [iv n, v'] 24 true)) := by rw [wrc_one g2' a9.cells.1 a9.cells.2 (by simp)]; rfl
      refine ⟨[iv ((i : Int) + 1)], h9.set (h.nx + 2) (.row [iv n, v'] 24 true), ?_, x9.set (by omega) _, by rw [nx_set]; omega, ?_, v', blk_set_self _ _ _, ?_, rfl⟩
      · simp [cell_of hcb, n2, cell_of g2, e9, w22, hst]
        rw [add64 (by omega) (by omega)]
      · rw [blk_set_ne _ _ _ (by omega)]; exact g1'
      · have : (l.take (i + 1)).map Kl.cells = (l.take i).map Kl.cells ++ [c.cells] := by
          rw [List.take_add_one, hc]
          simp
        rw [this]
        refine a9.keep (by rw [nx_set]; omega) fun b hb => blk_set_ne _ _ _ ?_
        rw [hb9] at hb; cases hb; omega)
  have hfin : f33 rn (l.length + 1) (.agg #[iv n, sl]) h = some (.agg #[iv n, sv], h'.set (h.nx + 1) (.row [iv n, sv] 24 true)) := by
    have hst : wrc 2 h' (h.nx + 1) 0 (.agg #[iv n, sv]) = some (h'.set (h.nx + 1) (.row [iv n, sv] 24 true)) := by
      simp only [wrc, hg1]
      rw [if_pos ⟨rfl, by simp, by simp [Value.cells, hap.cells.2]; rfl⟩]
      rfl
    unfold f33
    rw [bx_eq, al_eq]
    rw [show nx (h.new (.row (Value.agg #[iv n, sl]).cells.toList 31 true)) = h.nx + 1 from rfl, d3]
    rw [show ((h.new (.row (Value.agg #[iv n, sl]).cells.toList 31 true)).new (.row [.int .i64 0, .slice none 0 0] 24 true)).cell (nx h) 0 = some (iv n) by simp]
    rw [Option.bind_some, asI_int, kbld24, al_st (zs := [.int .i64 0, .slice none 0 0]) (xs := [.int .i64 n, .slice none 0 0]) sz24 rfl rfl]
    rw [show (H.fresh ((h.new (.row (Value.agg #[iv n, sl]).cells.toList 31 true)).new (.row [.int .i64 0, .slice none 0 0] 24 true)) 24 [.int .i64 0, .slice none 0 0] [.int .i64 n, .slice none 0 0]) = h4 from rfl,
      show ((h.new (.row (Value.agg #[iv n, sl]).cells.toList 31 true)).new (.row [.int .i64 0, .slice none 0 0] 24 true)) = h2 from rfl, d29, nx_eq, cell_of b0]
    rw [show [iv n, sl][off 0 1]? = some sl from rfl, Option.bind_some, hs.len, List.length_map, lp_eq hl]
    simp [n2, rd_of hg2, w24, hst]
  obtain ⟨h9, e9, sm, xw⟩ := x33 hfin (by obtain ⟨x, y, z, hz⟩ := hap.isSl; rw [hz]; rfl) (hx.set (by omega) _)
  refine ⟨sv, h9, e9, xw, SlR.ext ?_ sm.ext⟩
  rw [List.take_length] at hap
  refine (hap.keep (by rw [nx_set]; omega) fun b hb => blk_set_ne _ _ _ ?_).slR
  intro e
  have := (hap.blkOf hb).2.2
  rw [e, hg1] at this
  simp at this

theorem kbld31e (K : Value → Option R) : bld Try.prog 31 [] K = K (.agg #[.int .i64 0, .slice none 0 0]) := bld_some (by kernel_rfl)

theorem kfld31 (a v : Value) (K : Value → Option R) : fld Try.prog 31 (.agg #[a, v]) 1 K = K v := by
  have e : field Try.prog 31 (.agg #[a, v]) 1 = some v := by kernel_rfl
  unfold fld
  rw [e]
  rfl

/-- A result is written into its own place. -/
theorem wrc31 {g : H} {b : Nat} {n : Int} {sv x y : Value} (hg : g.blk b = some (.row [x, y] 31 true)) (hs : scal sv = true) : wrc 2 g b 0 (.agg #[iv n, sv]) = some (g.set b (.row [iv n, sv] 31 true)) := by
  simp only [wrc, hg]
  rw [if_pos ⟨rfl, by simp, by simp [Value.cells, hs]; rfl⟩]
  rfl

theorem s30_bad {n : Int} (hn : n < 1 ∨ 7 < n) (h : H) : ∃ h', rn 30 #[iv n] h = some (.tuple #[.agg #[iv 0, .slice none 0 0], iv 2], h') ∧ Ext h h' := by
  have x1 := Ext.new h (.row [.int .i64 0, .slice none 0 0] 31 true)
  have hw := wrc31 (n := 0) (sv := .slice none 0 0) (blk_new_self h (.row [.int .i64 0, .slice none 0 0] 31 true)) rfl
  refine ⟨_, x30 (k := 0) (h1 := (h.new (.row [.int .i64 0, .slice none 0 0] 31 true)).set h.nx (.row [iv 0, .slice none 0 0] 31 true)) ?_ rfl, (Ext.refl h).new' _ |>.set (Nat.le_refl _) _⟩
  simp [f30, kbld31e, w31, hw]
  grind

theorem s31_bad {n : Int} (hn : n < 1 ∨ 7 < n) (h : H) : rn 31 #[iv n] h = some (.tuple #[iv 0, iv 2], h) := by
  refine p31 (k := 0) (h1 := h) ?_ rfl (.refl _)
  simp [f31]
  grind

theorem s30 {n : Nat} (hn1 : 1 ≤ n) (hn : n ≤ 7) (h : H) : ∃ sv h', rn 30 #[iv n] h = some (.tuple #[.agg #[iv n, sv], iv 0], h') ∧ Ext h h' ∧ SlR h' 56 3 sv ((gossipP n).map Kl.cells) := by
  have x1 := Ext.new h (.row [.int .i64 0, .slice none 0 0] 31 true)
  obtain ⟨sv, h4, e, x4, a⟩ := s76 hn1 hn (h.new (.row [.int .i64 0, .slice none 0 0] 31 true))
  have hb : h4.blk h.nx = some (.row [.int .i64 0, .slice none 0 0] 31 true) := (x4.blk _ (Nat.lt_succ_self _)).trans (blk_new_self _ _)
  have hw := wrc31 (n := n) hb a.cells.2
  have hc := fun (K : Value → H → Option (Value × H)) => calls_eq (K := K) (xs := [_]) e
  refine ⟨sv, _, x30 (k := 0) (h1 := h4.set h.nx (.row [iv n, sv] 31 true)) ?_ (by obtain ⟨x, y, z, hz⟩ := a.isSl; rw [hz]; rfl), (x1.trans x4).set (Nat.le_refl _) _, ?_⟩
  · have h1 : (n = 0) = False := eq_false (by omega)
    have h2 : (7 < n) = False := eq_false (by omega)
    simp [f30, hc, w31, hw, h1, h2, show ¬ (n : Int) < 1 by omega, show ¬ (7 : Int) < n by omega]
  · refine (a.keep (h' := h4.set h.nx (.row [iv n, sv] 31 true)) (Nat.le_refl _) fun q hq => blk_set_ne _ _ _ ?_).slR
    intro e
    have := (a.blkOf hq).1
    rw [nx_new] at this
    omega

theorem s31 {n : Nat} (hn1 : 1 ≤ n) (hn : n ≤ 7) (h : H) : rn 31 #[iv n] h = some (.tuple #[iv (gossipP n).length, iv 0], h) := by
  obtain ⟨sv, h4, e, x4, a⟩ := s76 hn1 hn h
  have hc := fun (K : Value → H → Option (Value × H)) => calls_eq (K := K) (xs := [_]) e
  refine p31 (k := 0) (h1 := h4) ?_ rfl x4
  have h1 : (n = 0) = False := eq_false (by omega)
  have h2 : (7 < n) = False := eq_false (by omega)
  simp [f31, hc, kfld31, a.slR.len, h1, h2, show ¬ (n : Int) < 1 by omega, show ¬ (7 : Int) < n by omega]

theorem s32 {n : Int} {sl : Value} {l : List Kl} {h : H} (hs : SlR h 56 3 sl (l.map Kl.cells)) : rn 32 #[.agg #[iv n, sl]] h = some (.bool (decide (n = 0) && decide (l = [])), h) := by
  refine p32 (k := 0) (h1 := h.new (.row [iv n, sl] 31 true)) ?_ rfl (.new _ _)
  simp [f32, hs.len]
  have h1 : ((l.length : Int) == 0) = decide (l = []) := by
    cases l with
    | nil => rfl
    | cons x l => simp; omega
  rw [h1]
  by_cases h0 : n = 0 <;> simp [h0]

def neededP (n : Int) : Int := if n < 4 then quo .i64 (mul .i64 n (sub .i64 n 1)) 2 else sub .i64 (mul .i64 2 n) 4

theorem s34 (n : Int) (h : H) : rn 34 #[iv n] h = some (iv (neededP n), h) := by
  refine p34 (k := 0) (h1 := h) ?_ rfl (.refl _)
  simp [f34, neededP, nz]
  by_cases h0 : n < 4 <;> simp [h0]

theorem gossip_ok : ∀ n : Fin 8, 1 ≤ n.1 → validP n.1 (gossipP n.1) = true ∧ allP n.1 (newsP n.1 (gossipP n.1)) = true ∧ ((gossipP n.1).length : Int) = neededP n.1 := by decide +kernel

theorem s5 {n : Int} {h : H} : ∃ h', rn 5 #[iv n] h = some (.bool true, h') := by
  by_cases hn : n < 1 ∨ 7 < n
  · obtain ⟨h1, e1, x1⟩ := s30_bad hn h
    have c1 := fun (K : Value → H → Option (Value × H)) => calls_eq (K := K) (xs := [_]) e1
    have hw := wrc31 (n := 0) (sv := .slice none 0 0) (blk_new_self h1 (.row [.int .i64 0, .slice none 0 0] 31 true)) rfl
    have c2 := fun (K : Value → H → Option (Value × H)) => calls_eq (K := K) (xs := [_]) (s31_bad hn ((h1.new (.row [.int .i64 0, .slice none 0 0] 31 true)).set h1.nx (.row [iv 0, .slice none 0 0] 31 true)))
    have c3 := fun (K : Value → H → Option (Value × H)) => calls_eq (K := K) (xs := [_]) (s32 (n := 0) (l := []) (.nil (h := (h1.new (.row [.int .i64 0, .slice none 0 0] 31 true)).set h1.nx (.row [iv 0, .slice none 0 0] 31 true))))
    refine ⟨_, t5 (k := 0) (v := .bool true) (h1 := ((h1.new (.row [.int .i64 0, .slice none 0 0] 31 true)).set h1.nx (.row [iv 0, .slice none 0 0] 31 true))) ?_⟩
    simp [f5, c1, w31, hw, c2, c3]
    grind
  · obtain ⟨m, rfl⟩ := Int.eq_ofNat_of_zero_le (show 0 ≤ n by omega)
    obtain ⟨hv, hal, hne⟩ := gossip_ok ⟨m, by omega⟩ (by simp; omega)
    simp only at hv hal hne
    have hln := (validP_ok hv).2.2.1
    obtain ⟨sv, h1, e1, x1, s1⟩ := s30 (show 1 ≤ m by omega) (show m ≤ 7 by omega) h
    have c1 := fun (K : Value → H → Option (Value × H)) => calls_eq (K := K) (xs := [_]) e1
    obtain ⟨a0, n0, c0, hsv⟩ := s1.isSl
    have hw := wrc31 (n := m) (sv := sv) (blk_new_self h1 (.row [.int .i64 0, .slice none 0 0] 31 true)) (by rw [hsv]; rfl)
    have x2 : Ext h1 ((h1.new (.row [.int .i64 0, .slice none 0 0] 31 true)).set h1.nx (.row [iv m, sv] 31 true)) := (Ext.refl h1).new' _ |>.set (Nat.le_refl _) _
    have b2 : ((h1.new (.row [.int .i64 0, .slice none 0 0] 31 true)).set h1.nx (.row [iv m, sv] 31 true)).blk h1.nx = some (.row [iv m, sv] 31 true) := blk_set_self _ _ _
    generalize hG : (h1.new (.row [.int .i64 0, .slice none 0 0] 31 true)).set h1.nx (.row [iv m, sv] 31 true) = h2 at *
    have c2 := fun (K : Value → H → Option (Value × H)) => calls_eq (K := K) (xs := [_]) (s31 (show 1 ≤ m by omega) (show m ≤ 7 by omega) h2)
    obtain ⟨tv, h3, e3, x3, s3⟩ := s33 (n := m) (s1.ext x2) (by omega)
    have c3 := fun (K : Value → H → Option (Value × H)) => calls_eq (K := K) (xs := [_]) e3
    obtain ⟨a4, n4, c4, htv⟩ := s3.isSl
    have hw4 : ∀ (K : H → Option (Value × H)), (al h3 24 [(.int .i64 0), (.slice none 0 0)] fun h10 => st Try.prog h10 24 (nx h3) 0 (.agg #[iv m, tv]) K) = K (h3.fresh 24 [(.int .i64 0), (.slice none 0 0)] [iv m, tv]) := fun K => al_st (xs := [iv m, tv]) sz24 rfl (by rw [htv]; rfl)
    have x4 := (Ext.refl h3).fresh 24 [(.int .i64 0), (.slice none 0 0)] [iv m, tv]
    have b4 := blk_fresh h3 24 [(.int .i64 0), (.slice none 0 0)] [iv m, tv]
    have s4 := s3.ext x4
    generalize h3.fresh 24 [(.int .i64 0), (.slice none 0 0)] [iv m, tv] = h4 at *
    have c5 := fun (K : Value → H → Option (Value × H)) => calls_eq (K := K) (xs := [_]) (s34 m h4)
    have c6 := fun (K : Value → H → Option (Value × H)) => calls_eq (K := K) (xs := [_]) (s35 (n := m) s4)
    have c7 := fun (K : Value → H → Option (Value × H)) => calls_eq (K := K) (xs := [_]) (s36 (n := m) s4 hv)
    rw [Int.toNat_natCast, hal] at c7
    rw [hv] at c6
    refine ⟨_, t5 (k := 0) (v := .bool true) (h1 := h4) ?_⟩
    unfold f5
    rw [c1, ext20, ext21, asI_int, al_eq, w31, nx_eq, hw, Option.bind_some, c2, ext20, asI_int, ext21, asI_int]
    rw [lt_f (by omega), ifB_false, lt_f (by omega), ifB_false, d31, rd_all (n := 2) b2 rfl, Option.bind_some, c3, hw4]
    simp [c5, c6, c7, rd_all (n := 2) b4 rfl, cell_of b4, s4.len, hne, d24, d22, d3]

end Go.AM

end

section

/- The log backward, as the program makes it. -/
namespace Go.AM
open Go.Proofs
variable {k : Nat} {R : Type}
theorem s117_nil (h : H) : rn 117 #[.slice none 0 0, iv 0, iv 0, cmpV] h = some (undef, h) := by
  refine x117 (k := 2) ?_ rfl
  unfold f117
  refine lp_eq (ws' := [iv 1]) (lpGo_exit (m := 1) (i := 0) ?_)
  unfold f117_l1
  rw [show add .i64 (0 : Int) 1 = 1 from rfl, show AM.gv [iv (1 : Int)] 0 = iv (1 : Int) from rfl, asI_int, lt_f (by omega), ifB_false]
  rfl

theorem s108_nil (h : H) : rn 108 #[.slice none 0 0, cmpV] h = some (undef, h) := by
  have e : rn 114 #[.slice none 0 0, iv 0, cmpV] h = some (undef, h) := by
    refine x114 (k := 2) ?_ rfl
    unfold f114
    have x1 : lpGo (f114_l1 rn 2 (.slice none 0 0) 0 cmpV) 2 [iv 0, iv 20] h = some (.exit 0, [iv 0, iv 20], h) := by
      refine lpGo_exit (m := 1) ?_
      unfold f114_l1
      rw [show AM.gv [iv (0 : Int), iv 20] 1 = iv 20 from rfl, asI_int, show AM.le (20 : Int) 0 = false from rfl, ifB_false]
      rfl
    have x2 : lpGo (f114_l2 rn 2 (.slice none 0 0) 0 cmpV) 2 [iv 20] h = some (.exit 2, [iv 20], h) := by
      refine lpGo_exit (m := 1) ?_
      unfold f114_l2
      rw [show AM.gv [iv (20 : Int)] 0 = iv 20 from rfl, asI_int, lt_f (by omega), ifB_false]
      rfl
    rw [lp_eq x1, onE_exit, if_pos rfl, show AM.gv [iv (0 : Int), iv 20] 0 = iv 0 from rfl, calls_eq (xs := [_, _, _, _]) (s117_nil h), lp_eq x2, onE_exit, if_pos rfl]
  refine x108 (k := 0) ?_ rfl
  unfold f108
  rw [len_slice]
  rw [show ((0 : Nat) : Int) = 0 from rfl, calls_eq (xs := [_, _, _]) e]

theorem AqR.ka {lo : Nat} {h : H} {v : Value} {L : List Kl} (a : AqR lo h 56 3 v (L.map Kl.cells)) : (v = .slice none 0 0 ∧ L = []) ∨ ∃ b, lo ≤ b ∧ AM.blkOf v = some b ∧ KA h b v L := by
  generalize hM : L.map Kl.cells = M at a
  cases a with
  | nil => exact .inl ⟨rfl, by simpa using hM⟩
  | @at_ b c M hlo hb hr hx hm hc =>
    subst hM
    rw [List.length_map] at *
    have h30 : (2:Nat)^30 < U := by decide
    have hk : capK c = L.length := by
      rcases hc with rfl | rfl
      · exact capK_U _
      · unfold capK; rw [if_pos (by omega)]
    exact .inr ⟨b, hlo, rfl, ⟨_, rfl, by omega, by omega⟩, hb, hr⟩

attribute [local simp] nx_eq nx_new nx_set blk_new blk_set asI_int asK_int asB_bool asP_ptr al_eq bx_eq len_slice onE_exit onE_ret onR_ret Value.cells d3 d29 d31 d56 d24 d59 d22 cell_new cell_set rd_new rd_set off eq lt le ifB gv out eqF1 eqF2 eqF3 eqF4 eqF5 eqF6 eqF7 eqF8 kbld31 kbld56 kbld24 kbld59
theorem s94 {n : Int} {sl : Value} {l : List Kl} {h : H} (hs : SlR h 56 3 sl (l.map Kl.cells)) (v : VP n l) :
    ∃ sl' h', rn 94 #[.agg #[iv n, sl]] h = some (.agg #[iv n, sl'], h') ∧ Ext h h' ∧ (∀ g, h'.nx ≤ g.nx → (∀ b, h.nx ≤ b → b < h'.nx → g.blk b = h'.blk b) → SlR g 56 3 sl' ((turnP l).map Kl.cells)) ∧ ∃ x m c, sl' = .slice x m c := by
  have hlen := hs.lt62
  rw [List.length_map] at hlen
  have hl24 := v.len
  -- the heap ahead of the loop
  let h1 := h.new (.row [iv n, sl] 31 true)
  let h2 := h1.new (.row [.int .i64 0, .slice none 0 0] 31 true)
  let h4 := h2.fresh 31 [.int .i64 0, .slice none 0 0] [.int .i64 n, .slice none 0 0]
  have n1 : h1.nx = h.nx + 1 := rfl
  have n2 : h2.nx = h.nx + 2 := rfl
  have n4 : h4.nx = h.nx + 3 := rfl
  have x4 : Ext h h4 := (((Ext.refl h).new' _).new' _).fresh _ _ _
  have b0 : h4.blk h.nx = some (.row [iv n, sl] 31 true) := by simp [h4, h2, h1, H.fresh]
  have b1 : h4.blk (h.nx + 1) = some (.row [.int .i64 0, .slice none 0 0] 31 true) := by simp [h4, h2, h1, H.fresh]
  have b2 : h4.blk (h.nx + 2) = some (.row [.int .i64 n, .slice none 0 0] 31 true) := by simp [h4, h2, h1, H.fresh]
  obtain ⟨ws', h', hl, hx, hgn, hg1, sv, hg2, hap, rfl⟩ := lp_for (F := f94_l1 rn (l.length + 1) h2 sl l.length) (k := l.length + 1) (l := l) (fun _ _ (_ : Unit) => ())
    (fun i _ ws g => Ext h g ∧ h.nx + 3 ≤ g.nx ∧ g.blk (h.nx + 1) = some (.row [.int .i64 0, .slice none 0 0] 31 true) ∧
      ∃ sv, g.blk (h.nx + 2) = some (.row [iv n, sv] 31 true) ∧ AqR h.nx g 56 3 sv (((l.take i).map turnK).map Kl.cells) ∧ ws = [iv i]) 0 (ws := [iv 0]) (h := h4) (s0 := ())
    ⟨x4, by omega, b1, _, b2, .nil, rfl⟩ (by omega)
    (by
      rintro _ ws g ⟨hx, hgn, hg1, sv, hg2, hap, rfl⟩
      simp [f94_l1])
    (by
      rintro i c _ ws g hc ⟨hx, hgn, hg1, sv, hg2, hap, rfl⟩
      have hi := (List.getElem?_eq_some_iff.1 hc).1
      have hct := ok_t (v.ok c (List.mem_of_getElem? hc))
      have y7 := (Ext.refl g).fresh 56 [iv 0, iv 0, iv 0] c.cells
      have hcb := blk_fresh g 56 [iv 0, iv 0, iv 0] c.cells
      have n7 : (g.fresh 56 [iv 0, iv 0, iv 0] c.cells).nx = g.nx + 1 := rfl
      unfold f94_l1
      rw [show gv [iv i] 0 = iv i from rfl, asI_int, lt_t (by omega), ifB_true, asK_int, (hs.ext hx).ldA ag56 sz56 (by omega) (x := c.cells) (by simp [hc])]
      rw [al_st (zs := [iv 0, iv 0, iv 0]) (xs := c.cells) sz56 rfl rfl]
      generalize g.fresh 56 [iv 0, iv 0, iv 0] c.cells = h7 at *
      have g1 := (y7.blk (h.nx + 1) (by omega)).trans hg1
      have g2 := (y7.blk (h.nx + 2) (by omega)).trans hg2
      have a7 := hap.ext y7
      simp only [Kl.cells] at hcb
      obtain ⟨v', h9, e9, a9, n9, k9, b9, hb9, hb9'⟩ := a7.push app29 app29 (bls29 (turnK c)) rfl rfl (by simp; omega) (by omega)
      have kb : ∀ b, b < h7.nx → h7.blk b ≠ some (.row (((l.take i).map turnK).map Kl.cells).flatten 56 true) → h9.blk b = h7.blk b := fun b hb hne => k9 b hb fun e => hne (a7.blkOf e).2.2
      have g1' := kb (h.nx + 1) (by omega) (by rw [g1]; simp)
      have g2' := kb (h.nx + 2) (by omega) (by rw [g2]; simp)
      rw [g1] at g1'
      rw [g2] at g2'
      have x9 : Ext h h9 := ⟨by have := hx.nx; omega, fun b hb => by
        rw [k9 b (by have := hx.nx; omega) (fun e => by have := (a7.blkOf e).1; omega)]
        exact (hx.trans y7).blk b hb⟩
      have hst : wrc 1 h9 (h.nx + 2) 1 v' = some (h9.set (h.nx + 2) (.row [iv n, v'] 31 true)) := by rw [wrc_one g2' a9.cells.1 a9.cells.2 (by simp)]; rfl
      refine ⟨[iv ((i : Int) + 1)], h9.set (h.nx + 2) (.row [iv n, v'] 31 true), ?_, x9.set (by omega) _, by rw [nx_set]; omega, ?_, v', blk_set_self _ _ _, ?_, rfl⟩
      · have hsb : AM.sub .i64 31 c.t = 31 - c.t := sub64 (by omega) (by omega)
        simp only [turnK] at e9
        simp [cell_of hcb, n2, cell_of g2, hsb, e9, w29, hst]
        rw [add64 (by omega) (by omega)]
      · rw [blk_set_ne _ _ _ (by omega)]; exact g1'
      · have : ((l.take (i + 1)).map turnK).map Kl.cells = ((l.take i).map turnK).map Kl.cells ++ [(turnK c).cells] := by
          rw [List.take_add_one, hc]
          simp
        rw [this]
        refine a9.keep (by rw [nx_set]; omega) fun b hb => blk_set_ne _ _ _ ?_
        rw [hb9] at hb; cases hb; omega)
  rw [List.take_length] at hap
  -- it is sorted
  have srt : ∃ h12, rn 108 #[sv, cmpV] h' = some (undef, h12) ∧ Ext h h12 ∧ h.nx + 3 ≤ h12.nx ∧ h12.blk (h.nx + 1) = some (.row [.int .i64 0, .slice none 0 0] 31 true) ∧ h12.blk (h.nx + 2) = some (.row [iv n, sv] 31 true) ∧
      ∀ g, h12.nx ≤ g.nx → (∀ b, h.nx ≤ b → b ≠ h.nx + 1 → b < h12.nx → g.blk b = h12.blk b) → SlR g 56 3 sv ((turnP l).map Kl.cells) := by
    rcases hap.ka with ⟨hv0, hl0⟩ | ⟨b, hlo, hb, ka⟩
    · obtain rfl : l = [] := by simpa using hl0
      subst hv0
      exact ⟨h', s108_nil h', hx, hgn, hg1, hg2, fun _ _ _ => .nil⟩
    · skip
      obtain ⟨h12, S, e, f, k12, p, s⟩ := s108 ka (fun x hx => by have := v.tOk x hx; omega) (by simp; omega)
      have hS : fsts S = turnP l := sorted_bkt v.tOk p s
      rw [hS] at k12
      have nb1 : h.nx + 1 ≠ b := fun e => by rw [← e, ] at ka; have := ka.row; rw [hg1] at this; simp at this
      have nb2 : h.nx + 2 ≠ b := fun e => by rw [← e, ] at ka; have := ka.row; rw [hg2] at this; simp at this
      refine ⟨h12, e, ⟨Nat.le_trans hx.nx f.nx, fun q hq => (f.blk q (by have := hx.nx; omega) (by omega)).trans (hx.blk q hq)⟩, Nat.le_trans hgn f.nx, (f.blk _ (by omega) nb1).trans hg1, (f.blk _ (by omega) nb2).trans hg2, fun g hn hb' => ?_⟩
      exact (k12.keep (h' := g) hn (hb' b hlo (fun e => nb1 e.symm) k12.lt)).slR
  obtain ⟨h12, e12, x12, n12, c1, c2, hsr⟩ := srt
  have hfin : f94 rn (l.length + 1) (.agg #[iv n, sl]) h = some (.agg #[iv n, sv], h12.set (h.nx + 1) (.row [iv n, sv] 31 true)) := by
    have hst : wrc 2 h12 (h.nx + 1) 0 (.agg #[iv n, sv]) = some (h12.set (h.nx + 1) (.row [iv n, sv] 31 true)) := wrc31 c1 hap.cells.2
    have ks := fun (K : Value → H → Option (Value × H)) => calls_eq (K := K) (xs := [sv, cmpV]) e12
    unfold f94
    rw [bx_eq, al_eq]
    rw [show nx (h.new (.row (Value.agg #[iv n, sl]).cells.toList 31 true)) = h.nx + 1 from rfl, d3]
    rw [show ((h.new (.row (Value.agg #[iv n, sl]).cells.toList 31 true)).new (.row [.int .i64 0, .slice none 0 0] 31 true)).cell (nx h) 0 = some (iv n) by simp]
    rw [Option.bind_some, asI_int, kbld31, al_st (zs := [.int .i64 0, .slice none 0 0]) (xs := [.int .i64 n, .slice none 0 0]) sz31 rfl rfl]
    rw [show (H.fresh ((h.new (.row (Value.agg #[iv n, sl]).cells.toList 31 true)).new (.row [.int .i64 0, .slice none 0 0] 31 true)) 31 [.int .i64 0, .slice none 0 0] [.int .i64 n, .slice none 0 0]) = h4 from rfl,
      show ((h.new (.row (Value.agg #[iv n, sl]).cells.toList 31 true)).new (.row [.int .i64 0, .slice none 0 0] 31 true)) = h2 from rfl, d29, nx_eq, cell_of b0]
    rw [show [iv n, sl][off 0 1]? = some sl from rfl, Option.bind_some, hs.len, List.length_map, lp_eq hl]
    rw [show (.func (.func 109) #[] #[] : Value) = cmpV from rfl]
    simp only [onE_exit, if_true, d29, nx_eq, n2, cell_of hg2, off, List.getElem?_cons_succ, List.getElem?_cons_zero, Option.bind_some, ks]
    simp [n2, rd_of c2, w31, hst]
  refine ⟨sv, _, x94 hfin (by obtain ⟨x, y, z, hz⟩ := hap.isSl; rw [hz]; rfl), x12.set (by omega) _, fun g hn hb => hsr g hn fun b q1 q2 q3 => (hb b q1 q3).trans (blk_set_ne _ _ _ q2), hap.isSl⟩

end Go.AM

end

section

/- Turn, on both sides; rows of calls that are the same. -/
namespace Go.AM
open Go.Proofs
variable {k : Nat} {R : Type}
attribute [local simp] nx_eq nx_new nx_set blk_new blk_set asI_int asK_int asB_bool asP_ptr al_eq bx_eq len_slice onE_exit onE_ret onR_ret Value.cells d3 d29 d31 d56 d24 d59 d22 cell_new cell_set rd_new rd_set off eq lt le ifB gv out eqF1 eqF2 eqF3 eqF4 eqF5 eqF6 eqF7 eqF8 kbld31 kbld56 kbld24 kbld59
theorem s57_bad {n : Int} {sl : Value} {l : List Kl} {h : H} (hs : SlR h 56 3 sl (l.map Kl.cells)) (hv : validP n l = false) : ∃ h', rn 57 #[.agg #[iv n, sl]] h = some (.tuple #[.agg #[iv 0, .slice none 0 0], iv 2], h') ∧ Ext h h' := by
  have x1 : Ext h (h.new (.row [iv n, sl] 31 true)) := .new _ _
  have x2 := Ext.new (h.new (.row [iv n, sl] 31 true)) (.row [.int .i64 0, .slice none 0 0] 31 true)
  have hw := wrc31 (n := 0) (sv := .slice none 0 0) (blk_new_self (h.new (.row [iv n, sl] 31 true)) (.row [.int .i64 0, .slice none 0 0] 31 true)) rfl
  rw [nx_new] at hw
  have c1 := fun (K : Value → H → Option (Value × H)) => calls_eq (K := K) (xs := [_]) (s71 (n := n) (hs.ext (x1.trans x2)))
  refine ⟨_, x57 (k := 0) (h1 := ((h.new (.row [iv n, sl] 31 true)).new (.row [.int .i64 0, .slice none 0 0] 31 true)).set (h.nx + 1) (.row [iv 0, .slice none 0 0] 31 true)) ?_ rfl, ((Ext.refl h).new' _ |>.new' _).set (by omega) _⟩
  simp [f57, c1, hv, kbld31e, w31, hw]

theorem s57 {n : Int} {sl : Value} {l : List Kl} {h : H} (hs : SlR h 56 3 sl (l.map Kl.cells)) (v : VP n l) :
    ∃ sl' h', rn 57 #[.agg #[iv n, sl]] h = some (.tuple #[.agg #[iv n, sl'], iv 0], h') ∧ Ext h h' ∧ SlR h' 56 3 sl' ((turnP l).map Kl.cells) ∧ ∃ x m c, sl' = .slice x m c := by
  have x1 : Ext h (h.new (.row [iv n, sl] 31 true)) := .new _ _
  have x2 := Ext.new (h.new (.row [iv n, sl] 31 true)) (.row [.int .i64 0, .slice none 0 0] 31 true)
  have x12 := x1.trans x2
  have b1 : ((h.new (.row [iv n, sl] 31 true)).new (.row [.int .i64 0, .slice none 0 0] 31 true)).blk h.nx = some (.row [iv n, sl] 31 true) := (x2.blk _ (Nat.lt_succ_self _)).trans (blk_new_self _ _)
  have b2 : ((h.new (.row [iv n, sl] 31 true)).new (.row [.int .i64 0, .slice none 0 0] 31 true)).blk (h.nx + 1) = some (.row [.int .i64 0, .slice none 0 0] 31 true) := blk_new_self _ _
  have n2 : ((h.new (.row [iv n, sl] 31 true)).new (.row [.int .i64 0, .slice none 0 0] 31 true)).nx = h.nx + 2 := rfl
  have c1 := fun (K : Value → H → Option (Value × H)) => calls_eq (K := K) (xs := [_]) (s71 (n := n) (hs.ext x12))
  obtain ⟨sv, h', e, x, hr, p, m, c, rfl⟩ := s94 (n := n) (hs.ext x12) v
  have c2 := fun (K : Value → H → Option (Value × H)) => calls_eq (K := K) (xs := [_]) e
  have hv := vp_iff.2 v
  have b2' := (x.blk (h.nx + 1) (by omega)).trans b2
  have hw := wrc31 (n := n) b2' (sv := .slice p m c) rfl
  generalize hg : (h.new (.row [iv n, sl] 31 true)).new (.row [.int .i64 0, .slice none 0 0] 31 true) = g at *
  refine ⟨.slice p m c, h'.set (h.nx + 1) (.row [iv n, .slice p m c] 31 true), x57 (k := 0) ?_ rfl, (x12.trans x).set (by omega) _, hr _ (Nat.le_refl _) (fun b q1 q2 => blk_set_ne _ _ _ (by omega)), _, _, _, rfl⟩
  unfold f57
  rw [bx_eq, al_eq]
  simp only [nx_eq, nx_new, show (Value.agg #[iv n, sl]).cells.toList = [iv n, sl] from rfl]
  rw [hg]
  simp [rd_of b1, c1, hv, c2, w31, hw]

end Go.AM

end

section

/- Latest times to leave, on both sides; CallsTimes. -/
namespace Go.AM
open Go.Proofs
variable {k : Nat} {R : Type}
attribute [local simp] nx_eq nx_new nx_set blk_new blk_set asI_int asK_int asB_bool asP_ptr al_eq bx_eq len_slice onE_exit onE_ret onR_ret Value.cells d3 d29 d31 d56 d24 d59 d22 cell_new cell_set rd_new rd_set off eq lt le ifB gv out eqF1 eqF2 eqF3 eqF4 eqF5 eqF6 eqF7 eqF8 w3
theorem s62_bad {n s : Int} {sl : Value} {l : List Kl} {h : H} (hs : SlR h 56 3 sl (l.map Kl.cells)) (hv : (validP n l && decide (0 ≤ s ∧ s < n)) = false) : ∃ h', rn 62 #[.agg #[iv n, sl], iv s] h = some (.tuple #[.slice none 0 0, iv 2], h') ∧ Ext h h' := by
  have x1 : Ext h (h.new (.row [iv n, sl] 31 true)) := .new _ _
  refine ⟨h.new (.row [iv n, sl] 31 true), x62 (k := 0) ?_ rfl, x1⟩
  cases h1 : validP n l with
  | false => simp [f62, k71 (hs.ext x1), h1]
  | true =>
    have : ¬ (0 ≤ s ∧ s < n) := by simpa [h1] using hv
    simp [f62, k71 (hs.ext x1), h1, k72]
    grind

theorem s62 {n s : Int} {sl : Value} {l : List Kl} {h : H} (hs : SlR h 56 3 sl (l.map Kl.cells)) (v : VP n l) (hp : 0 ≤ s ∧ s < n) :
    ∃ v h' b, rn 62 #[.agg #[iv n, sl], iv s] h = some (.tuple #[v, iv 0], h') ∧ Ext h h' ∧ h.nx ≤ b ∧ IA h' b v ((arriveP n.toNat (turnP l) s).map phi) := by
  have hn1 := v.n1
  have hn7 := v.n7
  have hl24 := v.len
  have x1 : Ext h (h.new (.row [iv n, sl] 31 true)) := .new _ _
  have hb1 : (h.new (.row [iv n, sl] 31 true)).blk h.nx = some (.row [iv n, sl] 31 true) := blk_new_self _ _
  obtain ⟨sv, h4, e4, x4, hr4, _⟩ := s94 (n := n) (hs.ext x1) v
  have s4 := hr4 h4 (Nat.le_refl _) fun _ _ _ => rfl
  obtain ⟨v7, h5, b, e5, x5, hlo, ia5⟩ := s81 s4 (vp_iff.2 v.turn) hp
  have hX := (x1.trans x4).trans x5
  have hlo' : h.nx ≤ b := Nat.le_trans (x1.trans x4).nx hlo
  have c1 := fun (K : Value → H → Option (Value × H)) => calls_eq (K := K) (xs := [_]) e4
  have c2 := fun (K : Value → H → Option (Value × H)) => calls_eq (K := K) (xs := [_, _, _]) e5
  have hAlen : ((arriveP n.toNat (turnP l) s).length : Int) = n := by
    have := arr_fold (n := n) (turnP l) [] _ (arr0_inv (by omega) hp) v.turn.ok (fun _ h => by simp at h) (fun _ h => by simp at h) v.turn.two
    unfold arriveP
    clear this
    have h0 := (arr0_inv (n := n) (by omega) hp).1
    have hlen : ∀ (l : List Kl) (A : List Int), (l.foldl (fun A c => arrG c A) A).length = A.length := by
      intro l
      induction l with
      | nil => intro A; rfl
      | cons c l ih => intro A; rw [List.foldl_cons, ih, arrG_len]
    rw [hlen]
    exact h0
  generalize hAd : arriveP n.toNat (turnP l) s = A at *
  have hbd : ∀ x ∈ A, -1 ≤ x ∧ x ≤ 30 := by
    rw [← hAd, arrive_same v.turn hp]
    have step : ∀ (L : List Kl) (A : List Int), (∀ c ∈ L, 1 ≤ c.t ∧ c.t ≤ 30) → (∀ x ∈ A, -1 ≤ x ∧ x ≤ 30) → ∀ x ∈ L.foldl (fun A c => arrS c A) A, -1 ≤ x ∧ x ≤ 30 := by
      intro L
      induction L with
      | nil => intro A _ h; exact h
      | cons c L ih =>
        intro A hc h
        refine ih _ (fun d hd => hc d (List.mem_cons_of_mem _ hd)) ?_
        have ht := hc c List.mem_cons_self
        have new : ∀ j, ∀ x ∈ A.set j c.t, -1 ≤ x ∧ x ≤ 30 := fun j x hx => by
          rcases List.mem_or_eq_of_mem_set hx with h5 | h5
          · exact h x h5
          · omega
        show ∀ x ∈ arrS c A, -1 ≤ x ∧ x ≤ 30
        unfold arrS
        split
        · exact new _
        · split
          · exact new _
          · exact h
    refine step _ _ (fun c hc => ok_t (v.turn.ok c hc)) fun x hx => ?_
    unfold arr0 at hx
    rcases List.mem_or_eq_of_mem_set hx with h | h
    · have := List.eq_of_mem_replicate h; omega
    · omega
  obtain ⟨e, ws', h', hl, rfl, hx, hia⟩ := lp_range (F := f62_l1 rn 40 v7 A.length) (k := 40) (n := A.length)
    (fun i ws g => ws = [iv (i : Int)] ∧ Ext h g ∧ IA g b v7 ((A.take i).map phi ++ A.drop i))
    (fun e _ g => e = .exit 0 ∧ Ext h g ∧ IA g b v7 (A.map phi))
    (by
      rintro i ws g hi ⟨rfl, hx, ia⟩
      have hadd : add .i64 (i : Int) 1 = ((i + 1 : Nat) : Int) := by rw [add64 (by omega) (by omega)]; omega
      obtain ⟨x, hxi⟩ : ∃ x, A[i]? = some x := ⟨_, List.getElem?_eq_getElem hi⟩
      have hbx := hbd x (List.mem_of_getElem? hxi)
      have dA : A.drop i = x :: A.drop (i + 1) := by
        rw [List.drop_eq_getElem_cons hi]
        rw [List.getElem?_eq_getElem hi] at hxi
        rw [Option.some.inj hxi]
      have tA : (A.take (i + 1)).map phi = (A.take i).map phi ++ [phi x] := by rw [List.take_add_one, hxi]; simp
      have lt : ((A.take i).map phi).length = i := by rw [List.length_map, List.length_take]; omega
      have hgx : ((A.take i).map phi ++ A.drop i)[i]? = some x := by rw [List.getElem?_append_right (by omega), lt, Nat.sub_self, dA]; rfl
      have hg := fun (K : Value → Option (Ex × List Value × H)) => ia.get (i := (i : Int)) (by omega) (by rw [Int.toNat_natCast]; exact hgx) K
      unfold f62_l1
      rw [show gv [iv (i : Int)] 0 = iv (i : Int) from rfl, asI_int, lt_t (by omega), ifB_true, asK_int]
      simp only [d3]
      rw [hg, asI_int]
      by_cases h1 : x = -1
      · refine ⟨.normal, [iv ((i + 1 : Nat) : Int)], g, ?_, .inl ⟨rfl, rfl, hx, ?_⟩⟩
        · rw [eq_t h1, Bool.not_true, ifB_false, asI_int, hadd]; rfl
        · rw [tA, show phi x = x by unfold phi; rw [if_neg (by omega)], List.append_assoc, List.singleton_append, ← dA]; exact ia
      · have hw := ia.wrc (i := i) (by rw [List.length_append, lt, List.length_drop]; omega) (31 - x)
        have ia' := ia.set i (31 - x)
        have hsub : AM.sub .i64 31 x = 31 - x := sub64 (by omega) (by omega)
        refine ⟨.normal, [iv ((i + 1 : Nat) : Int)], g.set b (.row ((((A.take i).map phi ++ A.drop i).set i (31 - x)).map iv) 3 true), ?_, .inl ⟨rfl, rfl, hx.set hlo' _, ?_⟩⟩
        · rw [eq_f h1, Bool.not_false, ifB_true, asK_int, ia.put (by omega) (by rw [List.length_append, lt, List.length_drop]; omega), w3, Int.toNat_natCast, hsub, hw, Option.bind_some, asI_int, hadd]; rfl
        · have : ((A.take i).map phi ++ A.drop i).set i (31 - x) = (A.take (i + 1)).map phi ++ A.drop (i + 1) := by
            rw [tA, List.set_append_right _ _ (by omega), lt, Nat.sub_self, dA, List.set_cons_zero, List.append_assoc, show phi x = 31 - x by unfold phi; rw [if_pos h1]]
            rfl
          rw [this] at ia' ⊢
          exact ia')
    (by
      rintro ws g ⟨rfl, hx, ia⟩
      refine ⟨.exit 0, [iv (A.length : Int)], g, ?_, by simp, rfl, hx, by simpa using ia⟩
      unfold f62_l1
      rw [show gv [iv (A.length : Int)] 0 = iv (A.length : Int) from rfl, asI_int, lt_f (by omega), ifB_false]
      rfl)
    (ws := [iv 0]) (h := h5) (by omega) ⟨rfl, hX, by simpa using ia5⟩
  refine ⟨v7, h', b, x62 (k := 40) ?_ hia.slR.notR2, hx, hlo', hia⟩
  have hv := vp_iff.2 v
  unfold f62
  rw [bx_eq, nx_eq, show (Value.agg #[iv n, sl]).cells.toList = [iv n, sl] from rfl]
  have ld1 : ∀ (K : Value → Option (Value × H)), ld Try.prog (h.new (.row [iv n, sl] 31 true)) 31 h.nx 0 K = K (.agg #[iv n, sl]) := fun K => by
    rw [d31, rd_all (n := 2) hb1 rfl]; rfl
  rw [ld1, k71 (hs.ext x1), asB_bool, hv, Bool.not_true, ifB_false, ld1, k72, asB_bool, decide_eq_true hp, Bool.not_true, ifB_false, ld1, c1, c2, ia5.len, lp_eq hl, onE_exit, if_pos rfl]

end Go.AM

end

section

/- CallsBackward, on the abstract machine. -/
namespace Go.AM
open Go.Proofs
variable {k : Nat} {R : Type}
theorem news_ns {n : Int} (hn : 0 ≤ n ∧ n ≤ 7) : ∀ (l : List Kl) (L : List Int) (M : List Nat), (∀ c ∈ l, okC n c = true) → NS 7 L M → (M.length : Int) = n → ∃ M', NS 7 (l.foldl hearP L) M' ∧ (M'.length : Int) = n
  | [], _, M, _, h, hl => ⟨M, h, hl⟩
  | c :: l, L, M, hok, h, hl => by
    obtain ⟨ha, hb, _⟩ := okC_iff.1 (hok c List.mem_cons_self)
    have hlen := h.len
    exact news_ns hn l _ _ (fun d hd => hok d (List.mem_cons_of_mem _ hd)) (hearP_ns h (by omega) (by omega)) (by simp [hearN]; exact hl)

theorem spread_head : ∀ (l l0 : List Kl) (i : Nat) (st : Int × List Int) (x : Int) (r : List Int), st.2 = x :: r → ∃ r', (foldI (spreadG l0) l i st).2 = x :: r'
  | [], _, _, _, _, r, h => ⟨r, h⟩
  | c :: l, l0, i, st, x, r, h => by
    simp only [foldI]
    by_cases hp : lastP l0 i c = true
    · exact spread_head l l0 (i + 1) (spreadG l0 i c st) x (r ++ [nowP st.1 c]) (by simp [spreadG, hp, h])
    · exact spread_head l l0 (i + 1) (spreadG l0 i c st) x r (by simp [spreadG, hp, h])

/-- Who has somebody's news, both ways. -/
theorem news_spread {n s : Int} {l : List Kl} (v : VP n l) (hs : 0 ≤ s ∧ s < n) : ∃ z : Int, (spreadP l s)[(spreadP l s).length - 1]? = some z ∧ ∀ (q : Nat) (x : Int), (newsP n.toNat l)[q]? = some x → AM.and .i64 (shr .i64 x s) 1 = AM.and .i64 (shr .i64 z q) 1 := by
  have hn1 := v.n1
  have hn7 := v.n7
  obtain ⟨m, rfl⟩ := Int.eq_ofNat_of_zero_le (show 0 ≤ n by omega)
  obtain ⟨p, rfl⟩ := Int.eq_ofNat_of_zero_le hs.1
  have e := spread_eq (n := m) (s := p) (vp_iff.2 v) (by omega)
  rw [heard_last] at e
  obtain ⟨M, hM, hMl⟩ := news_ns (n := (m : Int)) (by omega) l _ _ v.ok (ownP_ns (n := m) (by omega)) (by simp)
  obtain ⟨t, e1, t1, t2⟩ := transP_spec (s := p) (by omega) hM (by omega)
  refine ⟨(t : Int), ?_, fun q x hx => ?_⟩
  · rw [e, List.map_append, List.map_singleton]
    have : transP (p : Int) (newsP m l) = (t : Int) := e1
    rw [this]
    simp
  · have hx' : (l.foldl hearP (ownP m))[q]? = some x := hx
    rw [hM.1, List.getElem?_map] at hx'
    cases hq : M[q]? with
    | none => rw [hq] at hx'; cases hx'
    | some y =>
      rw [hq] at hx'
      obtain rfl : (y : Int) = x := by simpa using hx'
      have hy := hM.2 y (List.mem_of_getElem? hq)
      have hqm := (List.getElem?_eq_some_iff.1 hq).1
      rw [bit_nat (by omega) (by omega), bit_nat (by omega) (by omega), t2 q, hq]
      simp

theorem arrive_bounds {n s : Int} {l : List Kl} (v : VP n l) (hp : 0 ≤ s ∧ s < n) : ((arriveP n.toNat l s).length : Int) = n ∧ ∀ x ∈ arriveP n.toNat l s, -1 ≤ x ∧ x ≤ 30 := by
  constructor
  · have h0 := (arr0_inv (n := n) (by have := v.n1; omega) hp).1
    have hlen : ∀ (l : List Kl) (A : List Int), (l.foldl (fun A c => arrG c A) A).length = A.length := by
      intro l
      induction l with
      | nil => intro A; rfl
      | cons c l ih => intro A; rw [List.foldl_cons, ih, arrG_len]
    unfold arriveP
    rw [hlen]
    exact h0
  · have step : ∀ (L : List Kl) (A : List Int), (∀ c ∈ L, 1 ≤ c.t ∧ c.t ≤ 30) → (∀ x ∈ A, -1 ≤ x ∧ x ≤ 30) → ∀ x ∈ L.foldl (fun A c => arrG c A) A, -1 ≤ x ∧ x ≤ 30 := by
      intro L
      induction L with
      | nil => intro A _ h; exact h
      | cons c L ih =>
        intro A hc h
        refine ih _ (fun d hd => hc d (List.mem_cons_of_mem _ hd)) ?_
        have ht := hc c List.mem_cons_self
        have new : ∀ j, ∀ x ∈ A.set j c.t, -1 ≤ x ∧ x ≤ 30 := fun j x hx => by
          rcases List.mem_or_eq_of_mem_set hx with h5 | h5
          · exact h x h5
          · omega
        show ∀ x ∈ arrG c A, -1 ≤ x ∧ x ≤ 30
        unfold arrG
        split
        · exact new _
        · split
          · exact new _
          · exact h
    refine step _ _ (fun c hc => ok_t (v.ok c hc)) fun x hx => ?_
    unfold arr0 at hx
    rcases List.mem_or_eq_of_mem_set hx with h | h
    · have := List.eq_of_mem_replicate h; omega
    · omega

/-- The check of each person. -/
theorem l16 {n s : Int} {va vb vn vs : Value} {g : H} {B N S : List Int} {z : Int} (hn : (B.length : Int) = n) (hn7 : n ≤ 7) (hs : 0 ≤ s) (ha : SlR g 3 1 va (cellsI (B.map phi))) (hb : SlR g 3 1 vb (cellsI B)) (hN : SlR g 3 1 vn (cellsI N)) (hS : SlR g 3 1 vs (cellsI S))
    (hNl : N.length = B.length) (hB : ∀ x ∈ B, -1 ≤ x ∧ x ≤ 30) (hz : S[S.length - 1]? = some z) (hbit : ∀ (q : Nat) (x : Int), N[q]? = some x → AM.and .i64 (shr .i64 x s) 1 = AM.and .i64 (shr .i64 z q) 1) (hSl : S.length < 1000) :
    ∃ w, lpGo (f16_l1 rn 40 s va vb vn vs B.length) 40 [.bool false, iv 0] g = some (.exit 0, w, g) := by
  have hS0 : S ≠ [] := by intro h; subst h; simp at hz
  have hSp := List.length_pos_iff.2 hS0
  obtain ⟨e, w, g', hl, rfl, rfl⟩ := lp_range (F := f16_l1 rn 40 s va vb vn vs B.length) (k := 40) (n := B.length)
    (fun i ws h => ws = [.bool false, iv (i : Int)] ∧ h = g) (fun e _ h => e = .exit 0 ∧ h = g)
    (by
      rintro i ws h hi ⟨rfl, rfl⟩
      obtain ⟨x, hx⟩ : ∃ x, B[i]? = some x := ⟨_, List.getElem?_eq_getElem hi⟩
      obtain ⟨y, hy⟩ : ∃ y, N[i]? = some y := ⟨_, List.getElem?_eq_getElem (by omega)⟩
      have hbx := hB x (List.mem_of_getElem? hx)
      have hadd : add .i64 (i : Int) 1 = ((i + 1 : Nat) : Int) := by rw [add64 (by omega) (by omega)]; omega
      have hsl : AM.sub .i64 (S.length : Int) 1 = ((S.length - 1 : Nat) : Int) := by rw [sub64 (by omega) (by omega)]; omega
      have gB : ∀ (K : Value → Option (Ex × List Value × H)), (six vb (i : Int) 1 fun b o => ld Try.prog h 3 b o K) = K (iv x) := fun K => by simp only [d3]; exact hb.c0 (by omega) (x := [iv x]) (by simp [hx]) rfl K
      have gA : ∀ (K : Value → Option (Ex × List Value × H)), (six va (i : Int) 1 fun b o => ld Try.prog h 3 b o K) = K (iv (phi x)) := fun K => by simp only [d3]; exact ha.c0 (by omega) (x := [iv (phi x)]) (by simp [hx]) rfl K
      have gN : ∀ (K : Value → Option (Ex × List Value × H)), (six vn (i : Int) 1 fun b o => ld Try.prog h 3 b o K) = K (iv y) := fun K => by simp only [d3]; exact hN.c0 (by omega) (x := [iv y]) (by simp [hy]) rfl K
      have gS : ∀ (K : Value → Option (Ex × List Value × H)), (six vs ((S.length - 1 : Nat) : Int) 1 fun b o => ld Try.prog h 3 b o K) = K (iv z) := fun K => by simp only [d3]; exact hS.c0 (by omega) (x := [iv z]) (by simp [hz]) rfl K
      have lS : ∀ (K : Int → Option (Ex × List Value × H)), len vs K = K (S.length : Int) := fun K => by rw [hS.len]; simp
      have g1 : gv [.bool false, iv (i : Int)] 1 = iv (i : Int) := rfl
      have hb2 := hbit i y hy
      have fin : ∀ r, r = some (.normal, [.bool false, iv ((i + 1 : Nat) : Int)], h) → ∃ (e : Ex) (ws' : List Value) (h' : H), r = some (e, ws', h') ∧ ((e = .normal ∧ ws' = [.bool false, iv ((i + 1 : Nat) : Int)] ∧ h' = h) ∨ (e ≠ .normal ∧ e = .exit 0 ∧ h' = h)) := fun r hr => ⟨_, _, _, hr, .inl ⟨rfl, rfl, rfl⟩⟩
      refine fin _ ?_
      unfold f16_l1
      rw [g1, asI_int, lt_t (by omega), ifB_true, asK_int, gB, asI_int]
      by_cases h0 : x < 0
      · obtain rfl : x = -1 := by omega
        have hph : phi (-1) = -1 := rfl
        rw [lt_t (by omega), ifB_true, asK_int, gA, asI_int, hph, eq_t rfl, Bool.not_true, ifB_false, asK_int, gB, asI_int, show le 0 (-1) = false from rfl, ifB_false, asK_int, gN, asI_int, nn_ge hs, lS, hsl, gS, asI_int, asK_int, nn_ge (by omega), hb2, eq_t rfl, Bool.not_true, ifB_false, asI_int, hadd]
        rfl
      · have hph : phi x = 31 - x := by unfold phi; rw [if_pos (by omega)]
        have hsub : AM.sub .i64 31 x = 31 - x := sub64 (by omega) (by omega)
        rw [lt_f (by omega), ifB_false, asK_int, gB, asI_int, show le 0 x = true by simp [le]; omega, ifB_true, asK_int, gA, asI_int, asK_int, gB, asI_int, hph, hsub, eq_t rfl, Bool.not_true, ifB_false, asK_int, gN, asI_int, nn_ge hs, lS, hsl, gS, asI_int, asK_int, nn_ge (by omega), hb2, eq_t rfl, Bool.not_true, ifB_false, asI_int, hadd]
        rfl)
    (by
      rintro ws h ⟨rfl, rfl⟩
      refine ⟨.exit 0, [.bool false, iv (B.length : Int)], h, ?_, by simp, rfl, rfl⟩
      unfold f16_l1
      rw [show gv [.bool false, iv (B.length : Int)] 1 = iv (B.length : Int) from rfl, asI_int, lt_f (by omega), ifB_false]
      rfl)
    (ws := [.bool false, iv 0]) (h := g) (by omega) ⟨rfl, rfl⟩
  exact ⟨w, hl⟩

theorem s16 {n s : Int} {sl : Value} {l : List Kl} {h : H} (hs : SlR h 59 3 sl (l.map Kl.cells)) : ∃ h', rn 16 #[.agg #[iv n, sl], iv s] h = some (.bool true, h') := by
  have x1 : Ext h (h.new (.row [iv n, sl] 24 true)) := .new _ _
  have b1 : (h.new (.row [iv n, sl] 24 true)).blk h.nx = some (.row [iv n, sl] 24 true) := blk_new_self _ _
  have n1 : h.nx < (h.new (.row [iv n, sl] 24 true)).nx := Nat.lt_succ_self _
  have start : ∃ h1, f16 rn 40 (.agg #[iv n, sl]) s h = some (.bool true, h1) := by
    unfold f16
    rw [bx_eq, nx_eq, show (Value.agg #[iv n, sl]).cells.toList = [iv n, sl] from rfl]
    generalize h.new (.row [iv n, sl] 24 true) = h1 at *
    have ld1 : ∀ (g : H), Ext h1 g → ∀ (K : Value → Option (Value × H)), ld Try.prog g 24 h.nx 0 K = K (.agg #[iv n, sl]) := fun g x K => by
      rw [d24, rd_all (n := 2) ((x.blk _ n1).trans b1) rfl]; rfl
    have ldn : ∀ (g : H), Ext h1 g → ∀ (K : Value → Option (Value × H)), ld Try.prog g 3 h.nx 0 K = K (iv n) := fun g x K => by
      rw [d3, cell_of ((x.blk _ n1).trans b1)]; rfl
    have ldc : ∀ (g : H), Ext h1 g → ∀ (K : Value → Option (Value × H)), ld Try.prog g 22 h.nx (off 0 1) K = K sl := fun g x K => by
      rw [d22, cell_of ((x.blk _ n1).trans b1)]; rfl
    obtain ⟨la, h2, e2, x2, s2⟩ := s18 (n := n) (hs.ext x1)
    rw [ld1 _ (.refl _), calls_eq (xs := [_]) e2]
    cases hv : (validP n l && decide (0 ≤ s ∧ s < n)) with
    | false =>
      have hv' : (validP n (l.take 26) && decide (0 ≤ s ∧ s < n)) = false := by rw [validP_take]; exact hv
      obtain ⟨h3, e3, x3⟩ := s62_bad s2 hv'
      rw [calls_eq (xs := [_, _]) e3, ext20, ext21, asI_int]
      have x13 := x2.trans x3
      rw [ld1 _ x13]
      obtain ⟨lb, h4, e4, x4, s4⟩ := s18 (n := n) (hs.ext (x1.trans x13))
      rw [calls_eq (xs := [_]) e4]
      cases hv1 : validP n (l.take 26) with
      | false =>
        obtain ⟨h5, e5, x5⟩ := s57_bad s4 hv1
        rw [calls_eq (xs := [_]) e5, ext20, ext21, asI_int, al_st (zs := [.int .i64 0, .slice none 0 0]) (xs := [iv 0, .slice none 0 0]) sz31 rfl rfl]
        exact ⟨_, by simp [k22, asB_bool, ifB, eq]; rfl⟩
      | true =>
        obtain ⟨lc, h5, e5, x5, s5, p5, m5, c5, rfl⟩ := s57 s4 (vp_iff.1 hv1)
        rw [calls_eq (xs := [_]) e5, ext20, ext21, asI_int, al_st (zs := [.int .i64 0, .slice none 0 0]) (xs := [iv n, .slice p5 m5 c5]) sz31 rfl rfl]
        exact ⟨_, by simp [k22, asB_bool, ifB, eq]; rfl⟩
    | true =>
      obtain ⟨hv1, hp⟩ : validP n l = true ∧ (0 ≤ s ∧ s < n) := by simpa using hv
      have v := vp_iff.1 hv1
      have hn1 := v.n1
      have hn7 := v.n7
      have hl24 := v.len
      have hl : l.take 26 = l := List.take_of_length_le (by omega)
      rw [hl] at s2
      obtain ⟨va, h3, ba, e3, x3, _, ia3⟩ := s62 s2 v hp
      rw [calls_eq (xs := [_, _]) e3, ext20, ext21, asI_int]
      have x13 := x2.trans x3
      rw [ld1 _ x13]
      obtain ⟨lb, h4, e4, x4, s4⟩ := s18 (n := n) (hs.ext (x1.trans x13))
      rw [calls_eq (xs := [_]) e4]
      rw [hl] at s4
      obtain ⟨lc, h5, e5, x5, s5, p5, m5, c5, rfl⟩ := s57 s4 v
      rw [calls_eq (xs := [_]) e5, ext20, ext21, asI_int]
      have y7 : Ext h5 (h5.fresh 31 [.int .i64 0, .slice none 0 0] [iv n, .slice p5 m5 c5]) := (Ext.refl _).fresh _ _ _
      have b7 := blk_fresh h5 31 [.int .i64 0, .slice none 0 0] [iv n, .slice p5 m5 c5]
      have n7 : (h5.fresh 31 [.int .i64 0, .slice none 0 0] [iv n, .slice p5 m5 c5]).nx = h5.nx + 1 := rfl
      rw [al_st (zs := [.int .i64 0, .slice none 0 0]) (xs := [iv n, .slice p5 m5 c5]) sz31 rfl rfl, nx_eq]
      generalize h5.fresh 31 [.int .i64 0, .slice none 0 0] [iv n, .slice p5 m5 c5] = h7 at *
      have x17 := ((x13.trans x4).trans x5).trans y7
      have ldx : ∀ (g : H), Ext h7 g → ∀ (K : Value → Option (Value × H)), ld Try.prog g 31 h5.nx 0 K = K (.agg #[iv n, .slice p5 m5 c5]) := fun g x K => by
        rw [d31, rd_all (n := 2) ((x.blk _ (by omega)).trans b7) rfl]; rfl
      rw [eq_t rfl, Bool.not_true, ifB_false, ifB_false, ldx _ (.refl _)]
      obtain ⟨vb, h12, bb, e12, x12, _, ia12⟩ := s45 (s5.ext y7) (vp_iff.2 v.turn) hp
      rw [calls_eq (xs := [_, _]) e12, ext20, ext21, asI_int]
      have z12 := x17.trans x12
      rw [ld1 _ z12]
      obtain ⟨ld_, h13, e13, x13', s13⟩ := s18 (n := n) (hs.ext (x1.trans z12))
      rw [hl] at s13
      rw [calls_eq (xs := [_]) e13]
      obtain ⟨vn, h14, e14, x14, s14'⟩ := s37 s13 hv1
      rw [calls_eq (xs := [_]) e14, ext20, ext21, asI_int]
      have z14 := (z12.trans x13').trans x14
      rw [ld1 _ z14]
      obtain ⟨le_, h15, e15, x15, s15⟩ := s18 (n := n) (hs.ext (x1.trans z14))
      rw [hl] at s15
      rw [calls_eq (xs := [_]) e15]
      obtain ⟨vs, h16, e16, x16, s16'⟩ := s38 s15 hv1 hp
      rw [calls_eq (xs := [_, _]) e16, ext20, ext21, asI_int]
      have z16 := (z14.trans x15).trans x16
      have w16 := (((x13'.trans x14).trans x15).trans x16)
      obtain ⟨hBl, hBb⟩ := arrive_bounds v.turn hp
      obtain ⟨z, hz, hbit⟩ := news_spread v hp
      have sa := (ia3.slR.ext ((x4.trans x5).trans (y7.trans x12))).ext w16
      have sb := ia12.slR.ext w16
      have sn := s14'.ext (x15.trans x16)
      have hSl : (spreadP l s).length < 1000 := by
        have := spread_eq (n := n.toNat) (s := s.toNat) (l := l) (by rw [Int.toNat_of_nonneg (by omega)]; exact hv1) (by omega)
        have hh : ∀ (l' l0 : List Kl) (i : Nat) (st : Int × List Int), (foldI (spreadG l0) l' i st).2.length ≤ st.2.length + l'.length := by
          intro l'
          induction l' with
          | nil => intro l0 i st; exact Nat.le_refl _
          | cons c l' ih =>
            intro l0 i st
            simp only [foldI]
            refine Nat.le_trans (ih l0 (i + 1) _) ?_
            unfold spreadG
            split <;> simp <;> omega
        have := hh l l 0 (shl .i64 1 s, [shl .i64 1 s])
        unfold spreadP
        simp at this
        omega
      have hNl : (newsP n.toNat l).length = (arriveP n.toNat (turnP l) s).length := by rw [newsP_len]; omega
      obtain ⟨w, hlp⟩ := l16 (s := s) hBl hn7 hp.1 sa sb sn s16' hNl hBb hz hbit hSl
      obtain ⟨r, hr⟩ := spread_head l l 0 (shl .i64 1 s, [shl .i64 1 s]) (shl .i64 1 s) [] rfl
      have hr' : spreadP l s = shl .i64 1 s :: r := hr
      have la : ∀ (K : Int → Option (Value × H)), len va K = K n := fun K => by rw [sa.len]; simp [hBl]
      have lb' : ∀ (K : Int → Option (Value × H)), len vb K = K n := fun K => by rw [sb.len]; simp [hBl]
      have ln : ∀ (K : Int → Option (Value × H)), len vn K = K n := fun K => by rw [sn.len]; simp [newsP_len]; congr 1; omega
      have ls : ∀ (K : Int → Option (Value × H)), len vs K = K ((spreadP l s).length : Int) := fun K => by rw [s16'.len]; simp
      have g0 : ∀ (K : Value → Option (Value × H)), (six vs 0 1 fun b o => ld Try.prog h16 3 b o K) = K (iv (shl .i64 1 s)) := fun K => by simp only [d3]; exact s16'.c0 (by omega) (x := [iv (shl .i64 1 s)]) (by simp [hr']) rfl K
      rw [eq_t rfl, Bool.not_true, ifB_false, ifB_false, ifB_false, la, ldn _ z16, asI_int, eq_t rfl, Bool.not_true, ifB_false, lb', ldn _ z16, asI_int, eq_t rfl, Bool.not_true, ifB_false, ln, ldn _ z16, asI_int, eq_t rfl, Bool.not_true, ifB_false, ls, eq_f (by rw [hr']; simp; omega), ifB_false, g0, asI_int, nn_ge hp.1, eq_t rfl, Bool.not_true, ifB_false, la, ← hBl, lp_eq hlp, onE_exit, if_pos rfl, ldx _ (x12.trans w16)]
      obtain ⟨lf, h19, e19, x19, s19, p19, m19, c19, rfl⟩ := s57 ((s5.ext y7).ext (x12.trans w16)) v.turn
      rw [calls_eq (xs := [_]) e19, ext20, ext21, asI_int]
      have y21 : Ext h19 (h19.fresh 31 [.int .i64 0, .slice none 0 0] [iv n, .slice p19 m19 c19]) := (Ext.refl _).fresh _ _ _
      have b21 := blk_fresh h19 31 [.int .i64 0, .slice none 0 0] [iv n, .slice p19 m19 c19]
      rw [al_st (zs := [.int .i64 0, .slice none 0 0]) (xs := [iv n, .slice p19 m19 c19]) sz31 rfl rfl, nx_eq]
      generalize h19.fresh 31 [.int .i64 0, .slice none 0 0] [iv n, .slice p19 m19 c19] = h21 at *
      have z21 := (z16.trans x19).trans y21
      have l19 : ∀ (K : Int → Option (Value × H)), len (.slice p19 m19 c19) K = K (l.length : Int) := fun K => by rw [s19.len]; simp [turnP_len v.turn, turnP_len v]
      have lsl : ∀ (K : Int → Option (Value × H)), len sl K = K (l.length : Int) := fun K => by rw [hs.len]; simp
      rw [eq_t rfl, ifB_true, d29, cell_of b21, show ([iv n, .slice p19 m19 c19] : List Value)[off 0 1]? = some (.slice p19 m19 c19) from rfl, Option.bind_some, l19, ldc _ z21, lsl, eq_t rfl, ifB_true, k22]
      exact ⟨_, by rw [asB_bool]⟩
  obtain ⟨h1, e⟩ := start
  exact ⟨_, t16 e⟩

end Go.AM

end

section

/- The logs that a statement is handed, in the abstract heap. -/
namespace Go.AM
open Go.Proofs Go.ChangeShapes
variable {HH : Type} {enc : TypeId × Value → HH} {w : World} {base : Nat} {held : Bool}
noncomputable def fields59 : Array Field := match Try.prog.underlying 59 with
  | some (.struct fs) => fs
  | _ => #[]

theorem under59 : Try.prog.underlying 59 = some (.struct fields59) := by kernel_rfl

theorem fields59_types : fields59.toList.map (fun f => (f.type, f.offset)) = [(3, 0), (3, 1), (3, 2)] := by kernel_rfl

theorem cellsOf3 : Try.prog.cellsOf 3 = 1 := by kernel_rfl

theorem cellsOf59 : Try.prog.cellsOf 59 = 3 := by kernel_rfl

theorem flat59 (n : Nat) (cs : List Value) (x : DataW HH × List MemPlace) (h : DataW.trod enc Try.prog w base (fun _ => true) held n 59 cs = some x) : ∃ c : Kl, cs = c.cells := by
  obtain ⟨a, b, t, e⟩ := trod_three under59 fields59_types (show Try.prog.underlying 3 = some (.int .i64) from by kernel_rfl) cellsOf3 cellsOf59 h
  exact ⟨⟨a, b, t⟩, e⟩

/-- Rows that are cells of calls are the cells of a list of calls. -/
theorem calls_of : ∀ (l : List (List Value)), (∀ x ∈ l, ∃ c : Kl, x = c.cells) → ∃ l' : List Kl, l = l'.map Kl.cells := by
  intro l
  induction l with
  | nil => intro _; exact ⟨[], rfl⟩
  | cons x l ih =>
    intro h
    obtain ⟨c, hc⟩ := h x (by simp)
    obtain ⟨l', hl⟩ := ih (fun y hy => h y (List.mem_cons_of_mem _ hy))
    exact ⟨c :: l', by rw [hc, hl]; rfl⟩

noncomputable def fields24 : Array Field := match Try.prog.underlying 24 with
  | some (.struct fs) => fs
  | _ => #[]

noncomputable def field24 (i : Nat) : Field := fields24[i]!

theorem under24s : Try.prog.underlying 24 = some (.struct fields24) := by kernel_rfl

theorem fields24_eq : fields24 = #[field24 0, field24 1] := by kernel_rfl

theorem field24_0 : ((field24 0).type, (field24 0).offset) = (3, 0) := by kernel_rfl

theorem field24_1 : ((field24 1).type, (field24 1).offset) = (22, 1) := by kernel_rfl

theorem under3 : Try.prog.underlying 3 = some (.int .i64) := by kernel_rfl

theorem under22L : Try.prog.underlying 22 = some (.slice 59) := by kernel_rfl

theorem cellsOf24 : Try.prog.cellsOf 24 = 2 := by kernel_rfl

theorem cellsOf22 : Try.prog.cellsOf 22 = 1 := by kernel_rfl

theorem bytes59 : Try.prog.bytesOf 59 = 24 := by kernel_rfl

theorem types24 : Try.prog.cellTypes Try.prog.depth 24 = some [3, 22] := by kernel_rfl

set_option maxRecDepth 100000 in
/-- A log that came in. -/
theorem open_log {rr : Reach} {b0 : Nat} {v : Value} {d : DataW HH} {ps : List MemPlace} (hv : Value.okWide Try.prog w rr b0 24 v) (hwt : ∀ x ∈ d.weights Try.prog 24, x ≤ reachBytes)
    (hd : DataW.Trod enc Try.prog w base (fun _ => true) held 24 v d ps) {ι : Nat → Emb} {h : H} (r : Rel Try.prog E0 ι h w) (hro : ∀ b k, h.blk b = some k → k.own = false) :
    ∃ (n : Int) (sl sl0 : Value) (ι' : Nat → Emb) (h' : H) (l : List Kl), v = .agg #[iv n, sl] ∧ (Lit.int .i64 n).wf = true ∧ Rel Try.prog E0 ι' h' w ∧ (∀ b k, h'.blk b = some k → k.own = false) ∧ Ext h h' ∧ (∀ b, b < h.nx → ι' b = ι b) ∧
      VR ι' h'.nx sl0 sl ∧ SlR h' 59 3 sl0 (l.map Kl.cells) := by
  obtain ⟨n, a, len, cap, d1, p1, rfl, hn, hw1, hhas, hd1⟩ := open_numslice under24s fields24_eq (Prod.mk.inj field24_0) (Prod.mk.inj field24_1) under3 under22L cellsOf24 cellsOf3 cellsOf22 types24 hv hwt hd
  obtain ⟨ι', h', v0, l, g1, g2, g3, g4, g5, g6, g7⟩ := open_flat r hro under22L sz59 cellsOf59 (by decide) (Q := fun x => ∃ c : Kl, x = c.cells) flat59 (by
    rintro cs ⟨c, rfl⟩
    exact ⟨rfl, fun v hv => by simp [Kl.cells] at hv; rcases hv with rfl | rfl | rfl <;> exact ⟨_, _, rfl⟩⟩) (by rw [bytes59]; exact Nat.succ_pos _) hw1 hhas hd1
  obtain ⟨l', rfl⟩ := calls_of l g7
  exact ⟨n, _, v0, ι', h', l', rfl, hn, g1, g2, g3, g4, g5, g6⟩

end Go.AM

end
