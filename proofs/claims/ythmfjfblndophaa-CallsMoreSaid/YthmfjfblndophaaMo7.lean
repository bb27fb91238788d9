/- Parts of the proof, put together: the abstract machine, what the functions of the program answer, and plain laws. -/
import Derived.Test.YthmfjfblndophaaMo6

section
namespace Go.AM
open Go.Proofs
theorem ap48 {n s t : Int} {sl : Value} {l : List Kl} {h : H} (hs : SlR h 56 3 sl (l.map Kl.cells)) : ∃ (v : Value) (m e : Int) (h' : H), rn 48 #[.agg #[iv n, sl], iv s, iv t] h = some (.tuple #[v, iv e], h') ∧ Ext h h' ∧ (∀ {T : Type} (K : Int → Option T), len v K = K m) ∧
    (pairP n l s t = true → e = 0 ∧ ∃ W, AprR l s t W ∧ m = W.length) ∧ (pairP n l s t = false → e = 2) := by
  cases hp : pairP n l s t with
  | false =>
    obtain ⟨h4, e4, x4⟩ := s48_bad (s := s) (t := t) hs hp
    exact ⟨_, 0, 2, h4, e4, x4, fun K => rfl, fun h => (by cases h), fun _ => rfl⟩
  | true =>
    have hn1 := (validP_ok (pairP_parts hp).1).1
    obtain ⟨m, rfl⟩ := Int.eq_ofNat_of_zero_le (show 0 ≤ n by omega)
    obtain ⟨v, vs, W, h4, e4, x4, a4, w4, r4⟩ := s48 (s := s) (t := t) hs hp
    have hvl : vs.length = W.length := w4.1
    exact ⟨v, vs.length, 0, h4, e4, x4, fun K => by rw [a4.len]; simp, fun _ => ⟨rfl, W, r4, by rw [hvl]⟩, fun h => (by cases h)⟩
theorem arr_nn {n s : Int} {l : List Kl} (hv : validP n l = true) (hs : 0 ≤ s ∧ s < n) {p : Int} (hp : 0 ≤ p ∧ p < n) (h : atP (arriveP n.toNat l s) p ≠ -1) : 0 ≤ atP (arriveP n.toNat l s) p := by
  rw [arrive_K] at h ⊢
  rcases (arr_ok hv hs l.length (Nat.le_refl _)).by_ p hp h with ⟨h1, _⟩ | ⟨j, c, _, hc, _, h2⟩
  · omega
  · have := okC_iff.1 ((validP_ok hv).2.2.2 j c hc)
    omega
theorem l132 {n s : Int} {l L : List Kl} {va vb : Value} {ba bb : Nat} {g : H} {kk k : Nat} (hk : 8 ≤ k) (r : InsR l L) (hv : validP n l = true) (hV : validP n L = true) (hs : 0 ≤ s ∧ s < n) (ia : IA g ba va (arriveP n.toNat l s)) (ib : IA g bb vb (arriveP n.toNat L s)) :
    ∃ ws, lpGo (f13_l2 rcW kk va vb n.toNat) k [.bool false, iv 0] g = some (.exit 2, ws, g) := by
  obtain ⟨hv1, hv2, _⟩ := validP_ok hv
  have la : (arriveP n.toNat l s).length = n.toNat := by rw [arrive_K]; exact arrK_len
  have lb : (arriveP n.toNat L s).length = n.toNat := by rw [arrive_K]; exact arrK_len
  obtain ⟨ws', g', q1, rfl, rfl⟩ := lp_for (k := k) (l := List.range n.toNat) (F := f13_l2 rcW kk va vb n.toNat) (fun _ _ (u : Unit) => u)
    (fun i _ ws g' => g' = g ∧ ws = [.bool false, iv i]) 2 (ws := [.bool false, iv 0]) (h := g) (s0 := ()) ⟨rfl, rfl⟩ (by rw [List.length_range]; omega)
    (by
      rintro _ ws g' ⟨rfl, rfl⟩
      unfold f13_l2
      simp only [gv, List.getD_cons_zero, List.getD_cons_succ, asI_int, List.length_range]
      rw [lt_f (by omega), ifB_false]; rfl)
    (by
      rintro i x _ ws g' hx ⟨rfl, rfl⟩
      have hi : i < n.toNat := by
        have := (List.getElem?_eq_some_iff.1 hx).1
        rwa [List.length_range] at this
      have ga : (arriveP n.toNat l s)[((i : Nat) : Int).toNat]? = some (atP (arriveP n.toNat l s) i) := by
        unfold atP
        rw [Int.toNat_natCast, List.getD_eq_getElem?_getD, List.getElem?_eq_getElem (by omega)]
        rfl
      have gb : (arriveP n.toNat L s)[((i : Nat) : Int).toNat]? = some (atP (arriveP n.toNat L s) i) := by
        unfold atP
        rw [Int.toNat_natCast, List.getD_eq_getElem?_getD, List.getElem?_eq_getElem (by omega)]
        rfl
      have hadd : add .i64 (i : Int) 1 = ((i + 1 : Nat) : Int) := by rw [add64 (by omega) (by omega)]; simp
      refine ⟨[.bool false, iv (i + 1 : Nat)], g', ?_, rfl, rfl⟩
      unfold f13_l2
      simp only [gv, List.getD_cons_zero, List.getD_cons_succ, asI_int, asK_int]
      rw [lt_t (by omega), ifB_true]
      simp only [d3]
      rw [ia.get (by omega) ga, asI_int]
      by_cases h0 : 0 ≤ atP (arriveP n.toNat l s) i
      · obtain ⟨m1, m2⟩ := more_arr r hv hV hs (q := i) (by omega) (by omega)
        have m3 := arr_nn hV hs (p := i) (by omega) m1
        rw [le_t h0, ifB_true, ib.get (by omega) gb, asI_int, lt_f (by omega), ifB_false]
        rw [ib.get (by omega) gb, asI_int, ia.get (by omega) ga, asI_int, lt_f (by omega), ifB_false, hadd]
        rfl
      · rw [le_f (by omega), ifB_false, hadd]
        rfl)
  exact ⟨_, q1⟩
theorem validP_t26 {n : Int} {l : List Kl} : validP n (l.take 26) = validP n l := by
  first | exact validP_take | (rw [validP_take])
set_option maxHeartbeats 1000000 in
theorem s13t {n s t : Int} {sl sv : Value} {l L : List Kl} {h0 h2 hA : H} {k : Nat} (hk : 8 ≤ k) (r : InsR l L) (hs : SlR hA 59 3 sl (l.map Kl.cells)) (hS : SlR hA 59 3 sv (L.map Kl.cells)) (b0 : hA.blk h0.nx = some (.row [iv n, sl] 24 true)) (b2 : hA.blk h2.nx = some (.row [iv n, sv] 24 true))
    (lt0 : h0.nx < hA.nx) (lt2 : h2.nx < hA.nx) : ∃ h', f13_t rcW k h0 h2 s t hA = some (.bool true, h') := by
  have k22' : ∀ (h : H) (K : Value → H → Option (Value × H)), calls rcW h 22 [] K = K (.bool true) h := fun h K => (rcW_ne (by decide) (by decide)).trans (k22 h K)
  obtain ⟨la, h26, e26, x26, s26⟩ := s18 (n := n) hs
  have y26 := x26.nx
  -- the old log's arrivals
  have A : ∃ (v : Value) (e : Int) (h' : H), rn 45 #[.agg #[iv n, la], iv s] h26 = some (.tuple #[v, iv e], h') ∧ Ext h26 h' ∧ ((validP n l = true ∧ (0 ≤ s ∧ s < n)) → e = 0 ∧ ∃ b, IA h' b v (arriveP n.toNat l s)) ∧ (¬ (validP n l = true ∧ (0 ≤ s ∧ s < n)) → e = 2) := by
    by_cases hc : validP n l = true ∧ (0 ≤ s ∧ s < n)
    · have hl : l.take 26 = l := List.take_of_length_le (by have := (validP_ok hc.1).2.2.1; omega)
      rw [hl] at s26
      obtain ⟨v, h', b, e, x, _, ia⟩ := s45 s26 hc.1 hc.2
      exact ⟨v, 0, h', e, x, fun _ => ⟨rfl, b, ia⟩, fun h => absurd hc h⟩
    · obtain ⟨h', e, x⟩ := s45_bad (n := n) (s := s) s26 (by
        rw [validP_t26]
        cases hv : validP n l with
        | false => rfl
        | true => rw [Bool.true_and, decide_eq_false (fun h => hc ⟨hv, h⟩)])
      exact ⟨_, 2, h', e, x, fun h => absurd h hc, fun _ => rfl⟩
  obtain ⟨v37, n11, h27, e27, x27, A1, A2⟩ := A
  have y27 := x27.nx
  have x2 := x26.trans x27
  have hS27 := hS.ext x2
  have hs27 := hs.ext x2
  have c0 := (x2.blk _ lt0).trans b0
  have c2 := (x2.blk _ lt2).trans b2
  obtain ⟨lb, h28, e28, x28, s28⟩ := s18 (n := n) hS27
  have y28 := x28.nx
  have B : ∃ (v : Value) (e : Int) (h' : H), rn 45 #[.agg #[iv n, lb], iv s] h28 = some (.tuple #[v, iv e], h') ∧ Ext h28 h' ∧ ((validP n L = true ∧ (0 ≤ s ∧ s < n)) → e = 0 ∧ ∃ b, IA h' b v (arriveP n.toNat L s)) ∧ (¬ (validP n L = true ∧ (0 ≤ s ∧ s < n)) → e = 2) := by
    by_cases hc : validP n L = true ∧ (0 ≤ s ∧ s < n)
    · have hl : L.take 26 = L := List.take_of_length_le (by have := (validP_ok hc.1).2.2.1; omega)
      rw [hl] at s28
      obtain ⟨v, h', b, e, x, _, ia⟩ := s45 s28 hc.1 hc.2
      exact ⟨v, 0, h', e, x, fun _ => ⟨rfl, b, ia⟩, fun h => absurd hc h⟩
    · obtain ⟨h', e, x⟩ := s45_bad (n := n) (s := s) s28 (by
        rw [validP_t26]
        cases hv : validP n L with
        | false => rfl
        | true => rw [Bool.true_and, decide_eq_false (fun h => hc ⟨hv, h⟩)])
      exact ⟨_, 2, h', e, x, fun h => absurd h hc, fun _ => rfl⟩
  obtain ⟨v42, n12, h29, e29, x29, B1, B2⟩ := B
  have y29 := x29.nx
  have x3 := x28.trans x29
  let R0 : Option (Value × H) → Prop := fun o => ∃ h', o = some (.bool true, h')
  show R0 _
  unfold f13_t
  simp only [nx_eq]
  rw [d24, rd_all (n := 2) b0 rfl, Option.bind_some, rcW_ne (by decide) (by decide)]
  rw [show ∀ K : Value → H → Option (Value × H), calls rn hA 18 [.agg (([iv n, sl] : List Value).toArray)] K = K (.agg #[iv n, la]) h26 from fun K => calls_eq (xs := [_]) e26, rcW_ne (by decide) (by decide)]
  rw [show ∀ K : Value → H → Option (Value × H), calls rn h26 45 [.agg #[iv n, la], .int .i64 s] K = K (.tuple #[v37, iv n11]) h27 from fun K => calls_eq (xs := [_, _]) e27, ext20, ext21, asI_int]
  rw [d24, rd_all (n := 2) c2 rfl, Option.bind_some, rcW_ne (by decide) (by decide)]
  rw [show ∀ K : Value → H → Option (Value × H), calls rn h27 18 [.agg (([iv n, sv] : List Value).toArray)] K = K (.agg #[iv n, lb]) h28 from fun K => calls_eq (xs := [_]) e28, rcW_ne (by decide) (by decide)]
  rw [show ∀ K : Value → H → Option (Value × H), calls rn h28 45 [.agg #[iv n, lb], .int .i64 s] K = K (.tuple #[v42, iv n12]) h29 from fun K => calls_eq (xs := [_, _]) e29, ext20, ext21, asI_int]
  by_cases ha : validP n l = true ∧ (0 ≤ s ∧ s < n)
  · obtain ⟨rfl, ba, ia⟩ := A1 ha
    rw [eq_t rfl, Bool.not_true, ifB_false]
    by_cases hb : validP n L = true ∧ (0 ≤ s ∧ s < n)
    · obtain ⟨rfl, bb, ib⟩ := B1 hb
      obtain ⟨hv, hsn⟩ := ha
      have hV := hb.1
      have la_ : (arriveP n.toNat l s).length = n.toNat := by rw [arrive_K]; exact arrK_len
      have lb_ : (arriveP n.toNat L s).length = n.toNat := by rw [arrive_K]; exact arrK_len
      rw [eq_t rfl, Bool.not_true, ifB_false, ia.len, ib.len, la_, lb_, eq_t rfl, Bool.not_true, ifB_false, ia.len, la_]
      obtain ⟨ws, q⟩ := l132 (kk := k) hk r hv hV hsn (ia.ext x3) ib
      rw [lp_eq q, onE_exit, if_pos rfl]
      have hl : l.take 26 = l := List.take_of_length_le (by have := (validP_ok hv).2.2.1; omega)
      have hL : L.take 26 = L := List.take_of_length_le (by have := (validP_ok hV).2.2.1; omega)
      have xa := x2.trans x3
      have d0 := (xa.blk _ lt0).trans b0
      have hs29 := hs.ext xa
      have hS29 := hS.ext xa
      have d2 := (xa.blk _ lt2).trans b2
      -- Wide of both
      obtain ⟨l1, g1, f1, z1, t1⟩ := s18 (n := n) hs29
      rw [hl] at t1
      have w1 := z1.nx
      have d2' := (z1.blk _ (by omega)).trans d2
      obtain ⟨l2, g2, f2, z2, t2⟩ := s18 (n := n) (hS29.ext z1)
      rw [hL] at t2
      have w2 := z2.nx
      have z12 := z1.trans z2
      have d0' := (z12.blk _ (by omega)).trans d0
      -- Apart of both
      obtain ⟨l3, g3, f3, z3, t3⟩ := s18 (n := n) (hs29.ext z12)
      rw [hl] at t3
      have w3_ := z3.nx
      obtain ⟨v64, m1, n31, g4, e48, z4, len1, P1, P2⟩ := ap48 (n := n) (s := s) (t := t) t3
      have w4 := z4.nx
      have z34 := (z12.trans z3).trans z4
      have d2'' := (z34.blk _ (by omega)).trans d2
      obtain ⟨l5, g5, f5, z5, t5⟩ := s18 (n := n) (hS29.ext z34)
      rw [hL] at t5
      obtain ⟨v69, m2, n32, g6, e48', z6, len2, Q1, Q2⟩ := ap48 (n := n) (s := s) (t := t) t5
      rw [d24, rd_all (n := 2) d0 rfl, Option.bind_some, rcW_ne (by decide) (by decide)]
      rw [show ∀ K : Value → H → Option (Value × H), calls rn h29 18 [.agg (([iv n, sl] : List Value).toArray)] K = K (.agg #[iv n, l1]) g1 from fun K => calls_eq (xs := [_]) f1]
      rw [k53 t1, ext20, asI_int, ext21, asI_int, d24, rd_all (n := 2) d2' rfl, Option.bind_some, rcW_ne (by decide) (by decide)]
      rw [show ∀ K : Value → H → Option (Value × H), calls rn g1 18 [.agg (([iv n, sv] : List Value).toArray)] K = K (.agg #[iv n, l2]) g2 from fun K => calls_eq (xs := [_]) f2]
      rw [k53 t2, ext20, asI_int, ext21, asI_int, d24, rd_all (n := 2) d0' rfl, Option.bind_some, rcW_ne (by decide) (by decide)]
      rw [show ∀ K : Value → H → Option (Value × H), calls rn g2 18 [.agg (([iv n, sl] : List Value).toArray)] K = K (.agg #[iv n, l3]) g3 from fun K => calls_eq (xs := [_]) f3, rcW_ne (by decide) (by decide)]
      rw [show ∀ K : Value → H → Option (Value × H), calls rn g3 48 [.agg #[iv n, l3], .int .i64 s, .int .i64 t] K = K (.tuple #[v64, iv n31]) g4 from fun K => calls_eq (xs := [_, _, _]) e48, ext20, ext21, asI_int]
      rw [d24, rd_all (n := 2) d2'' rfl, Option.bind_some, rcW_ne (by decide) (by decide)]
      rw [show ∀ K : Value → H → Option (Value × H), calls rn g4 18 [.agg (([iv n, sv] : List Value).toArray)] K = K (.agg #[iv n, l5]) g5 from fun K => calls_eq (xs := [_]) f5, rcW_ne (by decide) (by decide)]
      rw [show ∀ K : Value → H → Option (Value × H), calls rn g5 48 [.agg #[iv n, l5], .int .i64 s, .int .i64 t] K = K (.tuple #[v69, iv n32]) g6 from fun K => calls_eq (xs := [_, _, _]) e48', ext20, ext21, asI_int]
      refine ⟨g6, ?_⟩
      have hpp : pairP n l s t = pairP n L s t := by unfold pairP; rw [hv, hV]
      cases hp : pairP n l s t with
      | false =>
        have hP : pairP n L s t = false := hpp.symm.trans hp
        have ea : widA n l s t = (0, 2) := by unfold widA; rw [hp]; rfl
        have eb : widA n L s t = (0, 2) := by unfold widA; rw [hP]; rfl
        rw [ea, eb, P2 hp, Q2 hP]
        simp only
        rw [eq_f (by decide), Bool.not_false, ifB_true, eq_t rfl, ifB_true, ifB_true, ifB_true, ifB_true, k22', asB_bool]
      | true =>
        have hP : pairP n L s t = true := hpp.symm.trans hp
        obtain ⟨_, _, _, _, _, ko, hal⟩ := s92 hs29 hp
        obtain ⟨_, _, _, _, _, kO, haL⟩ := s92 hS29 hP
        have ea : widA n l s t = (((wideN l s t : Nat) : Int), 0) := by unfold widA; rw [hp, ← wide_N hp hal ko]; rfl
        have eb : widA n L s t = (((wideN L s t : Nat) : Int), 0) := by unfold widA; rw [hP, ← wide_N hP haL kO]; rfl
        obtain ⟨rfl, W, aw, rfl⟩ := P1 hp
        obtain ⟨rfl, W', aw', rfl⟩ := Q1 hP
        have hw := more_wide r hp hP
        have hm := more_mc r hp hP aw
        have hm' := aw'.len
        rw [ea, eb]
        simp only
        rw [eq_t rfl, Bool.not_true, ifB_false, ifB_true, ifB_true, ifB_true, le_t (by omega), ifB_true, len2, len1, le_t (by omega), ifB_true, k22', asB_bool]
    · rw [B2 hb, eq_f (by decide), Bool.not_false, ifB_true, eq_t rfl, ifB_true]
      exact ⟨h29, by rw [k22', asB_bool]⟩
  · have hb : ¬ (validP n L = true ∧ (0 ≤ s ∧ s < n)) := fun h => ha ⟨r.valid h.1, h.2⟩
    rw [A2 ha, B2 hb, eq_f (by decide), Bool.not_false, ifB_true, eq_t rfl, ifB_true]
    exact ⟨h29, by rw [k22', asB_bool]⟩
end Go.AM
end

section
namespace Go.AM
open Go.Proofs Go.ChangeShapes
variable {HH : Type} {enc : TypeId × Value → HH} {w : World} {base : Nat} {held : Bool}
noncomputable def fields59 : Array Field := match Try.prog.underlying 59 with
  | some (.struct fs) => fs
  | _ => #[]
theorem under59 : Try.prog.underlying 59 = some (.struct fields59) := by kernel_rfl
theorem fields59_types : fields59.toList.map (fun f => (f.type, f.offset)) = [(3, 0), (3, 1), (3, 2)] := by kernel_rfl
theorem cellsOf3 : Try.prog.cellsOf 3 = 1 := by kernel_rfl
theorem cellsOf59 : Try.prog.cellsOf 59 = 3 := by kernel_rfl
theorem flat59 (n : Nat) (cs : List Value) (x : DataW HH × List MemPlace) (h : DataW.trod enc Try.prog w base (fun _ => true) held n 59 cs = some x) : ∃ c : Kl, cs = c.cells := by
  obtain ⟨a, b, t, e⟩ := trod_three under59 fields59_types (show Try.prog.underlying 3 = some (.int .i64) from by kernel_rfl) cellsOf3 cellsOf59 h
  exact ⟨⟨a, b, t⟩, e⟩
/-- Rows that are cells of calls are the cells of a list of calls. -/
theorem calls_of : ∀ (l : List (List Value)), (∀ x ∈ l, ∃ c : Kl, x = c.cells) → ∃ l' : List Kl, l = l'.map Kl.cells := by
  intro l
  induction l with
  | nil => intro _; exact ⟨[], rfl⟩
  | cons x l ih =>
    intro h
    obtain ⟨c, hc⟩ := h x (by simp)
    obtain ⟨l', hl⟩ := ih (fun y hy => h y (List.mem_cons_of_mem _ hy))
    exact ⟨c :: l', by rw [hc, hl]; rfl⟩
noncomputable def fields24 : Array Field := match Try.prog.underlying 24 with
  | some (.struct fs) => fs
  | _ => #[]
noncomputable def field24 (i : Nat) : Field := fields24[i]!
theorem under24s : Try.prog.underlying 24 = some (.struct fields24) := by kernel_rfl
theorem fields24_eq : fields24 = #[field24 0, field24 1] := by kernel_rfl
theorem field24_0 : ((field24 0).type, (field24 0).offset) = (3, 0) := by kernel_rfl
theorem field24_1 : ((field24 1).type, (field24 1).offset) = (22, 1) := by kernel_rfl
theorem under3 : Try.prog.underlying 3 = some (.int .i64) := by kernel_rfl
theorem under22L : Try.prog.underlying 22 = some (.slice 59) := by kernel_rfl
theorem cellsOf24 : Try.prog.cellsOf 24 = 2 := by kernel_rfl
theorem cellsOf22 : Try.prog.cellsOf 22 = 1 := by kernel_rfl
theorem bytes59 : Try.prog.bytesOf 59 = 24 := by kernel_rfl
theorem types24 : Try.prog.cellTypes Try.prog.depth 24 = some [3, 22] := by kernel_rfl
set_option maxRecDepth 100000 in
/-- A log that came in. -/
theorem open_log {rr : Reach} {b0 : Nat} {v : Value} {d : DataW HH} {ps : List MemPlace} (hv : Value.okWide Try.prog w rr b0 24 v) (hwt : ∀ x ∈ d.weights Try.prog 24, x ≤ reachBytes)
    (hd : DataW.Trod enc Try.prog w base (fun _ => true) held 24 v d ps) {ι : Nat → Emb} {h : H} (r : Rel Try.prog E0 ι h w) (hro : ∀ b k, h.blk b = some k → k.own = false) :
    ∃ (n : Int) (sl sl0 : Value) (ι' : Nat → Emb) (h' : H) (l : List Kl), v = .agg #[iv n, sl] ∧ (Lit.int .i64 n).wf = true ∧ Rel Try.prog E0 ι' h' w ∧ (∀ b k, h'.blk b = some k → k.own = false) ∧ Ext h h' ∧ (∀ b, b < h.nx → ι' b = ι b) ∧
      VR ι' h'.nx sl0 sl ∧ SlR h' 59 3 sl0 (l.map Kl.cells) := by
  obtain ⟨n, a, len, cap, d1, p1, rfl, hn, hw1, hhas, hd1⟩ := open_numslice under24s fields24_eq (Prod.mk.inj field24_0) (Prod.mk.inj field24_1) under3 under22L cellsOf24 cellsOf3 cellsOf22 types24 hv hwt hd
  obtain ⟨ι', h', v0, l, g1, g2, g3, g4, g5, g6, g7⟩ := open_flat r hro under22L sz59 cellsOf59 (by decide) (Q := fun x => ∃ c : Kl, x = c.cells) flat59 (by
    rintro cs ⟨c, rfl⟩
    exact ⟨rfl, fun v hv => by simp [Kl.cells] at hv; rcases hv with rfl | rfl | rfl <;> exact ⟨_, _, rfl⟩⟩) (by rw [bytes59]; exact Nat.succ_pos _) hw1 hhas hd1
  obtain ⟨l', rfl⟩ := calls_of l g7
  exact ⟨n, _, v0, ι', h', l', rfl, hn, g1, g2, g3, g4, g5, g6⟩
end Go.AM
end

section
namespace Go.AM
open Go.Proofs Go.ChangeShapes
theorem s13 {n s t : Int} {sl : Value} {l : List Kl} {c : Kl} {h : H} (hm : l.length + 2 < 2 ^ 43) (hs : SlR h 59 3 sl (l.map Kl.cells)) : ∃ h', f13 rcW (l.length + 1000) (.agg #[iv n, sl]) c.val s t h = some (.bool true, h') := by
  let h1 := h.new (.row [iv n, sl] 24 true)
  let h2 := h1.new (.row c.cells 59 true)
  have x1 : Ext h h1 := .new _ _
  have x2 : Ext h1 h2 := .new _ _
  have n1 : h1.nx = h.nx + 1 := rfl
  have n2 : h2.nx = h.nx + 2 := rfl
  have b0 : h2.blk h.nx = some (.row [iv n, sl] 24 true) := (x2.blk _ (by omega)).trans (blk_new_self _ _)
  have b1 : h2.blk h1.nx = some (.row c.cells 59 true) := blk_new_self _ _
  have y4 := (Ext.refl h2).fresh 24 [.int .i64 0, .slice none 0 0] [iv n, .slice none 0 0]
  have p4 := blk_fresh h2 24 [.int .i64 0, .slice none 0 0] [iv n, .slice none 0 0]
  have n4 : (h2.fresh 24 [.int .i64 0, .slice none 0 0] [iv n, .slice none 0 0]).nx = h2.nx + 1 := rfl
  have al4 : ∀ {R : Type} (K : H → Option R), (al h2 24 [(.int .i64 0), (.slice none 0 0)] fun h3 => st Try.prog h3 24 (nx h2) 0 (.agg #[iv n, .slice none 0 0]) K) = K (h2.fresh 24 [.int .i64 0, .slice none 0 0] [iv n, .slice none 0 0]) := fun K => al_st sz24 rfl rfl
  generalize h2.fresh 24 [.int .i64 0, .slice none 0 0] [iv n, .slice none 0 0] = h4 at *
  have c0 := (y4.blk _ (by omega)).trans b0
  have c1 := (y4.blk _ (by omega)).trans b1
  have hs4 := ((hs.ext x1).ext x2).ext y4
  have hsb : ∀ b, blkOf sl = some b → b < h.nx := fun b hb => slR_bel hs hb
  obtain ⟨ws, g, sv, q1, q2, q3, q4, q5, q6, q7⟩ := l131 (c := c) (kk := l.length + 1000) (k := l.length + 1000) (h1 := h1) (h2 := h2) (h4 := h4) (n := n) hm (by omega) hs4 (fun b hb => by have := hsb b hb; omega) c1 p4 (by omega) (by omega) (by omega)
  have g0 := (q3 h.nx (by omega) (by omega)).trans c0
  have g1 := (q3 h1.nx (by omega) (by omega)).trans c1
  have hsg : SlR g 59 3 sl (l.map Kl.cells) := slR_keep hs4 q2 fun b hb => q3 b (by have := hsb b hb; omega) (by have := hsb b hb; omega)
  have hr := ins_r l c
  have head : ∀ o, (if c ∈ l.foldl (insS c) [] then f13_t rcW (l.length + 1000) h h2 s t g else
      (bls Try.prog g 22 1 [(0, .agg c.cells.toArray)] fun v13 h9 => app Try.prog h9 22 22 sv v13 fun v14 h10 => st Try.prog h10 22 h2.nx (off 0 1) v14 fun h25 => f13_t rcW (l.length + 1000) h h2 s t h25)) = o → f13 rcW (l.length + 1000) (.agg #[iv n, sl]) c.val s t h = o := by
    rintro o rfl
    rw [f13_is, bx_eq, bx_eq]
    show ld Try.prog h2 3 h.nx 0 _ = _
    rw [d3, cell_of b0, show ([iv n, sl] : List Value)[0]? = some (iv n) from rfl, Option.bind_some, asI_int, kbld24]
    refine (al4 _).trans ?_
    show ld Try.prog h4 22 h.nx (off 0 1) _ = _
    rw [d22, cell_of c0, show ([iv n, sl] : List Value)[off 0 1]? = some sl from rfl, Option.bind_some]
    have hlen : ∀ {T : Type} (K : Int → Option T), len sl K = K l.length := fun K => by rw [hs.len]; simp
    rw [hlen]
    refine (lp_eq q1).trans ?_
    rw [onE_exit, if_pos rfl]
    show ld Try.prog g 22 h2.nx (off 0 1) _ = _
    rw [d22, cell_of q4, show ([iv n, sv] : List Value)[off 0 1]? = some sv from rfl, Option.bind_some]
    show ld Try.prog g 59 h1.nx 0 _ = _
    rw [d59, rd_all (n := 3) g1 rfl, Option.bind_some, k61 q5.slR, asB_bool]
    by_cases hin : c ∈ l.foldl (insS c) []
    · rw [if_pos hin, decide_eq_true hin]; rfl
    · rw [if_neg hin, decide_eq_false hin, Bool.not_false, ifB_true]
      show ld Try.prog g 22 h2.nx (off 0 1) _ = _
      rw [d22, cell_of q4, show ([iv n, sv] : List Value)[off 0 1]? = some sv from rfl, Option.bind_some]
      show ld Try.prog g 59 h1.nx 0 _ = _
      rw [d59, rd_all (n := 3) g1 rfl, Option.bind_some]
      rfl
  by_cases hin : c ∈ l.foldl (insS c) []
  · have e : insP l c = l.foldl (insS c) [] := by unfold insP; rw [if_pos hin]
    rw [e] at hr
    obtain ⟨h', e'⟩ := s13t (n := n) (s := s) (t := t) (h0 := h) (h2 := h2) (k := l.length + 1000) (by omega) hr hsg q5.slR g0 q4 (by omega) (by omega)
    exact ⟨h', head _ (by rw [if_pos hin]; exact e')⟩
  · have e : insP l c = l.foldl (insS c) [] ++ [c] := by unfold insP; rw [if_neg hin]
    rw [e] at hr
    have hl := q7 hin
    obtain ⟨g', sv', e1, e2, e3, e4, e5⟩ := push13 (b := h2.nx) c q5 q4 q2 (by omega) (by omega)
    have nosv : ∀ q, q < h4.nx → AM.blkOf sv ≠ some q := fun q hq e' => by have := (q5.blkOf e').1; omega
    have low : ∀ q, q < h4.nx → q ≠ h2.nx → g'.blk q = g.blk q := fun q hq hne => e3 q (by omega) hne (nosv q hq)
    have hsg' : SlR g' 59 3 sl (l.map Kl.cells) := slR_keep hsg e2 fun b hb => low b (by have := hsb b hb; omega) (by have := hsb b hb; omega)
    obtain ⟨h', e'⟩ := s13t (n := n) (s := s) (t := t) (h0 := h) (h2 := h2) (k := l.length + 1000) (by omega) hr hsg' e5.slR ((low h.nx (by omega) (by omega)).trans g0) e4 (by omega) (by omega)
    exact ⟨h', head _ (by rw [if_neg hin]; exact (e1 _).trans e')⟩
section
variable {HH : Type} {enc : TypeId × Value → HH} {w : World} {base : Nat} {held : Bool}
theorem types59 : Try.prog.cellTypes Try.prog.depth 59 = some [3, 3, 3] := by kernel_rfl
theorem okw_int {P : Program} {ti : TypeId} {rr : Reach} {b0 : Nat} {x : Value} (hti : P.underlying ti = some (.int .i64)) (c0 : Cell.okWide P w rr b0 ti x) : ∃ n, x = .int .i64 n := by
  simp only [Cell.okWide, hti] at c0
  cases x <;> simp_all [Cell.ok]
set_option maxRecDepth 100000 in
/-- A call that came in. -/
theorem open_call {rr : Reach} {b0 : Nat} {v : Value} (hv : Value.okWide Try.prog w rr b0 59 v) : ∃ c : Kl, v = c.val := by
  simp only [Value.okWide, under59] at hv
  obtain ⟨cs, rfl, hsz, tys, htys, _, hrow⟩ := hv
  rw [types59] at htys
  cases htys
  rw [cellsOf59] at hsz
  have hxy : ∃ x y z, cs = #[x, y, z] := by
    obtain ⟨l⟩ := cs
    match l, hsz with
    | [x, y, z], _ => exact ⟨x, y, z, rfl⟩
  obtain ⟨x, y, z, rfl⟩ := hxy
  obtain ⟨u0, e0, c0⟩ := hrow 0 x rfl
  obtain ⟨u1, e1, c1⟩ := hrow 1 y rfl
  obtain ⟨u2, e2, c2⟩ := hrow 2 z rfl
  simp at e0 e1 e2
  subst e0; subst e1; subst e2
  have hx : ∀ {x : Value}, Cell.okWide Try.prog w rr b0 3 x → ∃ n, x = .int .i64 n := fun c => okw_int under3 c
  obtain ⟨a, rfl⟩ := hx c0
  obtain ⟨b, rfl⟩ := hx c1
  obtain ⟨t, rfl⟩ := hx c2
  exact ⟨⟨a, b, t⟩, rfl⟩
theorem vr_call {ι : Nat → Emb} {n : Nat} (c : Kl) : VR ι n c.val c.val := by
  have := LR.toArray (.cons (VR.int (ι := ι) (n := n) .i64 c.a) (.cons (VR.int (ι := ι) (n := n) .i64 c.b) (.cons (VR.int (ι := ι) (n := n) .i64 c.t) .nil)))
  exact VR.agg this.1 this.2
theorem vr_len {ι : Nat → Emb} {n : Nat} {v0 : Value} {a : Option Addr} {len cap : Nat} (hvr : VR ι n v0 (.slice a len cap)) {h : H} {e : TypeId} {s : Nat} {L : List (List Value)} (hs : SlR h e s v0 L) : L.length = len := by
  have h1 : lenOf v0 = some len := by cases hvr <;> rfl
  have h2 := hs.lenOf
  rw [h1] at h2
  cases h2
  rfl
set_option maxRecDepth 100000 in
/-- How long a log can be that came in. -/
theorem log_len {rr : Reach} {b0 : Nat} {n : Int} {sl : Value} {d : DataW HH} {ps : List MemPlace} (hv : Value.okWide Try.prog w rr b0 24 (.agg #[iv n, sl])) (hwt : ∀ x ∈ d.weights Try.prog 24, x ≤ reachBytes)
    (hd : DataW.Trod enc Try.prog w base (fun _ => true) held 24 (.agg #[iv n, sl]) d ps) {ι : Nat → Emb} {m : Nat} {sl0 : Value} (hvr : VR ι m sl0 sl) {h : H} {l : List Kl} (hs : SlR h 59 3 sl0 (l.map Kl.cells)) : l.length + 2 < 2 ^ 43 := by
  obtain ⟨n', a, len, cap, d1, p1, e, hn, hw1, hhas, hd1⟩ := open_numslice under24s fields24_eq (Prod.mk.inj field24_0) (Prod.mk.inj field24_1) under3 under22L cellsOf24 cellsOf3 cellsOf22 types24 hv hwt hd
  have esl : sl = .slice a len cap := by
    injection e with e
    have := congrArg (fun x : Array Value => x[1]?) e
    simpa using this
  subst esl
  have hlen := vr_len hvr hs
  rw [List.length_map] at hlen
  obtain ⟨fuel, hf⟩ := hd1
  rcases DataW.trod_slice under22L hf with ⟨hcs, _⟩ | ⟨a', len', cap', elems, rest, n, _, hcs, hx, hb, hlc, hcm, hel, he, _, _⟩
  · simp [Value.cells] at hcs
    obtain ⟨rfl, rfl, rfl⟩ := hcs
    omega
  · simp [Value.cells] at hcs
    obtain ⟨rfl, rfl, rfl⟩ := hcs
    have hdd : d1 = .slice (elems.map (·.1)) (rest.map (·.1)) := congrArg Prod.fst hx
    have h1 := hw1 ((elems.length + rest.length) * Try.prog.bytesOf 59) (by rw [hdd]; simp [DataW.weights, under22L])
    rw [bytes59] at h1
    have h2 : reachBytes = 140737488351232 := rfl
    omega
end
end Go.AM
end
