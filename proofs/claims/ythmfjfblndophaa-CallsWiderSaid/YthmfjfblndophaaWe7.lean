/- Parts of the proof, put together: the abstract machine, what the functions of the program answer, and plain laws. -/
import Derived.Test.YthmfjfblndophaaWe6

section
namespace Go.AM
open Go.Proofs
/-- Calls of arrive leave what was there. -/
noncomputable def rcB : Rec := over rn 81 (smR rn 81)
theorem rcB_ne {f : FuncId} (hf : f ≠ 81) {h : H} {xs : List Value} {R : Type} {K : Value → H → Option R} : calls rcB h f xs K = calls rn h f xs K := calls_over hf
theorem l54 {n s t : Int} {sl : Value} {l : List Kl} {h0 h1 h2 g0 : H} (hp : pairP n l s t = true) (hd : dirP l s t = false) (hs : SlR g0 56 3 sl (l.map Kl.cells)) (b0 : g0.blk h0.nx = some (.row [iv n, sl] 31 true)) (b1 : g0.blk h1.nx = some (.row [iv s] 3 true)) (b2 : g0.blk h2.nx = some (.row [iv t] 3 true))
    (lt0 : h0.nx < g0.nx ∧ h1.nx < g0.nx ∧ h2.nx < g0.nx) :
    ∃ ws g, lpGo (f54_l1 rcB 1000 h0 h1 h2 n) 1000 [iv (fullN n - 1 : Nat), iv 0] g0 = some (.exit 0, ws, g) ∧ Ext g0 g ∧ gv ws 0 = iv (blkP n l s t : Nat) := by
  obtain ⟨hv, hsn, htn, hst⟩ := pairP_parts hp
  obtain ⟨hv1, hv2, hv3, hv4⟩ := validP_ok hv
  have hN : fullN n ≤ 2 ^ 7 := Nat.pow_le_pow_right (by decide) (by omega)
  have hN0 : 0 < fullN n := Nat.two_pow_pos _
  have hsh : AM.shl .i64 1 n = ((fullN n : Nat) : Int) := by
    have := shl1_nat (p := n.toNat) (by omega)
    rwa [Int.toNat_of_nonneg (by omega)] at this
  obtain ⟨ws', g', q1, hx, _, rfl⟩ := lp_for (k := 1000) (l := List.range (fullN n)) (F := f54_l1 rcB 1000 h0 h1 h2 n) (fun _ X best => stB l s t best X)
    (fun i best ws g => Ext g0 g ∧ best < 2 ^ 7 ∧ ws = [iv best, iv i]) 0 (ws := [iv (fullN n - 1 : Nat), iv 0]) (h := g0) (s0 := fullN n - 1) ⟨.refl _, by omega, rfl⟩ (by rw [List.length_range]; omega)
    (fun best ws g hI => by
      obtain ⟨_, _, rfl⟩ := hI
      unfold f54_l1
      simp only [gv, List.getD_cons_zero, List.getD_cons_succ, asI_int, List.length_range]
      rw [hsh, lt_f (by omega), ifB_false]; rfl)
    (fun i X best ws g hX hI => by
      obtain ⟨hx, hbe, rfl⟩ := hI
      obtain ⟨hi, rfl⟩ : i < fullN n ∧ i = X := by
        obtain ⟨h1, h2⟩ := List.getElem?_eq_some_iff.1 hX
        rw [List.length_range] at h1
        rw [List.getElem_range] at h2
        exact ⟨h1, h2⟩
      have a0 := (hx.blk _ lt0.1).trans b0
      have a1 := (hx.blk _ lt0.2.1).trans b1
      have a2 := (hx.blk _ lt0.2.2).trans b2
      have hgx := hx.nx
      have hX7 : i < 2 ^ 7 := by omega
      have hadd : add .i64 (i : Int) 1 = ((i + 1 : Nat) : Int) := by rw [add64 (by omega) (by omega)]; simp
      have zs := bitZ (p := s) hX7 (by omega)
      have zt := bitZ (p := t) hX7 (by omega)
      have w1 : wr .u64 ((i : Nat) : Int) = (i : Int) := u64_small (by omega) (by omega)
      have w2 : wr .u64 ((best : Nat) : Int) = (best : Int) := u64_small (by omega) (by omega)
      have c1 := cnt_le i
      have c2 := cnt_le best
      obtain ⟨v, h', b, e81, x81, hb, ia⟩ := s81X hX7 (hs.ext hx) hv hsn
      have k81 : ∀ {R : Type} (K : Value → H → Option R), calls rcB g 81 [.agg #[iv n, sl], iv s, iv (i : Nat)] K = K v ⟨h'.blk, h'.nx, g.wr⟩ := fun K => calls_at (smR_of e81 x81)
      have xg : Ext g ⟨h'.blk, h'.nx, g.wr⟩ := ⟨x81.nx, x81.blk⟩
      have iag : IA ⟨h'.blk, h'.nx, g.wr⟩ b v (arriveP n.toNat (l.filter fun c => !touchX i c) s) := ⟨ia.val, ia.lt, ia.row⟩
      have hal : (arriveP n.toNat (l.filter fun c => !touchX i c) s).length = n.toNat := by rw [arrive_K]; exact arrK_len
      have hat : (arriveP n.toNat (l.filter fun c => !touchX i c) s)[t.toNat]? = some (atP (arriveP n.toNat (l.filter fun c => !touchX i c) s) t) := by
        unfold atP
        rw [List.getD_eq_getElem?_getD, List.getElem?_eq_getElem (by omega)]
        rfl
      have head : f54_l1 rcB 1000 h0 h1 h2 n [iv best, iv i] g = if i.testBit s.toNat = true then some (.normal, [iv best, iv (i + 1 : Nat)], g) else if i.testBit t.toNat = true then some (.normal, [iv best, iv (i + 1 : Nat)], g) else
          if cntB i < cntB best then (if atP (arriveP n.toNat (l.filter fun c => !touchX i c) s) t = -1 then some (.normal, [iv i, iv (i + 1 : Nat)], ⟨h'.blk, h'.nx, g.wr⟩) else some (.normal, [iv best, iv (i + 1 : Nat)], ⟨h'.blk, h'.nx, g.wr⟩)) else some (.normal, [iv best, iv (i + 1 : Nat)], g) := by
        unfold f54_l1
        simp only [gv, List.getD_cons_zero, List.getD_cons_succ, asI_int, nx_eq]
        rw [hsh, lt_t (by omega), ifB_true]
        rw [d3, cell_of a1]
        simp only [List.getElem?_cons_zero, Option.bind_some, asI_int]
        rw [nn_ge hsn.1, zs]
        by_cases p1 : i.testBit s.toNat = true
        · rw [if_pos p1, eq_f (by omega), ifB_false, if_pos p1, hadd]; rfl
        rw [if_neg p1, eq_t rfl, ifB_true, if_neg p1, d3, cell_of a2]
        simp only [List.getElem?_cons_zero, Option.bind_some, asI_int]
        rw [nn_ge htn.1, zt]
        by_cases p2 : i.testBit t.toNat = true
        · rw [if_pos p2, eq_f (by omega), ifB_false, if_pos p2, hadd]; rfl
        rw [if_neg p2, eq_t rfl, ifB_true, if_neg p2, w1, w2]
        rw [rcB_ne (by decide)]
        refine (calls_eq (xs := [_]) (s91 hX7 g)).trans ?_
        rw [asI_int, rcB_ne (by decide)]
        refine (calls_eq (xs := [_]) (s91 hbe g)).trans ?_
        rw [asI_int]
        by_cases p3 : cntB i < cntB best
        · rw [lt_t (by omega), ifB_true, if_pos p3, d31, rd_all (n := 2) a0 rfl, Option.bind_some, d3, cell_of a1]
          simp only [List.getElem?_cons_zero, Option.bind_some, asI_int]
          refine (k81 _).trans ?_
          have a2' : H.blk ⟨h'.blk, h'.nx, g.wr⟩ h2.nx = some (.row [iv t] 3 true) := (xg.blk _ (by omega)).trans a2
          rw [d3, cell_of a2']
          simp only [List.getElem?_cons_zero, Option.bind_some, asI_int]
          have hck : freq h2.nx g.nx (same ⟨h'.blk, h'.nx, g.wr⟩ g) = true := by simp [freq, same]; omega
          rw [hck]
          unfold ck
          rw [if_pos rfl]
          simp only [d3]
          rw [iag.get htn.1 hat, asI_int]
          by_cases p4 : atP (arriveP n.toNat (l.filter fun c => !touchX i c) s) t = -1
          · rw [eq_t p4, ifB_true, if_pos p4, hadd]; rfl
          · rw [eq_f p4, ifB_false, if_neg p4, hadd]; rfl
        · rw [lt_f (by omega), ifB_false, if_neg p3, hadd]; rfl
      have q0 : qB l s t i = true ↔ i.testBit s.toNat = false ∧ i.testBit t.toNat = false ∧ blkS (wideF l s t).2 i = true := by
        unfold qB
        simp only [Bool.and_eq_true, Bool.not_eq_true']
        exact ⟨fun h => ⟨h.1.1, h.1.2, h.2⟩, fun h => ⟨⟨h.1, h.2.1⟩, h.2.2⟩⟩
      by_cases p1 : i.testBit s.toNat = true
      · have e : stB l s t best i = best := by unfold stB; rw [if_neg]; intro hc; rw [(q0.1 hc.1).1] at p1; cases p1
        exact ⟨_, g, by rw [head, if_pos p1], hx, by rw [e]; exact hbe, by rw [e]⟩
      by_cases p2 : i.testBit t.toNat = true
      · have e : stB l s t best i = best := by unfold stB; rw [if_neg]; intro hc; rw [(q0.1 hc.1).2.1] at p2; cases p2
        exact ⟨_, g, by rw [head, if_neg p1, if_pos p2], hx, by rw [e]; exact hbe, by rw [e]⟩
      have f1 : i.testBit s.toNat = false := by simpa using p1
      have f2 : i.testBit t.toNat = false := by simpa using p2
      by_cases p3 : cntB i < cntB best
      · have br := block_ref hp (no_dir hp hd) hX7 f1 f2
        by_cases p4 : atP (arriveP n.toNat (l.filter fun c => !touchX i c) s) t = -1
        · have e : stB l s t best i = i := by unfold stB; rw [if_pos ⟨q0.2 ⟨f1, f2, br.1 p4⟩, p3⟩]
          exact ⟨_, _, by rw [head, if_neg p1, if_neg p2, if_pos p3, if_pos p4], hx.trans xg, by rw [e]; exact hX7, by rw [e]⟩
        · have e : stB l s t best i = best := by unfold stB; rw [if_neg]; intro hc; exact p4 (br.2 (q0.1 hc.1).2.2)
          exact ⟨_, _, by rw [head, if_neg p1, if_neg p2, if_pos p3, if_neg p4], hx.trans xg, by rw [e]; exact hbe, by rw [e]⟩
      · have e : stB l s t best i = best := by unfold stB; rw [if_neg]; intro hc; exact p3 hc.2
        exact ⟨_, g, by rw [head, if_neg p1, if_neg p2, if_neg p3], hx, by rw [e]; exact hbe, by rw [e]⟩)
  refine ⟨_, g', q1, hx, ?_⟩
  rw [foldI_foldl]
  rfl
/-- What is answered. -/
def blkA (n : Int) (l : List Kl) (s t : Int) : Int × Int := if pairP n l s t = true then (if dirP l s t = true then (0, 4) else ((blkP n l s t : Nat), 0)) else (0, 2)
theorem s54w {n s t : Int} {sl : Value} {l : List Kl} {h : H} (hs : SlR h 56 3 sl (l.map Kl.cells)) :
    ∃ h', f54 rcB 1000 (.agg #[iv n, sl]) s t h = some (.tuple #[iv (blkA n l s t).1, iv (blkA n l s t).2], h') ∧ Ext h h' := by
  let h3 : H := ((h.new (.row [iv n, sl] 31 true)).new (.row [iv s] 3 true)).new (.row [iv t] 3 true)
  have x3 : Ext h h3 := (((Ext.refl h).new' _).new' _).new' _
  have n3 : h3.nx = h.nx + 3 := rfl
  have c0 : h3.blk h.nx = some (.row [iv n, sl] 31 true) := by
    show (if h.nx = h.nx + 1 + 1 then _ else if h.nx = h.nx + 1 then _ else if h.nx = h.nx then _ else _) = _
    rw [if_neg (by omega), if_neg (by omega), if_pos rfl]
  have c1 : h3.blk (h.nx + 1) = some (.row [iv s] 3 true) := by
    show (if h.nx + 1 = h.nx + 1 + 1 then _ else if h.nx + 1 = h.nx + 1 then _ else _) = _
    rw [if_neg (by omega), if_pos rfl]
  have c2 : h3.blk (h.nx + 2) = some (.row [iv t] 3 true) := by
    show (if h.nx + 1 + 1 = h.nx + 1 + 1 then _ else _) = _
    rw [if_pos rfl]
  have hs3 := hs.ext x3
  have e89 : rn 89 #[sl, .func (.func 90) #[] #[pt (h.nx + 1) 0, pt (h.nx + 2) 0]] h3 = some (.bool (dirP l s t), h3) := s89 hs3 fun c _ => s90 c ⟨by omega, c1⟩ ⟨by omega, c2⟩
  have k82' : ∀ (K : Value → H → Option (Value × H)), calls rcB h3 82 [.agg #[iv n, sl], iv s, iv t] K = K (.bool (pairP n l s t)) h3 := fun K => by rw [rcB_ne (by decide), k82 hs3]
  have k89' : ∀ (K : Value → H → Option (Value × H)), calls rcB h3 89 [sl, .func (.func 90) #[] #[pt (h.nx + 1) 0, pt (h.nx + 2) 0]] K = K (.bool (dirP l s t)) h3 := fun K => by rw [rcB_ne (by decide)]; exact calls_eq (xs := [_, _]) e89
  have start : ∀ h' (r : Int × Int), (pairP n l s t = false → r = (0, 2) ∧ h' = h3) → (pairP n l s t = true → dirP l s t = true → r = (0, 4) ∧ h' = h3) → (pairP n l s t = true → dirP l s t = false → ∃ ws, lpGo (f54_l1 rcB 1000 h (h.new (.row [iv n, sl] 31 true)) ((h.new (.row [iv n, sl] 31 true)).new (.row [iv s] 3 true)) n) 1000 [iv (fullN n - 1 : Nat), iv 0] h3 = some (.exit 0, ws, h') ∧ gv ws 0 = iv r.1 ∧ r.2 = 0) →
      f54 rcB 1000 (.agg #[iv n, sl]) s t h = some (.tuple #[iv r.1, iv r.2], h') := by
    intro h' r g1 g2 g3
    unfold f54
    rw [bx_eq, bx_eq, bx_eq]
    simp only [Value.cells, nx_eq, nx_new]
    show ld Try.prog h3 31 h.nx 0 _ = _
    rw [d31, rd_all (n := 2) c0 rfl, Option.bind_some]
    show ld Try.prog h3 3 (h.nx + 1) 0 _ = _
    rw [d3, cell_of c1]
    simp only [List.getElem?_cons_zero, Option.bind_some, asI_int]
    show ld Try.prog h3 3 (h.nx + 1 + 1) 0 _ = _
    rw [d3, cell_of c2]
    simp only [List.getElem?_cons_zero, Option.bind_some, asI_int]
    refine (k82' _).trans ?_
    rw [asB_bool]
    cases hp : pairP n l s t with
    | false =>
      obtain ⟨rfl, rfl⟩ := g1 hp
      rfl
    | true =>
      rw [Bool.not_true, ifB_false]
      show ld Try.prog h3 29 h.nx 1 _ = _
      rw [d29, cell_of c0]
      simp only [List.getElem?_cons_succ, List.getElem?_cons_zero, Option.bind_some]
      refine (k89' _).trans ?_
      rw [asB_bool]
      cases hd : dirP l s t with
      | true =>
        obtain ⟨rfl, rfl⟩ := g2 hp hd
        rfl
      | false =>
        obtain ⟨ws, q1, q2, q3⟩ := g3 hp hd
        obtain ⟨hn1, hn7, _⟩ := validP_ok (pairP_parts hp).1
        have hN : fullN n ≤ 2 ^ 7 := Nat.pow_le_pow_right (by decide) (by omega)
        have hN0 : 0 < fullN n := Nat.two_pow_pos _
        have hsh : AM.shl .i64 1 n = ((fullN n : Nat) : Int) := by
          have := shl1_nat (p := n.toNat) (by omega)
          rwa [Int.toNat_of_nonneg (by omega)] at this
        rw [ifB_false]
        show ld Try.prog h3 3 h.nx 0 _ = _
        rw [d3, cell_of c0]
        simp only [List.getElem?_cons_zero, Option.bind_some, asI_int]
        rw [nn_ge (by omega)]
        show ld Try.prog h3 3 h.nx 0 _ = _
        rw [d3, cell_of c0]
        simp only [List.getElem?_cons_zero, Option.bind_some, asI_int]
        rw [nn_ge (by omega), hsh, sub64 (by omega) (by omega), show ((fullN n : Nat) : Int) - 1 = ((fullN n - 1 : Nat) : Int) by omega]
        refine (lp_eq q1).trans ?_
        rw [onE_exit, if_pos rfl, q2, q3]
  cases hp : pairP n l s t with
  | false => exact ⟨h3, start h3 _ (fun _ => ⟨by unfold blkA; rw [hp]; rfl, rfl⟩) (fun h => by rw [hp] at h; cases h) (fun h => by rw [hp] at h; cases h), x3⟩
  | true =>
    cases hd : dirP l s t with
    | true => exact ⟨h3, start h3 _ (fun h => by rw [hp] at h; cases h) (fun _ _ => ⟨by unfold blkA; rw [hp, hd]; rfl, rfl⟩) (fun _ h => by rw [hd] at h; cases h), x3⟩
    | false =>
      obtain ⟨ws, g, q1, q2, q3⟩ := l54 (h0 := h) (h1 := h.new (.row [iv n, sl] 31 true)) (h2 := (h.new (.row [iv n, sl] 31 true)).new (.row [iv s] 3 true)) hp hd hs3 c0 c1 c2 ⟨by omega, by show h.nx + 1 < _; omega, by show h.nx + 2 < _; omega⟩
      exact ⟨g, start g _ (fun h => by rw [hp] at h; cases h) (fun _ h => by rw [hd] at h; cases h) (fun _ _ => ⟨ws, q1, by rw [q3]; unfold blkA; rw [hp, hd]; rfl, by unfold blkA; rw [hp, hd]; rfl⟩), x3.trans q2⟩
end Go.AM
end

section
namespace Go.AM
open Go.Proofs
open Classical in
/-- Wide, told. -/
noncomputable def g53 (args : Array Value) (h : H) : Option (Value × H) :=
  match args.toList with
  | [v0, .int .i64 n0, .int .i64 n1] =>
    match f53H RG53 rn 1000 v0 n0 n1 h with
    | some (v, h1) => if plainO v = true ∧ Ext h h1 then some (v, h) else none
    | none => none
  | _ => none
open Classical in
/-- Block, told. -/
noncomputable def g54 (args : Array Value) (h : H) : Option (Value × H) :=
  match args.toList with
  | [v0, .int .i64 n0, .int .i64 n1] =>
    match f54 rcB 1000 v0 n0 n1 h with
    | some (v, h1) => if plainO v = true ∧ Ext h h1 then some (v, h) else none
    | none => none
  | _ => none
theorem g53_of {v0 v : Value} {n0 n1 : Int} {h h1 : H} (e : f53H RG53 rn 1000 v0 n0 n1 h = some (v, h1)) (hp : plainO v = true) (x : Ext h h1) : g53 #[v0, iv n0, iv n1] h = some (v, h) := by
  unfold g53
  simp only [e, if_pos (And.intro hp x)]
theorem g54_of {v0 v : Value} {n0 n1 : Int} {h h1 : H} (e : f54 rcB 1000 v0 n0 n1 h = some (v, h1)) (hp : plainO v = true) (x : Ext h h1) : g54 #[v0, iv n0, iv n1] h = some (v, h) := by
  unfold g54
  simp only [e, if_pos (And.intro hp x)]
theorem g53_sure (hmix : Try.prog.follows .mixedOrders = true) {args : Array Value} {h h' : H} {v : Value} (e : g53 args h = some (v, h')) : Sure Try.prog E0 53 args h v h' := by
  have hrec : SoundR Try.prog E0 rn := run_sound hmix
  obtain ⟨s, hs, h1, h2, h3, h4, h5, h6, h7, h8⟩ := rg53_is
  have hrg := rg53_ok hmix hs h1 h2 h3 h4 h5 h6 h7 h8
  unfold g53 at e
  split at e
  · rename_i v0 n0 n1 ha
    split at e
    · rename_i v1 hh e1
      split at e
      · rename_i hx
        simp only [Option.some.injEq, Prod.mk.injEq] at e
        obtain ⟨rfl, rfl⟩ := e
        have e2 := e1
        rw [← e53H] at e2
        have b := bodyH_calls hrec (draw_ok hmix hrec) hs hrg e2
        have ea : args = #[v0, iv n0, iv n1] := by
          cases args
          simp only at ha
          rw [ha]
        rw [ea]
        exact Sure.trunc b hx.1 fun q hq => hx.2.blk q hq
      · cases e
    · cases e
  · cases e
theorem rcB_sound (hmix : Try.prog.follows .mixedOrders = true) : SoundR Try.prog E0 rcB := over_sound (run_sound hmix) fun _ _ _ _ e => smR_sure (run_sound hmix) e
theorem g54_sure (hmix : Try.prog.follows .mixedOrders = true) {args : Array Value} {h h' : H} {v : Value} (e : g54 args h = some (v, h')) : Sure Try.prog E0 54 args h v h' := by
  unfold g54 at e
  split at e
  · rename_i v0 n0 n1 ha
    split at e
    · rename_i v1 hh e1
      split at e
      · rename_i hx
        simp only [Option.some.injEq, Prod.mk.injEq] at e
        obtain ⟨rfl, rfl⟩ := e
        have e2 := e1
        rw [← e54] at e2
        have b := body_sure hmix (rcB_sound hmix) e2 hx.1 hx.2
        have ea : args = #[v0, iv n0, iv n1] := by
          cases args
          simp only at ha
          rw [ha]
        rw [ea]
        exact b
      · cases e
    · cases e
  · cases e
/-- Wide and Block told. -/
noncomputable def rcW : Rec := over (over rn 53 g53) 54 g54
theorem rcW_sound (hmix : Try.prog.follows .mixedOrders = true) : SoundR Try.prog E0 rcW :=
  over_sound (over_sound (run_sound hmix) fun _ _ _ _ e => g53_sure hmix e) fun _ _ _ _ e => g54_sure hmix e
theorem rcW_ne {f : FuncId} (h1 : f ≠ 53) (h2 : f ≠ 54) {h : H} {xs : List Value} {R : Type} {K : Value → H → Option R} : calls rcW h f xs K = calls rn h f xs K := (calls_over h2).trans (calls_over h1)
/-- What Wide answers. -/
def widA (n : Int) (l : List Kl) (s t : Int) : Int × Int := if pairP n l s t = true then (wideP n l s t, 0) else (0, 2)
theorem k53 {n s t : Int} {sl : Value} {l : List Kl} {h : H} (hs : SlR h 56 3 sl (l.map Kl.cells)) {R : Type} (K : Value → H → Option R) : calls rcW h 53 [.agg #[iv n, sl], iv s, iv t] K = K (.tuple #[iv (widA n l s t).1, iv (widA n l s t).2]) h := by
  have : ∃ h', f53H RG53 rn 1000 (.agg #[iv n, sl]) s t h = some (.tuple #[iv (widA n l s t).1, iv (widA n l s t).2], h') ∧ Ext h h' := by
    unfold widA
    cases hp : pairP n l s t with
    | false => exact s53_bad hs hp
    | true => exact s53H hs hp (way_pos hp)
  obtain ⟨h', e, x⟩ := this
  exact (calls_over (by decide)).trans (calls_at (g53_of e rfl x))
theorem k54 {n s t : Int} {sl : Value} {l : List Kl} {h : H} (hs : SlR h 56 3 sl (l.map Kl.cells)) {R : Type} (K : Value → H → Option R) : calls rcW h 54 [.agg #[iv n, sl], iv s, iv t] K = K (.tuple #[iv (blkA n l s t).1, iv (blkA n l s t).2]) h := by
  obtain ⟨h', e, x⟩ := s54w (n := n) (s := s) (t := t) hs
  exact calls_at (g54_of e rfl x)
end Go.AM
end

section
namespace Go.AM
open Go.Proofs
/-- Ways apart from each other are no more than flow. -/
theorem ways_mc {n s t : Int} {l : List Kl} (v : VP n l) (hs : 0 ≤ s ∧ s < n) (hst : s ≠ t) {W : List (List Int)} (hw : ∀ w ∈ W, w ∈ allWays l s t) (hd : W.Pairwise fun w u => ∀ i ∈ w, i ∉ u) (hl : W.length ≤ 1000) : W.length ≤ mcP l s t 0 := by
  unfold mcP
  refine GM_ge (k := W.length) (ws := fun j => ((W[j]?).getD []).map Int.toNat) (fun j hj => ?_) (fun j j' hj hj' hne i hi hi' => ?_) hl
  · rw [List.getElem?_eq_getElem hj, Option.getD_some]
    exact way_walk v hs hst (hw _ (List.getElem_mem hj)) (fun i _ => by simp [goneD])
  · rw [List.getElem?_eq_getElem hj, Option.getD_some] at hi
    rw [List.getElem?_eq_getElem hj', Option.getD_some] at hi'
    obtain ⟨x, hx, ex⟩ := List.mem_map.1 hi
    obtain ⟨y, hy, ey⟩ := List.mem_map.1 hi'
    have x0 := ((allWays_ok _ (hw _ (List.getElem_mem hj))).2.2 x hx).1
    have y0 := ((allWays_ok _ (hw _ (List.getElem_mem hj'))).2.2 y hy).1
    have exy : x = y := by omega
    subst exy
    have pw := List.pairwise_iff_getElem.1 hd
    rcases Nat.lt_or_gt_of_ne hne with h | h
    · exact pw j j' hj hj' h x hx hy
    · exact pw j' j hj' hj h x hy hx
/-- After s no call touches s. -/
theorem run_off {n : Int} {l : List Kl} (hv : validP n l = true) {s : Int} (hs : 0 ≤ s ∧ s < n) : ∀ (w : List Int) (st st' : Int × Int × Int) (k : Nat), Wf n st → st.2.2 = (k : Int) → k.testBit s.toNat = true → st.1 ≠ s → runP l w st = some st' → ∀ i ∈ w, ∀ c, l[i.toNat]? = some c → c.has s = false := by
  obtain ⟨hn1, hn7, hl24, hok⟩ := validP_ok hv
  intro w
  induction w with
  | nil => intro st st' k _ _ _ _ _ i hi; cases hi
  | cons i w ih =>
    intro st st' k hwf hk hks hne h j hj c hc
    simp only [runP] at h
    split at h
    · rename_i hi
      split at h
      · cases h
      · rename_i d hd
        split at h
        · rename_i hg
          obtain ⟨g1, g2, g3, g4, g5⟩ := goes_spec hn7 (hok _ _ hd) hg
          obtain ⟨k0, hk0, hk7, hp, hkp⟩ := hwf
          have : k = k0 := by rw [hk] at hk0; omega
          subst this
          obtain ⟨e1, e2⟩ := withP_nat (p := d.oth st.1) hk7 ⟨g4, by omega⟩
          have hw1 : Wf n (d.oth st.1, d.t, withP st.2.2 (d.oth st.1)) := ⟨_, by rw [hk]; exact e1, e2, ⟨g4, g5⟩, by simp [Nat.testBit_or, testBit_pow]⟩
          have hos : d.oth st.1 ≠ s := by
            intro e
            rw [hk, inP_nat hk7 ⟨g4, by omega⟩, e, hks] at g3
            cases g3
          rcases List.mem_cons.1 hj with rfl | hj
          · rw [hd] at hc
            cases hc
            cases hh : c.has s with
            | false => rfl
            | true =>
              rcases has_or g2 hh with e | e
              · exact absurd e.symm hne
              · exact absurd e.symm hos
          · exact ih _ st' _ hw1 (by rw [hk]; exact e1) (by rw [Nat.testBit_or, hks]; rfl) hos h j hj c hc
        · cases h
    · cases h
/-- A way of more calls than one holds no direct call. -/
theorem way_nodir {n s t : Int} {l : List Kl} (hp : pairP n l s t = true) {w : List Int} (hw : w ∈ allWays l s t) (h1 : w.length ≠ 1) : ∀ i ∈ w, ∀ c, l[i.toNat]? = some c → (c.has s && c.has t) = false := by
  obtain ⟨hv, hs, ht, hst⟩ := pairP_parts hp
  obtain ⟨hv1, hv2, hv3, hok⟩ := validP_ok hv
  obtain ⟨st', hr, he⟩ := (check_run hv hs w).1 ((mem_all hv hst w).1 hw)
  cases w with
  | nil => exact absurd rfl (allWays_ok _ hw).1
  | cons j w =>
    intro i hi c hc
    simp only [runP] at hr
    split at hr
    · split at hr
      · cases hr
      · rename_i d hd
        split at hr
        · rename_i hg
          have hwf := wf0 hv2 hs
          obtain ⟨g1, g2, g3, g4, g5⟩ := goes_spec hv2 (hok _ _ hd) hg
          obtain ⟨k, hk, hk7, hpp, hkp⟩ := hwf
          obtain ⟨e1, e2⟩ := withP_nat (p := d.oth (st0 s).1) hk7 ⟨g4, by omega⟩
          have hw1 : Wf n (d.oth (st0 s).1, d.t, withP (st0 s).2.2 (d.oth (st0 s).1)) := ⟨_, by rw [hk]; exact e1, e2, ⟨g4, g5⟩, by simp [Nat.testBit_or, testBit_pow]⟩
          have hos : d.oth (st0 s).1 ≠ s := by
            intro e
            rw [hk, inP_nat hk7 ⟨g4, by omega⟩, e] at g3
            have : k.testBit s.toNat = true := hkp
            rw [this] at g3
            cases g3
          rcases List.mem_cons.1 hi with rfl | hi
          · rw [hd] at hc
            cases hc
            -- the first call: its other end is not t, for the way goes on
            cases hh : (c.has s && c.has t) with
            | false => rfl
            | true =>
              exfalso
              simp only [Bool.and_eq_true] at hh
              have ot : c.oth s = t := by
                rcases has_or hh.1 hh.2 with e | e
                · exact absurd e.symm hst
                · exact e.symm
              have q3 := (run_keep hv w _ st' hw1 hr).2.2.1
              have hne : w ≠ [] := by rintro rfl; exact h1 rfl
              have := q3 hne _ (by show withP (st0 s).2.2 (c.oth (st0 s).1) = _; rw [hk]; exact e1)
              rw [he, Nat.testBit_or, show c.oth (st0 s).1 = t from ot, Nat.testBit_two_pow, decide_eq_true rfl, Bool.or_true] at this
              cases this
          · have := run_off hv hs w _ st' _ hw1 (by show withP (st0 s).2.2 (d.oth (st0 s).1) = _; rw [hk]; exact e1) (by rw [Nat.testBit_or, show k.testBit s.toNat = true from hkp]; rfl) hos hr i hi c hc
            rw [this]; rfl
        · cases hr
    · cases hr
/-- Sets that find room, one by one. -/
theorem hold_list {ks : List Nat} : ∀ m A, hold ks m A → ∃ S : List Nat, S.length = m ∧ (∀ x ∈ S, x ∈ ks ∧ without x A = 0) ∧ S.Pairwise fun x y => x &&& y = 0 := by
  intro m
  induction m with
  | zero => intro A _; exact ⟨[], rfl, fun x hx => (by cases hx), .nil⟩
  | succ m ih =>
    rintro A ⟨x, hx, h1, h2⟩
    obtain ⟨S, s1, s2, s3⟩ := ih _ h2
    refine ⟨x :: S, by simp [s1], fun y hy => ?_, List.pairwise_cons.2 ⟨fun y hy => ?_, s3⟩⟩
    · rcases List.mem_cons.1 hy with rfl | hy
      · exact ⟨hx, h1⟩
      · exact ⟨(s2 y hy).1, (sub_without.1 (s2 y hy).2).1⟩
    · rw [Nat.and_comm]; exact (sub_without.1 (s2 y hy).2).2
theorem count_app {α β : Type} {st : Nat → α → List β} {p : β → Bool} {q : α → Bool} : ∀ (l : List α) (i : Nat) (acc : List β), (∀ j c, c ∈ l → (st j c).countP p = if q c = true then 1 else 0) → (foldI (fun i c acc => acc ++ st i c) l i acc).countP p = acc.countP p + l.countP q := by
  intro l
  induction l with
  | nil => intro i acc _; simp [foldI]
  | cons c l ih =>
    intro i acc h
    simp only [foldI]
    rw [ih (i + 1) _ (fun j d hd => h j d (List.mem_cons_of_mem _ hd)), List.countP_append, h i c List.mem_cons_self, List.countP_cons]
    omega
theorem count_one {n s t : Int} {pl : List Kl} (hp : pairP n pl s t = true) {f : Nat} : (waysF pl t (f + 1) s 0 (shl .i64 1 s)).countP (fun w => decide (w.length = 1)) = pl.countP fun c => c.has s && c.has t := by
  obtain ⟨hv, hs, ht, hst⟩ := pairP_parts hp
  obtain ⟨hv1, hv2, hv3, hv4⟩ := validP_ok hv
  simp only [waysF]
  rw [count_app (q := fun c => c.has s && c.has t) pl 0 [] (fun j c hc => ?_), List.countP_nil, Nat.zero_add]
  obtain ⟨i, hi⟩ := List.mem_iff_getElem?.1 hc
  obtain ⟨a1, a2, a3, a4, a5⟩ := okC_iff.1 (hv4 _ c hi)
  have hin : ∀ p, 0 ≤ p → p < n → p ≠ s → inP (shl .i64 1 s) p = false := by
    intro p h0 h1 hne
    have e1 : AM.shl .i64 1 s = ((2 ^ s.toNat : Nat) : Int) := by
      have := shl1_nat (p := s.toNat) (by omega)
      rwa [Int.toNat_of_nonneg hs.1] at this
    rw [e1, inP_nat (two_lt (by omega)) (by omega), Nat.testBit_two_pow]
    exact decide_eq_false (by omega)
  unfold wayStep
  by_cases hg : goes c s 0 (shl .i64 1 s) = true
  · rw [if_pos hg]
    simp only [goes, Bool.and_eq_true] at hg
    have hhas := hg.1.2
    by_cases ho : c.oth s = t
    · rw [if_pos ho]
      have hq : (c.has s && c.has t) = true := by
        unfold Kl.has Kl.oth at *
        simp only [Bool.or_eq_true, beq_iff_eq, Bool.and_eq_true] at hhas ⊢
        omega
      rw [if_pos hq]
      rfl
    · rw [if_neg ho]
      have hq : ¬ (c.has s && c.has t) = true := by
        intro h
        simp only [Bool.and_eq_true] at h
        rcases has_or h.1 h.2 with e | e
        · exact hst e.symm
        · exact ho e.symm
      rw [if_neg hq, List.countP_eq_zero]
      intro w hw
      obtain ⟨w', hw', rfl⟩ := List.mem_map.1 hw
      obtain ⟨q1, _, _⟩ := waysF_ok (n := 0) _ _ _ _ w' hw'
      cases w' with
      | nil => exact absurd rfl q1
      | cons _ _ => simp
  · rw [if_neg hg]
    have hq : ¬ (c.has s && c.has t) = true := by
      intro h
      simp only [Bool.and_eq_true] at h
      refine hg ?_
      have ho : c.oth s = t := by
        rcases has_or h.1 h.2 with e | e
        · exact absurd e.symm hst
        · exact e.symm
      simp only [goes, Bool.and_eq_true, Bool.not_eq_true', decide_eq_false_iff_not]
      exact ⟨⟨by omega, h.1⟩, by rw [ho]; exact hin t ht.1 ht.2 (Ne.symm hst)⟩
    rw [if_neg hq]
    rfl
/-- How many calls are direct. -/
def dirN (l : List Kl) (s t : Int) : Nat := l.countP fun c => c.has s && c.has t
theorem wideF_cnt {n s t : Int} {pl : List Kl} (hp : pairP n pl s t = true) (hl : (allWays pl s t).length < 4611686018427387904) : (wideF pl s t).1 = (dirN pl s t : Nat) := by
  have e := cnt_fold (pl := pl) (s := s) (t := t) (allWays pl s t) (0, []) (Int.le_refl _) (by simp only; omega)
  unfold wideF
  rw [e, show (allWays pl s t).countP (fun w => decide (w.length = 1)) = dirN pl s t from count_one (f := 31) hp]
  simp
theorem dirN_pos {l : List Kl} {s t : Int} : 0 < dirN l s t ↔ dirP l s t = true := by
  unfold dirN dirP
  rw [List.countP_pos_iff, List.any_eq_true]
/-- The width, as_ numbers. -/
def wideN (pl : List Kl) (s t : Int) : Nat := dirN pl s t + packF (wideF pl s t).2 0
theorem wide_N {n s t : Int} {pl : List Kl} (hp : pairP n pl s t = true) (hl : (allWays pl s t).length < 4611686018427387904) (ko : KsOk (wideF pl s t).2) : wideP n pl s t = (wideN pl s t : Nat) := by
  have h1 := pack_le (wideF pl s t).2 0
  have h2 := ko.len
  have h3 : dirN pl s t ≤ 24 := Nat.le_trans List.countP_le_length (validP_ok (pairP_parts hp).1).2.2.1
  rw [wide_ref hp, wideF_cnt hp hl, add64 (by omega) (by omega)]
  unfold wideN
  omega
theorem pack_sets {n s t : Int} {pl : List Kl} (hp : pairP n pl s t = true) : ∃ S : List Nat, S.length = packF (wideF pl s t).2 0 ∧ (∀ x ∈ S, x ∈ (wideF pl s t).2) ∧ S.Pairwise fun x y => x &&& y = 0 := by
  have hv := (pairP_parts hp).1
  have := pack_hold (F := fullN n - 1) (wideF pl s t).2 (fun x hx => by
    obtain ⟨w, hw, h1, rfl⟩ := wideF_mem x hx
    exact sub_full (betM_ltn hv w)) 0
  obtain ⟨S, s1, s2, s3⟩ := hold_list _ _ this
  exact ⟨S, s1, fun x hx => (s2 x hx).1, s3⟩
/-- Ways with nobody in common between have no call in common. -/
theorem way_apart {n s t : Int} {pl : List Kl} (hp : pairP n pl s t = true) {w u : List Int} (hw : w ∈ allWays pl s t) (hu : u ∈ allWays pl s t) (h1 : w.length ≠ 1) (hd : betM pl s t w &&& betM pl s t u = 0) : ∀ i ∈ w, i ∉ u := by
  obtain ⟨hv, hs, ht, hst⟩ := pairP_parts hp
  obtain ⟨hv1, hv2, hv3, hv4⟩ := validP_ok hv
  intro i hi hiu
  obtain ⟨i0, il⟩ := (allWays_ok w hw).2.2 i hi
  obtain ⟨c, hc⟩ : ∃ c, pl[i.toNat]? = some c := ⟨_, List.getElem?_eq_getElem (by omega)⟩
  obtain ⟨a1, a2, a3, _⟩ := okC_iff.1 (hv4 _ c hc)
  have nd := way_nodir hp hw h1 i hi c hc
  have bad : ∀ p : Int, 0 ≤ p → c.has p = true → p ≠ s → p ≠ t → False := by
    intro p hp0 hcp hps hpt
    have e := congrArg (fun m => Nat.testBit m p.toNat) hd
    simp only [Nat.testBit_and, Nat.zero_testBit] at e
    rw [betM_bit hs.1 ht.1, betM_bit hs.1 ht.1] at e
    have e1 : (w.any fun x => (endsK pl x).testBit p.toNat) = true := List.any_eq_true.2 ⟨i, hi, by rw [endsK_bit hv hc hp0]; exact hcp⟩
    have e2 : (u.any fun x => (endsK pl x).testBit p.toNat) = true := List.any_eq_true.2 ⟨i, hiu, by rw [endsK_bit hv hc hp0]; exact hcp⟩
    rw [e1, e2, decide_eq_false (show ¬ s.toNat = p.toNat by omega), decide_eq_false (show ¬ t.toNat = p.toNat by omega)] at e
    cases e
  have ha : c.has c.a = true := by unfold Kl.has; simp
  have hb : c.has c.b = true := by unfold Kl.has; simp
  by_cases e1 : c.a = s
  · by_cases e2 : c.b = t
    · rw [← e1, ← e2, ha, hb] at nd; cases nd
    · exact bad c.b a2.1 hb (by omega) e2
  · by_cases e2 : c.a = t
    · by_cases e3 : c.b = s
      · rw [← e2, ← e3, ha, hb] at nd; cases nd
      · exact bad c.b a2.1 hb e3 (by omega)
    · exact bad c.a a1.1 ha e1 e2
/-- No wider than there are ways apart. -/
theorem wide_le {n s t : Int} {pl : List Kl} (hp : pairP n pl s t = true) : wideN pl s t ≤ mcP pl s t 0 := by
  obtain ⟨hv, hs, ht, hst⟩ := pairP_parts hp
  obtain ⟨hv1, hv2, hv3, hv4⟩ := validP_ok hv
  obtain ⟨S, s1, s2, s3⟩ := pack_sets hp
  -- the direct calls
  let D : List (List Int) := ((List.range pl.length).filter fun i => match pl[i]? with
    | some c => c.has s && c.has t
    | none => false).map fun (i : Nat) => [(i : Int)]
  have hDl : D.length = dirN pl s t := by
    have : ∀ (l : List Kl) (q : Kl → Bool), ((List.range l.length).filter fun i => match l[i]? with
      | some c => q c
      | none => false).length = l.countP q := by
      intro l
      induction l with
      | nil => intro q; rfl
      | cons c l ih =>
        intro q
        rw [List.length_cons, List.range_succ_eq_map, List.filter_cons, List.countP_cons]
        have e : ((List.map Nat.succ (List.range l.length)).filter fun i => match (c :: l)[i]? with
          | some c => q c
          | none => false).length = l.countP q := by
          rw [List.filter_map, List.length_map]
          exact ih q
        cases hq : q c with
        | true => simp [hq, e]
        | false => simp [hq, e]
    show (List.map _ _).length = _
    rw [List.length_map]
    exact this pl fun c => c.has s && c.has t
  have hDw : ∀ w ∈ D, w ∈ allWays pl s t ∧ ∃ (i : Nat) (c : Kl), w = [(i : Int)] ∧ pl[i]? = some c ∧ (c.has s && c.has t) = true := by
    intro w hw
    obtain ⟨i, hi, rfl⟩ := List.mem_map.1 hw
    obtain ⟨h1, h2⟩ := List.mem_filter.1 hi
    cases hc : pl[i]? with
    | none => rw [hc] at h2; cases h2
    | some c =>
      rw [hc] at h2
      simp only at h2
      refine ⟨?_, i, c, rfl, hc, h2⟩
      refine (mem_all hv hst _).2 ((check_run hv hs _).2 ?_)
      simp only [Bool.and_eq_true] at h2
      have ho : c.oth s = t := by
        rcases has_or h2.1 h2.2 with e | e
        · exact absurd e.symm hst
        · exact e.symm
      obtain ⟨a1, a2, a3, a4, a5⟩ := okC_iff.1 (hv4 _ c hc)
      have hin : inP (shl .i64 1 s) t = false := by
        have e1 : AM.shl .i64 1 s = ((2 ^ s.toNat : Nat) : Int) := by
          have := shl1_nat (p := s.toNat) (by omega)
          rwa [Int.toNat_of_nonneg hs.1] at this
        rw [e1, inP_nat (two_lt (by omega)) (by omega), Nat.testBit_two_pow]
        exact decide_eq_false (by omega)
      refine ⟨(t, c.t, withP (shl .i64 1 s) t), ?_, rfl⟩
      simp only [runP, st0]
      rw [if_pos ⟨by omega, by have := (List.getElem?_eq_some_iff.1 hc).1; omega⟩, Int.toNat_natCast, hc]
      simp only
      have hgo : goes c s 0 (shl .i64 1 s) = true := by
        simp only [goes, Bool.and_eq_true, Bool.not_eq_true', decide_eq_false_iff_not]
        exact ⟨⟨by omega, h2.1⟩, by rw [ho]; exact hin⟩
      simp [hgo, ho]
  have hDd : D.Pairwise fun w u => ∀ i ∈ w, i ∉ u := by
    show (List.map _ _).Pairwise _
    rw [List.pairwise_map]
    have hnd : ((List.range pl.length).filter fun i => match pl[i]? with
      | some c => c.has s && c.has t
      | none => false).Pairwise (· < ·) := List.Pairwise.filter _ List.pairwise_lt_range
    refine hnd.imp fun {a b} hab i hi hi' => ?_
    rw [List.mem_singleton] at hi hi'
    omega
  clear_value D
  -- the others
  obtain ⟨F, hF⟩ : ∃ F : Nat → List Int, ∀ x ∈ S, F x ∈ allWays pl s t ∧ (F x).length ≠ 1 ∧ x = betM pl s t (F x) := by
    classical
    refine ⟨fun x => if h : ∃ w, w ∈ allWays pl s t ∧ w.length ≠ 1 ∧ x = betM pl s t w then h.choose else [], fun x hx => ?_⟩
    obtain ⟨w, hw, h1, h2⟩ := wideF_mem x (s2 x hx)
    have h : ∃ w, w ∈ allWays pl s t ∧ w.length ≠ 1 ∧ x = betM pl s t w := ⟨w, hw, h1, h2⟩
    simp only [dif_pos h]
    exact h.choose_spec
  have hlen : wideN pl s t = (D ++ S.map F).length := by
    unfold wideN
    rw [List.length_append, List.length_map, hDl, s1]
  have hks : S.length ≤ 128 := by
    rw [s1]
    refine Nat.le_trans (pack_le _ _) ?_
    have : ∀ (ws : List (List Int)) (σ : Int × List Nat), KsOk σ.2 → KsOk (ws.foldl (refS pl s t) σ).2 := by
      intro ws
      induction ws with
      | nil => intro σ h; exact h
      | cons w ws ih => intro σ h; exact ih _ (h.ref hv w)
    have ko := this (allWays pl s t) (0, []) ⟨List.nodup_nil, fun x hx => (by cases hx)⟩
    rw [ref_wide hp] at ko
    exact ko.len
  have hdn : dirN pl s t ≤ 24 := Nat.le_trans List.countP_le_length hv3
  rw [hlen]
  refine ways_mc (vp_iff.1 hv) hs hst (fun w hw => ?_) ?_ ?_
  · rcases List.mem_append.1 hw with h | h
    · exact (hDw w h).1
    · obtain ⟨x, hx, rfl⟩ := List.mem_map.1 h
      exact (hF x hx).1
  · rw [List.pairwise_append]
    refine ⟨hDd, ?_, fun w hw u hu i hi hiu => ?_⟩
    · rw [List.pairwise_map]
      refine s3.imp_of_mem fun {x y} hx hy hxy => ?_
      exact way_apart hp (hF x hx).1 (hF y hy).1 (hF x hx).2.1 (by rw [← (hF x hx).2.2, ← (hF y hy).2.2]; exact hxy)
    · obtain ⟨_, j, c, rfl, hc, hh⟩ := hDw w hw
      rw [List.mem_singleton] at hi
      subst hi
      obtain ⟨x, hx, rfl⟩ := List.mem_map.1 hu
      have := way_nodir hp (hF x hx).1 (hF x hx).2.1 _ hiu c (by rw [Int.toNat_natCast]; exact hc)
      rw [hh] at this
      cases this
  · rw [List.length_append, List.length_map, hDl]
    omega
theorem wide_pos {n s t : Int} {pl : List Kl} (hp : pairP n pl s t = true) : 0 < wideN pl s t ↔ 0 < mcP pl s t 0 := by
  obtain ⟨hv, hs, ht, hst⟩ := pairP_parts hp
  constructor
  · intro h
    exact Nat.lt_of_lt_of_le h (wide_le hp)
  · intro h
    obtain ⟨r, hr⟩ : ∃ r, mcP pl s t 0 = r + 1 := ⟨mcP pl s t 0 - 1, by omega⟩
    obtain ⟨w, hw, _⟩ := pick_way (vp_iff.1 hv) hs hst hr
    unfold wideN
    by_cases h1 : w.length = 1
    · have := dirN_pos.2 ((one_way hp (f := 31)).1 ⟨w, hw, h1⟩)
      omega
    · have hm := wide_has hw h1
      have := pack_ge (wideF pl s t).2 (fun x hx => by
        obtain ⟨w', hw', h1', rfl⟩ := wideF_mem x hx
        exact way_pos hp w' hw' h1') 1 (fullN n - 1) 0 (Nat.and_zero _) ⟨_, hm, sub_full (betM_ltn hv w), trivial⟩
      omega
theorem cut_all : ∀ B x : Fin 128, x.val &&& B.val ≠ 0 → cntB (without B.val x.val) < cntB B.val := by decide +kernel
/-- Sets apart, each with one who blocks, are no more than these. -/
theorem sets_block : ∀ (S : List Nat) (B : Nat), B < 2 ^ 7 → (∀ x ∈ S, x < 2 ^ 7 ∧ x &&& B ≠ 0) → S.Pairwise (fun x y => x &&& y = 0) → S.length ≤ cntB B := by
  intro S
  induction S with
  | nil => intro B _ _ _; exact Nat.zero_le _
  | cons x S ih =>
    intro B hB h hd
    obtain ⟨h1, h2⟩ := List.pairwise_cons.1 hd
    obtain ⟨hx7, hxB⟩ := h x List.mem_cons_self
    have hc := cut_all ⟨B, hB⟩ ⟨x, hx7⟩ hxB
    simp only at hc
    have := ih (without B x) (without_le _ _ hB) (fun y hy => ?_) h2
    · simp only [List.length_cons]; omega
    · obtain ⟨hy7, hyB⟩ := h y (List.mem_cons_of_mem _ hy)
      refine ⟨hy7, fun hz => hyB ?_⟩
      have hxy := h1 y hy
      apply Nat.eq_of_testBit_eq
      intro i
      have e1 := congrArg (fun m => Nat.testBit m i) hz
      have e2 := congrArg (fun m => Nat.testBit m i) hxy
      simp only [Nat.testBit_and, testBit_without, Nat.zero_testBit] at e1 e2 ⊢
      cases hyi : y.testBit i with
      | false => rfl
      | true =>
        rw [hyi] at e1 e2
        cases hbi : B.testBit i with
        | false => rfl
        | true => rw [hbi] at e1; cases hxi : x.testBit i with
          | true => rw [hxi] at e2; cases e2
          | false => rw [hxi] at e1; cases e1
end Go.AM
end

section
namespace Go.AM
open Go.Proofs
noncomputable def f15_l1 (_rec : Rec) (_k : Nat) (n5 : Int) (n10 : Int) (ws0 : List Value) (h12 : H) : Option (Ex × List Value × H) :=
 asI .i64 (gv ws0 1) fun n11 =>
 ifB (lt n11 n10) (
 asK (gv ws0 1) fun n12 =>
 nn n12 (
 asI .i64 (gv ws0 0) fun n13 =>
 asI .i64 (gv ws0 1) fun n14 =>
 out .normal [(.int .i64 (add .i64 n13 (and .i64 (shr .i64 n5 n12) 1))), (.int .i64 (add .i64 n14 1))] h12)) (
 out (.exit 0) [gv ws0 0, gv ws0 1] h12)
noncomputable def f15_l2 (_rec : Rec) (_k : Nat) (h7 : H) (n5 : Int) (v23 : Value) (n15 : Int) (ws2 : List Value) (h15 : H) : Option (Ex × List Value × H) :=
 asI .i64 (gv ws2 0) fun n16 =>
 ifB (lt n16 n15) (
 asK (gv ws2 0) fun n17 =>
 six v23 n17 3 fun b0 b1 =>
 ld Try.prog h15 56 b0 b1 fun v24 =>
 al h15 56 [(.int .i64 0), (.int .i64 0), (.int .i64 0)] fun h16 =>
 st Try.prog h16 56 (nx h15) 0 v24 fun h17 =>
 ld Try.prog h17 3 (nx h15) 0 fun v25 =>
 asI .i64 v25 fun n18 =>
 nn n18 (
 ifB (eq (and .i64 (shr .i64 n5 n18) 1) 0) (
 ld Try.prog h17 3 (nx h15) (off 0 1) fun v26 =>
 asI .i64 v26 fun n19 =>
 nn n19 (
 ifB (eq (and .i64 (shr .i64 n5 n19) 1) 0) (
 ld Try.prog h17 29 (nx h7) (off 0 1) fun v27 =>
 ld Try.prog h17 56 (nx h15) 0 fun v28 =>
 bls Try.prog h17 29 1 [(0, v28)] fun v29 h18 =>
 app Try.prog h18 29 29 v27 v29 fun v30 h19 =>
 st Try.prog h19 29 (nx h7) (off 0 1) v30 fun h20 =>
 asI .i64 (gv ws2 0) fun n20 =>
 out .normal [(.int .i64 (add .i64 n20 1))] h20) (
 asI .i64 (gv ws2 0) fun n21 =>
 out .normal [(.int .i64 (add .i64 n21 1))] h17))) (
 asI .i64 (gv ws2 0) fun n22 =>
 out .normal [(.int .i64 (add .i64 n22 1))] h17))) (
 out (.exit 2) [gv ws2 0] h15)
noncomputable def f15 (rec : Rec) (k : Nat) (v0 : Value) (n0 : Int) (n1 : Int) (h0 : H) : Option (Value × H) :=
 bx h0 24 v0 fun h1 =>
 ld Try.prog h1 24 (nx h0) 0 fun v1 =>
 calls rec h1 18 [v1] fun v2 h2 =>
 calls rec h2 53 [v2, (.int .i64 n0), (.int .i64 n1)] fun v3 h3 =>
 ext v3 0 fun v4 =>
 asI .i64 v4 fun n2 =>
 ext v3 1 fun v5 =>
 asI .i64 v5 fun n3 =>
 ld Try.prog h3 24 (nx h0) 0 fun v6 =>
 calls rec h3 18 [v6] fun v7 h4 =>
 calls rec h4 48 [v7, (.int .i64 n0), (.int .i64 n1)] fun v8 h5 =>
 ext v8 0 fun v9 =>
 ext v8 1 fun v10 =>
 asI .i64 v10 fun n4 =>
 ld Try.prog h5 24 (nx h0) 0 fun v11 =>
 calls rec h5 18 [v11] fun v12 h6 =>
 calls rec h6 54 [v12, (.int .i64 n0), (.int .i64 n1)] fun v13 h7 =>
 ext v13 0 fun v14 =>
 asI .i64 v14 fun n5 =>
 ext v13 1 fun v15 =>
 asI .i64 v15 fun n6 =>
 ifB (not (eq n3 0)) (
 ifB (eq n3 2) (
 ifB (eq n4 2) (
 ifB (eq n6 2) (
 calls rec h7 22 [] fun v16 h8 =>
 asB v16 fun q0 =>
 some ((.bool q0), h8)) (
 some ((.bool false), h7))) (
 some ((.bool false), h7))) (
 some ((.bool false), h7))) (
 ifB (not (eq n4 0)) (
 some ((.bool false), h7)) (
 len v9 fun n7 =>
 ifB (lt n7 n2) (
 some ((.bool false), h7)) (
 len v9 fun n8 =>
 eqv Try.prog 4 (.bool (lt 0 n2)) (.bool (lt 0 n8)) fun q1 =>
 ifB (not q1) (
 some ((.bool false), h7)) (
 ifB (lt n2 0) (
 some ((.bool false), h7)) (
 ifB (not (eq n6 0)) (
 ifB (eq n6 4) (
 ifB (lt 0 n2) (
 calls rec h7 22 [] fun v17 h9 =>
 asB v17 fun q2 =>
 some ((.bool q2), h9)) (
 some ((.bool false), h7))) (
 some ((.bool false), h7))) (
 ld Try.prog h7 3 (nx h0) 0 fun v18 =>
 asI .i64 v18 fun n9 =>
 bld Try.prog 31 [(0, (.int .i64 n9))] fun v19 =>
 al h7 31 [(.int .i64 0), (.slice none 0 0)] fun h10 =>
 st Try.prog h10 31 (nx h7) 0 v19 fun h11 =>
 ld Try.prog h11 3 (nx h0) 0 fun v20 =>
 asI .i64 v20 fun n10 =>
 lp k (f15_l1 rec k n5 n10) [(.int .i64 0), (.int .i64 0)] h11 fun e0 ws1 h13 =>
 onE e0 0 (
 ld Try.prog h13 24 (nx h0) 0 fun v21 =>
 calls rec h13 18 [v21] fun v22 h14 =>
 fld Try.prog 31 v22 1 fun v23 =>
 len v23 fun n15 =>
 lp k (f15_l2 rec k h7 n5 v23 n15) [(.int .i64 0)] h14 fun e1 _ h21 =>
 onE e1 2 (
 ld Try.prog h21 31 (nx h7) 0 fun v31 =>
 calls rec h21 17 [v31, (.int .i64 n0), (.int .i64 n1)] fun v32 h22 =>
 ext v32 0 fun _ =>
 ext v32 1 fun v34 =>
 asI .i64 v34 fun n23 =>
 ifB (eq n23 4) (
 asI .i64 (gv ws1 0) fun n24 =>
 ifB (le n2 n24) (
 nn n0 (
 ifB (eq (and .i64 (shr .i64 n5 n0) 1) 0) (
 nn n1 (
 ifB (eq (and .i64 (shr .i64 n5 n1) 1) 0) (
 ld Try.prog h22 3 (nx h0) 0 fun v35 =>
 asI .i64 v35 fun n25 =>
 nn n25 (
 ifB (lt n5 (shl .i64 1 n25)) (
 calls rec h22 22 [] fun v36 h23 =>
 asB v36 fun q3 =>
 some ((.bool q3), h23)) (
 some ((.bool false), h22)))) (
 some ((.bool false), h22)))) (
 some ((.bool false), h22)))) (
 some ((.bool false), h22))) (
 some ((.bool false), h22))) (
 none)) (
 none)))))))
theorem e15 (rec : Rec) (k : Nat) (v0 : Value) (n0 : Int) (n1 : Int) (h : H) : bodyT Try.prog E0 SC (XC Try.prog rec k) 15 (Value × H) [.opq v0, .int .i64 n0, .int .i64 n1] h (fun v h => some (v, h)) = f15 rec k v0 n0 n1 h := by kernel_rfl
end Go.AM
end

section
namespace Go.AM
open Go.Proofs
theorem cnt_low_all : ∀ n : Fin 8, ∀ X : Fin 128, X.val < 2 ^ n.val → ((List.range n.val).countP fun i => X.val.testBit i) = cntB X.val := by decide +kernel
theorem blk_q {n s t : Int} {pl : List Kl} (hp : pairP n pl s t = true) (hd : dirP pl s t = false) : qB pl s t (blkP n pl s t) = true ∧ blkP n pl s t < fullN n := by
  have h0 : 0 < fullN n := Nat.two_pow_pos _
  obtain ⟨hv, hs, ht, hst⟩ := pairP_parts hp
  obtain ⟨hv1, hv2, hv3, hv4⟩ := validP_ok hv
  have hN : fullN n ≤ 2 ^ 7 := Nat.pow_le_pow_right (by decide) (by omega)
  have hlt : ∀ (L : List Nat) (best : Nat), best < fullN n → (∀ X ∈ L, X < fullN n) → L.foldl (stB pl s t) best < fullN n := by
    intro L
    induction L with
    | nil => intro best h _; exact h
    | cons X L ih =>
      intro best h hL
      refine ih _ ?_ fun Y hY => hL Y (List.mem_cons_of_mem _ hY)
      unfold stB
      split
      · exact hL X List.mem_cons_self
      · exact h
  refine ⟨?_, hlt _ _ (by omega) fun X hX => List.mem_range.1 hX⟩
  have hR := blk_same hp hd
  -- the document's fold: what is answered may be taken
  have go : ∀ (L : List Nat) (z : Nat × Nat), (z = (0, 99) ∨ qB pl s t z.1 = true) → (L.foldl (stR pl s t) z = (0, 99) ∧ z = (0, 99) ∧ ∀ X ∈ L, ¬ qB pl s t X = true) ∨ qB pl s t (L.foldl (stR pl s t) z).1 = true := by
    intro L
    induction L with
    | nil =>
      intro z h
      rcases h with h | h
      · exact .inl ⟨h, h, fun X hX => (by cases hX)⟩
      · exact .inr h
    | cons X L ih =>
      intro z h
      rw [List.foldl_cons]
      by_cases hq : cntB X < z.2 ∧ qB pl s t X = true
      · have e : stR pl s t z X = (X, cntB X) := by unfold stR; rw [if_pos hq]
        rw [e]
        rcases ih (X, cntB X) (.inr hq.2) with ⟨_, h2, _⟩ | h1
        · have := cnt_le X
          simp only [Prod.mk.injEq] at h2
          omega
        · exact .inr h1
      · have e : stR pl s t z X = z := by unfold stR; rw [if_neg hq]
        rw [e]
        rcases ih z h with ⟨h1, h2, h3⟩ | h1
        · refine .inl ⟨h1, h2, fun Y hY => ?_⟩
          rcases List.mem_cons.1 hY with rfl | hY
          · intro hqY
            refine hq ⟨?_, hqY⟩
            rw [h2]
            have := cnt_le Y
            show cntB Y < 99
            omega
          · exact h3 Y hY
        · exact .inr h1
  rcases go (List.range (fullN n)) (0, 99) (.inl rfl) with ⟨_, _, h3⟩ | h
  · exfalso
    -- those who are neither s nor t may be taken
    refine h3 (without (without (fullN n - 1) (2 ^ s.toNat)) (2 ^ t.toNat)) ?_ ?_
    · rw [List.mem_range]
      have := without_sub (without (fullN n - 1) (2 ^ s.toNat)) (2 ^ t.toNat)
      have := without_sub (fullN n - 1) (2 ^ s.toNat)
      omega
    · unfold qB blkS
      simp only [Bool.and_eq_true, Bool.not_eq_true', List.all_eq_true]
      refine ⟨⟨?_, ?_⟩, fun x hx => ?_⟩
      · rw [testBit_without, testBit_without, Nat.testBit_two_pow, decide_eq_true rfl]; simp
      · rw [testBit_without, Nat.testBit_two_pow, decide_eq_true rfl]; simp
      · obtain ⟨w, hw, h1, rfl⟩ := wideF_mem x hx
        have hpos := way_pos hp w hw h1
        have e : betM pl s t w &&& without (without (fullN n - 1) (2 ^ s.toNat)) (2 ^ t.toNat) = betM pl s t w := by
          apply Nat.eq_of_testBit_eq
          intro i
          rw [Nat.testBit_and]
          cases hb : (betM pl s t w).testBit i with
          | false => rfl
          | true =>
            have hf := without_zero.1 (sub_full (betM_ltn (s := s) (t := t) hv w)) i hb
            rw [betM_bit hs.1 ht.1] at hb
            simp only [Bool.and_eq_true, Bool.not_eq_true'] at hb
            rw [testBit_without, testBit_without, Nat.testBit_two_pow, Nat.testBit_two_pow, hb.1.2, hb.2]
            unfold fullN
            rw [hf]
            rfl
        rw [e]
        simpa using (by omega : betM pl s t w ≠ 0)
  · rw [hR] at h
    exact h
theorem l151 {n X : Nat} {g : H} {rc : Rec} {kk : Nat} (hn : n ≤ 7) (hX : X < 2 ^ n) : ∃ ws, lpGo (f15_l1 rc kk (X : Nat) n) 1000 [iv 0, iv 0] g = some (.exit 0, ws, g) ∧ gv ws 0 = iv (cntB X : Nat) := by
  have hX7 : X < 2 ^ 7 := Nat.lt_of_lt_of_le hX (Nat.pow_le_pow_right (by decide) hn)
  obtain ⟨ws', g', q1, _, rfl, rfl⟩ := lp_for (k := 1000) (l := List.range n) (F := f15_l1 rc kk (X : Nat) n) (fun _ (i : Nat) (a : Nat) => a + if X.testBit i = true then 1 else 0)
    (fun i a ws g' => a ≤ i ∧ g' = g ∧ ws = [iv a, iv i]) 0 (ws := [iv 0, iv 0]) (h := g) (s0 := 0) ⟨Nat.le_refl _, rfl, rfl⟩ (by rw [List.length_range]; omega)
    (fun a ws g' hI => by
      obtain ⟨_, rfl, rfl⟩ := hI
      unfold f15_l1
      simp only [gv, List.getD_cons_zero, List.getD_cons_succ, asI_int, List.length_range]
      rw [lt_f (by omega), ifB_false]; rfl)
    (fun i x a ws g' hx hI => by
      obtain ⟨ha, rfl, rfl⟩ := hI
      obtain ⟨hi, rfl⟩ : i < n ∧ i = x := by
        obtain ⟨h1, h2⟩ := List.getElem?_eq_some_iff.1 hx
        rw [List.length_range] at h1
        rw [List.getElem_range] at h2
        exact ⟨h1, h2⟩
      have hz := bitZ (p := (i : Int)) hX7 (by omega)
      rw [Int.toNat_natCast] at hz
      refine ⟨[iv (a + if X.testBit i = true then 1 else 0 : Nat), iv (i + 1 : Nat)], g', ?_, by split <;> omega, rfl, rfl⟩
      unfold f15_l1
      simp only [gv, List.getD_cons_zero, List.getD_cons_succ, asI_int, asK_int]
      rw [lt_t (by omega), ifB_true, nn_ge (by omega), hz, add64 (a := (i : Int)) (by omega) (by omega)]
      by_cases hb : X.testBit i = true
      · rw [if_pos hb, if_pos hb, add64 (by omega) (by omega)]; rfl
      · rw [if_neg hb, if_neg hb, add64 (by omega) (by omega)]; simp; rfl)
  refine ⟨_, q1, ?_⟩
  rw [foldI_foldl]
  show iv _ = _
  congr 2
  have : ∀ (l : List Nat) (a : Nat), l.foldl (fun a i => a + if X.testBit i = true then 1 else 0) a = a + l.countP fun i => X.testBit i := by
    intro l
    induction l with
    | nil => intro a; simp
    | cons i l ih => intro a; rw [List.foldl_cons, ih, List.countP_cons]; omega
  rw [this, Nat.zero_add]
  exact cnt_low_all ⟨n, by omega⟩ ⟨X, hX7⟩ hX
theorem l152 {X : Nat} (hX : X < 2 ^ 7) {h7 h14 : H} {n : Int} {sl : Value} {l : List Kl} {rc : Rec} {kk : Nat} (hv : validP n l = true) (hlt : h7.nx < h14.nx) (hb : h14.blk h7.nx = some (.row [iv n, .slice none 0 0] 31 true)) (hs : SlR h14 56 3 sl (l.map Kl.cells)) :
    ∃ ws g sv, lpGo (f15_l2 rc kk h7 (X : Nat) sl l.length) 1000 [iv 0] h14 = some (.exit 2, ws, g) ∧ h14.nx ≤ g.nx ∧ (∀ b, b < h14.nx → b ≠ h7.nx → g.blk b = h14.blk b) ∧ g.blk h7.nx = some (.row [iv n, sv] 31 true) ∧
      AqR h14.nx g 56 3 sv ((l.filter fun c => !touchX X c).map Kl.cells) := by
  obtain ⟨hv1, hv2, hv3, hv4⟩ := validP_ok hv
  obtain ⟨ws', g', hl, hn, hk', sv, hsv, hap, rfl⟩ := lp_for (F := f15_l2 rc kk h7 (X : Nat) sl l.length) (k := 1000) (l := l) (fun _ _ (_ : Unit) => ())
    (fun i _ ws g => h14.nx ≤ g.nx ∧ (∀ b, b < h14.nx → b ≠ h7.nx → g.blk b = h14.blk b) ∧ ∃ sv, g.blk h7.nx = some (.row [iv n, sv] 31 true) ∧ AqR h14.nx g 56 3 sv (((l.take i).filter fun c => !touchX X c).map Kl.cells) ∧ ws = [iv i]) 2 (ws := [iv 0]) (h := h14) (s0 := ())
    ⟨Nat.le_refl _, fun _ _ _ => rfl, _, hb, .nil, rfl⟩ (by omega)
    (by
      rintro _ ws g ⟨_, _, sv, _, _, rfl⟩
      unfold f15_l2
      rw [show gv [iv (l.length : Int)] 0 = iv (l.length : Int) from rfl, asI_int, lt_f (by omega), ifB_false]
      rfl)
    (by
      rintro i c _ ws g hc ⟨hn, hk, sv, hg2, hap, rfl⟩
      have hil := (List.getElem?_eq_some_iff.1 hc).1
      obtain ⟨a1, a2, _⟩ := okC_iff.1 (hv4 _ c hc)
      have kt : ∀ (e : TypeId), e ≠ 31 → ∀ b cs o, b < h14.nx → h14.blk b = some (.row cs e o) → g.blk b = h14.blk b := fun e he b cs o hbl hr => hk b hbl fun e' => by
        rw [e', hb] at hr
        simp at hr
        exact he hr.2.1.symm
      have hs' := hs.keepT hn (kt 56 (by decide))
      have y7 := (Ext.refl g).fresh 56 [iv 0, iv 0, iv 0] c.cells
      have hcb := blk_fresh g 56 [iv 0, iv 0, iv 0] c.cells
      have n7 : (g.fresh 56 [iv 0, iv 0, iv 0] c.cells).nx = g.nx + 1 := rfl
      have hadd : add .i64 (i : Int) 1 = (i : Int) + 1 := add64 (by omega) (by omega)
      have hlt9 : h7.nx < g.nx := by omega
      have g2 := (y7.blk h7.nx (by omega)).trans hg2
      have a7 := hap.ext y7
      have hsnoc : (l.take (i + 1)).filter (fun c => !touchX X c) = (l.take i).filter (fun c => !touchX X c) ++ (if touchX X c = true then [] else [c]) := by
        rw [List.take_add_one, hc, Option.toList_some, List.filter_append]
        congr 1
        cases ht : touchX X c <;> simp [ht]
      have hpl : ((l.take i).filter fun c => !touchX X c).length ≤ 24 := Nat.le_trans (List.length_filter_le _ _) (by rw [List.length_take]; omega)
      have z1 := bitZ (p := c.a) hX (by omega)
      have z2 := bitZ (p := c.b) hX (by omega)
      unfold f15_l2
      rw [show gv [iv i] 0 = iv i from rfl, asI_int, lt_t (by omega), ifB_true, asK_int, hs'.ldA ag56 sz56 (by omega) (x := c.cells) (by simp [hc])]
      rw [al_st (zs := [iv 0, iv 0, iv 0]) (xs := c.cells) sz56 rfl rfl]
      generalize g.fresh 56 [iv 0, iv 0, iv 0] c.cells = h17 at *
      have k7 : ∀ b, b < h14.nx → b ≠ h7.nx → h17.blk b = h14.blk b := fun b hbl hne => (y7.blk b (by omega)).trans (hk b hbl hne)
      rw [d3, nx_eq, cell_of hcb, show c.cells[0]? = some (iv c.a) from rfl, Option.bind_some, asI_int, nn_ge a1.1, z1]
      by_cases ta : X.testBit c.a.toNat = true
      · rw [if_pos ta, eq_f (by decide), ifB_false]
        have ht : touchX X c = true := by unfold touchX; rw [ta]; rfl
        rw [if_pos ht, List.append_nil] at hsnoc
        refine ⟨[iv ((i : Int) + 1)], h17, ?_, by omega, k7, sv, g2, by rw [hsnoc]; exact a7, rfl⟩
        rw [asI_int, hadd]; rfl
      rw [if_neg ta, eq_t rfl, ifB_true, d3, cell_of hcb, show c.cells[off 0 1]? = some (iv c.b) from rfl, Option.bind_some, asI_int, nn_ge a2.1, z2]
      by_cases tb : X.testBit c.b.toNat = true
      · rw [if_pos tb, eq_f (by decide), ifB_false]
        have ht : touchX X c = true := by unfold touchX; rw [tb, Bool.or_true]
        rw [if_pos ht, List.append_nil] at hsnoc
        refine ⟨[iv ((i : Int) + 1)], h17, ?_, by omega, k7, sv, g2, by rw [hsnoc]; exact a7, rfl⟩
        rw [asI_int, hadd]; rfl
      rw [if_neg tb, eq_t rfl, ifB_true]
      have ht : ¬ touchX X c = true := by unfold touchX; simp only [Bool.or_eq_true, not_or]; exact ⟨ta, tb⟩
      rw [if_neg ht] at hsnoc
      obtain ⟨v', h8, e9, a9, n9, k9, b9, hb9, hb9'⟩ := a7.push app29 app29 (bls29 c) rfl rfl (by simp; omega) (by omega)
      have nosv : ∀ b, b < h14.nx → AM.blkOf sv ≠ some b := fun b hbl e => by have := (a7.blkOf e).1; omega
      have g2' := (k9 h7.nx (by omega) (nosv _ hlt)).trans g2
      have hst : wrc 1 h8 h7.nx 1 v' = some (h8.set h7.nx (.row [iv n, v'] 31 true)) := by rw [wrc_one g2' a9.cells.1 a9.cells.2 (by simp)]; rfl
      have a10 : AqR h14.nx (h8.set h7.nx (.row [iv n, v'] 31 true)) 56 3 v' (((l.take i).filter fun c => !touchX X c).map Kl.cells ++ [c.cells]) := a9.keep (Nat.le_refl _) fun b hbx => blk_set_ne _ _ _ (by have := (a9.blkOf hbx).1; omega)
      refine ⟨[iv ((i : Int) + 1)], h8.set h7.nx (.row [iv n, v'] 31 true), ?_, by rw [nx_set]; omega, fun b hbl hne => ?_, v', blk_set_self _ _ _, ?_, rfl⟩
      · rw [d29, nx_eq, cell_of g2, show ([iv n, sv] : List Value)[off 0 1]? = some sv from rfl, Option.bind_some, d56, rd_all (n := 3) hcb rfl, Option.bind_some, show c.cells.toArray = #[.int .i64 c.a, .int .i64 c.b, .int .i64 c.t] from rfl, e9, w29, show off 0 1 = 1 from rfl, hst, Option.bind_some]
        rw [asI_int, hadd]
        rfl
      · rw [blk_set_ne _ _ _ hne, k9 b (by omega) (nosv b hbl)]
        exact k7 b hbl hne
      · rw [hsnoc, List.map_append]
        exact a10)
  rw [List.take_length] at hap
  exact ⟨_, g', sv, hl, hn, hk', hsv, hap⟩
end Go.AM
end

section
namespace Go.AM
open Go.Proofs
theorem eqv4 {a b : Bool} {R : Type} {K : Bool → Option R} : eqv Try.prog 4 (.bool a) (.bool b) K = K (a == b) := by
  have : binOp Try.prog .eql 4 (.bool a) (.bool b) = some (.bool (a == b)) := by cases a <;> cases b <;> kernel_rfl
  unfold eqv
  rw [this]
theorem noway_best {n s t : Int} {l : List Kl} (h : ∀ w, w ∉ allWays l s t) : bestP (ofK l 0) l s t = none := by
  have : allWays l s t = [] := List.eq_nil_iff_forall_not_mem.2 h
  unfold bestP
  rw [this]
  rfl
theorem filt_pair {n s t : Int} {l : List Kl} (hp : pairP n l s t = true) (X : Nat) : pairP n (l.filter fun c => !touchX X c) s t = true := by
  obtain ⟨hv, hs, ht, hst⟩ := pairP_parts hp
  have v := vp_iff.1 hv
  rw [← part_touch]
  unfold pairP
  rw [vp_iff.2 (v.part (leftT X l)), decide_eq_true hs, decide_eq_true ht]
  simp [hst]
theorem s15 {n s t : Int} {sl : Value} {l : List Kl} {h : H} (hs : SlR h 59 3 sl (l.map Kl.cells)) : ∃ h', f15 rcW 1000 (.agg #[iv n, sl]) s t h = some (.bool true, h') := by
  let h1 := h.new (.row [iv n, sl] 24 true)
  have x1 : Ext h h1 := .new _ _
  have b1 : h1.blk h.nx = some (.row [iv n, sl] 24 true) := blk_new_self _ _
  have n1 : h1.nx = h.nx + 1 := rfl
  obtain ⟨la, h2, e2, x2, s2⟩ := s18 (n := n) (hs.ext x1)
  have hx2 := x2.nx
  have b2 := (x2.blk h.nx (by omega)).trans b1
  obtain ⟨lb, h3, e3, x3, s3⟩ := s18 (n := n) ((hs.ext x1).ext x2)
  have hx3 := x3.nx
  have b3 := (x3.blk h.nx (by omega)).trans b2
  have hs3 := ((hs.ext x1).ext x2).ext x3
  have k22' : ∀ (h : H) (K : Value → H → Option (Value × H)), calls rcW h 22 [] K = K (.bool true) h := fun h K => (rcW_ne (by decide) (by decide)).trans (k22 h K)
  -- Apart
  have ap : ∃ (v : Value) (m e : Int) (h4 : H), rn 48 #[.agg #[iv n, lb], iv s, iv t] h3 = some (.tuple #[v, iv e], h4) ∧ Ext h3 h4 ∧ (∀ {T : Type} (K : Int → Option T), len v K = K m) ∧ (pairP n l s t = true → e = 0 ∧ m = (mcP l s t 0 : Nat)) ∧ (pairP n l s t = false → e = 2) := by
    cases hp : pairP n l s t with
    | false =>
      obtain ⟨h4, e4, x4⟩ := s48_bad (s := s) (t := t) s3 (by rw [pairP_take]; exact hp)
      exact ⟨_, 0, 2, h4, e4, x4, fun K => rfl, fun h => (by cases h), fun _ => rfl⟩
    | true =>
      have hl : l.take 26 = l := List.take_of_length_le (by have := (validP_ok (pairP_parts hp).1).2.2.1; omega)
      rw [hl] at s3
      have hn1 := (validP_ok (pairP_parts hp).1).1
      obtain ⟨m, rfl⟩ := Int.eq_ofNat_of_zero_le (show 0 ≤ n by omega)
      obtain ⟨v, vs, W, h4, e4, x4, a4, w4, r4⟩ := s48 (s := s) (t := t) s3 hp
      have hvl : vs.length = W.length := w4.1
      exact ⟨v, vs.length, 0, h4, e4, x4, fun K => by rw [a4.len]; simp, fun _ => ⟨rfl, by rw [hvl, r4.len]⟩, fun h => (by cases h)⟩
  obtain ⟨v9, m9, e9, h4, e48, x4, hlen9, ap1, ap2⟩ := ap
  have hx4 := x4.nx
  have b4 := (x4.blk h.nx (by omega)).trans b3
  have hs4 := hs3.ext x4
  obtain ⟨lc, h5, e5, x5, s5⟩ := s18 (n := n) hs4
  have hx5 := x5.nx
  have b5 := (x5.blk h.nx (by omega)).trans b4
  have hs5 := hs4.ext x5
  -- up to the first branch
  let R0 : Option (Value × H) → Prop := fun o => ∃ h', o = some (.bool true, h')
  show R0 _
  unfold f15
  rw [bx_eq, nx_eq, show (Value.agg #[iv n, sl]).cells.toList = [iv n, sl] from rfl]
  show R0 (ld Try.prog h1 24 h.nx 0 _)
  rw [d24, rd_all (n := 2) b1 rfl, Option.bind_some, rcW_ne (by decide) (by decide)]
  rw [show ∀ K : Value → H → Option (Value × H), calls rn h1 18 [.agg (([iv n, sl] : List Value).toArray)] K = K (.agg #[iv n, la]) h2 from fun K => calls_eq (xs := [_]) e2]
  rw [k53 s2, ext20, asI_int, ext21, asI_int, d24, rd_all (n := 2) b2 rfl, Option.bind_some, rcW_ne (by decide) (by decide)]
  rw [show ∀ K : Value → H → Option (Value × H), calls rn h2 18 [.agg (([iv n, sl] : List Value).toArray)] K = K (.agg #[iv n, lb]) h3 from fun K => calls_eq (xs := [_]) e3, rcW_ne (by decide) (by decide)]
  rw [show ∀ K : Value → H → Option (Value × H), calls rn h3 48 [.agg #[iv n, lb], .int .i64 s, .int .i64 t] K = K (.tuple #[v9, iv e9]) h4 from fun K => calls_eq (xs := [_, _, _]) e48, ext20, ext21, asI_int]
  rw [d24, rd_all (n := 2) b4 rfl, Option.bind_some, rcW_ne (by decide) (by decide)]
  rw [show ∀ K : Value → H → Option (Value × H), calls rn h4 18 [.agg (([iv n, sl] : List Value).toArray)] K = K (.agg #[iv n, lc]) h5 from fun K => calls_eq (xs := [_]) e5]
  rw [k54 s5, ext20, asI_int, ext21, asI_int]
  cases hp : pairP n l s t with
  | false =>
    have hp26 : pairP n (l.take 26) s t = false := by rw [pairP_take]; exact hp
    have ew : widA n (l.take 26) s t = (0, 2) := by unfold widA; rw [hp26]; rfl
    have eb : blkA n (l.take 26) s t = (0, 2) := by unfold blkA; rw [hp26]; rfl
    rw [ew, eb, ap2 hp]
    refine ⟨h5, ?_⟩
    rw [eq_f (by decide), Bool.not_false, ifB_true, eq_t rfl, ifB_true, ifB_true, ifB_true, k22', asB_bool]
  | true =>
    obtain ⟨hv, hsn, htn, hst⟩ := pairP_parts hp
    obtain ⟨hv1, hv2, hv3, hv4⟩ := validP_ok hv
    have hl : l.take 26 = l := List.take_of_length_le (by omega)
    obtain ⟨rfl, rfl⟩ := ap1 hp
    rw [hl]
    -- what is known of the width
    obtain ⟨_, _, _, _, _, ko, hal⟩ := s92 hs5 hp
    have ewn := wide_N hp hal ko
    have ew : widA n l s t = (((wideN l s t : Nat) : Int), 0) := by unfold widA; rw [hp, ← ewn]; rfl
    have hle := wide_le hp
    have hpos := wide_pos hp
    have hmc := mcP_le (l := l) hst 0
    have ew1 := congrArg Prod.fst ew
    have ew2 := congrArg Prod.snd ew
    simp only at ew1 ew2
    rw [ew1, ew2, eq_t rfl, Bool.not_true, ifB_false, ifB_false, hlen9, lt_f (by omega), ifB_false, hlen9, eqv4]
    have hbb : (AM.lt 0 ((wideN l s t : Nat) : Int) == AM.lt 0 ((mcP l s t 0 : Nat) : Int)) = true := by
      by_cases hz : 0 < wideN l s t
      · have := hpos.1 hz
        rw [lt_t (by omega), lt_t (by omega)]; rfl
      · have : ¬ 0 < mcP l s t 0 := fun h => hz (hpos.2 h)
        rw [lt_f (by omega), lt_f (by omega)]; rfl
    rw [hbb, Bool.not_true, ifB_false, lt_f (by omega), ifB_false]
    cases hd : dirP l s t with
    | true =>
      have eb : blkA n l s t = (0, 4) := by unfold blkA; rw [hp, hd]; rfl
      have hz : 0 < wideN l s t := by
        have := dirN_pos.2 hd
        unfold wideN
        omega
      rw [congrArg Prod.snd eb]
      simp only
      rw [eq_f (by decide), Bool.not_false, ifB_true, eq_t rfl, ifB_true, lt_t (by omega), ifB_true]
      exact ⟨h5, by rw [k22', asB_bool]⟩
    | false =>
      have eb : blkA n l s t = (((blkP n l s t : Nat) : Int), 0) := by unfold blkA; rw [hp, hd]; rfl
      obtain ⟨hq, hbl⟩ := blk_q hp hd
      have hN : fullN n ≤ 2 ^ 7 := Nat.pow_le_pow_right (by decide) (by omega)
      have hB7 : blkP n l s t < 2 ^ 7 := by omega
      have hq' := hq
      unfold qB at hq'
      simp only [Bool.and_eq_true, Bool.not_eq_true'] at hq'
      obtain ⟨⟨f1, f2⟩, f3⟩ := hq'
      have hsh : AM.shl .i64 1 n = ((fullN n : Nat) : Int) := by
        have := shl1_nat (p := n.toNat) (by omega)
        rwa [Int.toNat_of_nonneg (by omega)] at this
      -- no more than those who block
      have hwc : wideN l s t ≤ cntB (blkP n l s t) := by
        obtain ⟨S, s1', s2', s3'⟩ := pack_sets hp
        have hd0 : dirN l s t = 0 := by
          refine Nat.eq_zero_of_not_pos fun hz => ?_
          rw [dirN_pos.1 hz] at hd
          cases hd
        unfold wideN
        rw [hd0, Nat.zero_add, ← s1']
        refine sets_block S _ hB7 (fun x hx => ⟨ko.2 x (s2' x hx), ?_⟩) s3'
        have := List.all_eq_true.1 f3 x (s2' x hx)
        simpa using this
      have eb1 := congrArg Prod.fst eb
      have eb2 := congrArg Prod.snd eb
      simp only at eb1 eb2
      rw [eb1, eb2, eq_t rfl, Bool.not_true, ifB_false]
      rw [d3, cell_of b5, show ([iv n, sl] : List Value)[0]? = some (iv n) from rfl, Option.bind_some, asI_int, kbld31]
      rw [al_st (zs := [.int .i64 0, .slice none 0 0]) (xs := [.int .i64 n, .slice none 0 0]) sz31 rfl rfl]
      have y11 := (Ext.refl h5).fresh 31 [.int .i64 0, .slice none 0 0] [iv n, .slice none 0 0]
      have p11 := blk_fresh h5 31 [.int .i64 0, .slice none 0 0] [iv n, .slice none 0 0]
      have n11 : (h5.fresh 31 [.int .i64 0, .slice none 0 0] [iv n, .slice none 0 0]).nx = h5.nx + 1 := rfl
      generalize h5.fresh 31 [.int .i64 0, .slice none 0 0] [iv n, .slice none 0 0] = h11 at *
      have b11 := (y11.blk h.nx (by omega)).trans b5
      have hs11 := hs5.ext y11
      obtain ⟨ld, h14, e14, x14, s14⟩ := s18 (n := n) hs11
      have hx14 := x14.nx
      rw [hl] at s14
      have p14 := (x14.blk h5.nx (by omega)).trans p11
      obtain ⟨m, rfl⟩ := Int.eq_ofNat_of_zero_le (show 0 ≤ n by omega)
      obtain ⟨ws1, q1, q1'⟩ := l151 (n := m) (X := blkP m l s t) (g := h11) (rc := rcW) (kk := 1000) (by omega) hbl
      obtain ⟨ws2, h21, sv, q2, n21, k21, p21, a21⟩ := l152 (rc := rcW) (kk := 1000) hB7 (h7 := h5) (h14 := h14) hv (by omega) p14 s14
      have hlenl : ∀ {T : Type} (K : Int → Option T), len ld K = K l.length := fun K => by rw [s14.len]; simp
      have b21 : h21.blk h.nx = some (.row [iv (m : Int), sl] 24 true) := by rw [k21 _ (by omega) (by omega), x14.blk _ (by omega)]; exact b11
      rw [d3, cell_of b11, show ([iv (m : Int), sl] : List Value)[0]? = some (iv (m : Int)) from rfl, Option.bind_some, asI_int, lp_eq q1, onE_exit, if_pos rfl]
      rw [d24, rd_all (n := 2) b11 rfl, Option.bind_some, rcW_ne (by decide) (by decide)]
      rw [show ∀ K : Value → H → Option (Value × H), calls rn h11 18 [.agg (([iv (m : Int), sl] : List Value).toArray)] K = K (.agg #[iv (m : Int), ld]) h14 from fun K => calls_eq (xs := [_]) e14]
      rw [kfld31, hlenl, lp_eq q2, onE_exit, if_pos rfl, nx_eq, d31, rd_all (n := 2) p21 rfl, Option.bind_some]
      -- without those people nothing arrives
      have hpf := filt_pair hp (blkP m l s t)
      have hnone : bestP (ofK (l.filter fun c => !touchX (blkP m l s t) c) 0) (l.filter fun c => !touchX (blkP m l s t) c) s t = none := by
        refine noway_best (n := m) fun w hw => ?_
        have h1 := (arr_way (pairP_parts hpf).1 hsn htn hst).2 ⟨w, hw⟩
        exact h1 ((block_ref hp (no_dir hp hd) hB7 f1 f2).2 f3)
      obtain ⟨v33, e33, h22, e17, x22, br⟩ := s17 (n := (m : Int)) (s := s) (t := t) a21.slR hpf
      rw [hnone] at br
      obtain ⟨rfl, rfl⟩ := br
      have b22 := (x22.blk h.nx (by omega)).trans b21
      rw [rcW_ne (by decide) (by decide)]
      rw [show ∀ K : Value → H → Option (Value × H), calls rn h21 17 [.agg (([iv (m : Int), sv] : List Value).toArray), .int .i64 s, .int .i64 t] K = K (.tuple #[.slice none 0 0, iv 4]) h22 from fun K => calls_eq (xs := [_, _, _]) e17, ext20, ext21, asI_int, eq_t rfl, ifB_true, q1', asI_int, le_t (by omega), ifB_true]
      rw [nn_ge hsn.1, bitZ hB7 (by omega), f1, if_neg (by decide), eq_t rfl, ifB_true, nn_ge htn.1, bitZ hB7 (by omega), f2, if_neg (by decide), eq_t rfl, ifB_true]
      rw [d3, cell_of b22, show ([iv (m : Int), sl] : List Value)[0]? = some (iv (m : Int)) from rfl, Option.bind_some, asI_int, nn_ge (by omega), hsh, lt_t (by omega), ifB_true]
      exact ⟨h22, by rw [k22', asB_bool]⟩
end Go.AM
end

section
namespace Go.AM
open Go.Proofs Go.ChangeShapes
variable {HH : Type} {enc : TypeId × Value → HH} {w : World} {base : Nat} {held : Bool}
noncomputable def fields59 : Array Field := match Try.prog.underlying 59 with
  | some (.struct fs) => fs
  | _ => #[]
theorem under59 : Try.prog.underlying 59 = some (.struct fields59) := by kernel_rfl
theorem fields59_types : fields59.toList.map (fun f => (f.type, f.offset)) = [(3, 0), (3, 1), (3, 2)] := by kernel_rfl
theorem cellsOf3 : Try.prog.cellsOf 3 = 1 := by kernel_rfl
theorem cellsOf59 : Try.prog.cellsOf 59 = 3 := by kernel_rfl
theorem flat59 (n : Nat) (cs : List Value) (x : DataW HH × List MemPlace) (h : DataW.trod enc Try.prog w base (fun _ => true) held n 59 cs = some x) : ∃ c : Kl, cs = c.cells := by
  obtain ⟨a, b, t, e⟩ := trod_three under59 fields59_types (show Try.prog.underlying 3 = some (.int .i64) from by kernel_rfl) cellsOf3 cellsOf59 h
  exact ⟨⟨a, b, t⟩, e⟩
/-- Rows that are cells of calls are the cells of a list of calls. -/
theorem calls_of : ∀ (l : List (List Value)), (∀ x ∈ l, ∃ c : Kl, x = c.cells) → ∃ l' : List Kl, l = l'.map Kl.cells := by
  intro l
  induction l with
  | nil => intro _; exact ⟨[], rfl⟩
  | cons x l ih =>
    intro h
    obtain ⟨c, hc⟩ := h x (by simp)
    obtain ⟨l', hl⟩ := ih (fun y hy => h y (List.mem_cons_of_mem _ hy))
    exact ⟨c :: l', by rw [hc, hl]; rfl⟩
noncomputable def fields24 : Array Field := match Try.prog.underlying 24 with
  | some (.struct fs) => fs
  | _ => #[]
noncomputable def field24 (i : Nat) : Field := fields24[i]!
theorem under24s : Try.prog.underlying 24 = some (.struct fields24) := by kernel_rfl
theorem fields24_eq : fields24 = #[field24 0, field24 1] := by kernel_rfl
theorem field24_0 : ((field24 0).type, (field24 0).offset) = (3, 0) := by kernel_rfl
theorem field24_1 : ((field24 1).type, (field24 1).offset) = (22, 1) := by kernel_rfl
theorem under3 : Try.prog.underlying 3 = some (.int .i64) := by kernel_rfl
theorem under22L : Try.prog.underlying 22 = some (.slice 59) := by kernel_rfl
theorem cellsOf24 : Try.prog.cellsOf 24 = 2 := by kernel_rfl
theorem cellsOf22 : Try.prog.cellsOf 22 = 1 := by kernel_rfl
theorem bytes59 : Try.prog.bytesOf 59 = 24 := by kernel_rfl
theorem types24 : Try.prog.cellTypes Try.prog.depth 24 = some [3, 22] := by kernel_rfl
set_option maxRecDepth 100000 in
/-- A log that came in. -/
theorem open_log {rr : Reach} {b0 : Nat} {v : Value} {d : DataW HH} {ps : List MemPlace} (hv : Value.okWide Try.prog w rr b0 24 v) (hwt : ∀ x ∈ d.weights Try.prog 24, x ≤ reachBytes)
    (hd : DataW.Trod enc Try.prog w base (fun _ => true) held 24 v d ps) {ι : Nat → Emb} {h : H} (r : Rel Try.prog E0 ι h w) (hro : ∀ b k, h.blk b = some k → k.own = false) :
    ∃ (n : Int) (sl sl0 : Value) (ι' : Nat → Emb) (h' : H) (l : List Kl), v = .agg #[iv n, sl] ∧ (Lit.int .i64 n).wf = true ∧ Rel Try.prog E0 ι' h' w ∧ (∀ b k, h'.blk b = some k → k.own = false) ∧ Ext h h' ∧ (∀ b, b < h.nx → ι' b = ι b) ∧
      VR ι' h'.nx sl0 sl ∧ SlR h' 59 3 sl0 (l.map Kl.cells) := by
  obtain ⟨n, a, len, cap, d1, p1, rfl, hn, hw1, hhas, hd1⟩ := open_numslice under24s fields24_eq (Prod.mk.inj field24_0) (Prod.mk.inj field24_1) under3 under22L cellsOf24 cellsOf3 cellsOf22 types24 hv hwt hd
  obtain ⟨ι', h', v0, l, g1, g2, g3, g4, g5, g6, g7⟩ := open_flat r hro under22L sz59 cellsOf59 (by decide) (Q := fun x => ∃ c : Kl, x = c.cells) flat59 (by
    rintro cs ⟨c, rfl⟩
    exact ⟨rfl, fun v hv => by simp [Kl.cells] at hv; rcases hv with rfl | rfl | rfl <;> exact ⟨_, _, rfl⟩⟩) (by rw [bytes59]; exact Nat.succ_pos _) hw1 hhas hd1
  obtain ⟨l', rfl⟩ := calls_of l g7
  exact ⟨n, _, v0, ι', h', l', rfl, hn, g1, g2, g3, g4, g5, g6⟩
end Go.AM
end
