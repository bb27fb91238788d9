/- How often a cycle may go round: the program's answer, and the document's. -/
import Derived.Test.YtnhmgokjijlhbaaTb
namespace Go.AM
open Go.Proofs

variable {k : Nat} {R : Type}

attribute [local simp] nx_eq nx_new nx_set blk_new blk_set asI_int asK_int asB_bool asP_ptr al_eq bx_eq len_slice onE_exit onE_ret onR_ret Value.cells d3 d4 d22 d45 d47 d50 d52 d67 d88 d89 cell_new cell_set rd_new rd_set off eq lt le ifB gv out eqF1 eqF2 eqF3 eqF4 eqF5 eqF6 eqF7 eqF8 ext20 ext21

theorem same_self (h : H) : same h h = true := by simp [same]

theorem SlR.ldAck {P : Program} {h : H} {e t : TypeId} {s : Nat} {v : Value} {L : List (List Value)} (a : SlR h e s v L) (ht : aggT P t = some true) (hs : size? P t = some s) {i : Int} (h0 : 0 ≤ i) {x : List Value} (hx : L[i.toNat]? = some x) (K : Value → Option R) :
    (AM.six v i s fun b o => (h.rd b o s).bind fun l => ck (freq b h.nx (same h h)) (K (.agg l.toArray))) = K (.agg x.toArray) := by
  obtain ⟨b, o, cs, own, hb, hr, q1, q2, q3, q4⟩ := a.six h0 hx
  have := ld_elem (P := P) (K := fun v => ck (freq b h.nx (same h h)) (K v)) ht hs hr q1 q2 q3
  rw [ld_agS ht hs] at this
  rw [q4, this]
  simp [freq, hb, same_self, ck]

/-- A step. -/
def stepC (l : List Sp) (x : Int) : List Value := [iv (spW l x).a, iv (spW l x).b, iv (spW l x).lo, iv (spW l x).hi, .bool (decide (x < 0))]

theorem app84 : okApp Try.prog 84 88 5 = true := by kernel_rfl
theorem kbld88 (a b c d : Int) (q : Bool) (K : Value → Option R) : bld Try.prog 88 [(0, .agg #[iv a, iv b, iv c, iv d]), (1, .bool q)] K = K (.agg #[.int .i64 a, .int .i64 b, .int .i64 c, .int .i64 d, .bool q]) := bld_some (by kernel_rfl)
theorem bls84 (a b c d : Int) (q : Bool) (h : H) : buildSlice Try.prog 84 1 [(0, .agg #[.int .i64 a, .int .i64 b, .int .i64 c, .int .i64 d, .bool q])] h = some (.slice (some ⟨h.nx, 0, none⟩) 1 1, h.new (.row [iv a, iv b, iv c, iv d, .bool q] 88 true)) := by kernel_rfl
theorem under107 : Try.prog.underlying 107 = some (.map 3 4) := by kernel_rfl
theorem under3k : Try.prog.underlying 3 = some (.int .i64) := by kernel_rfl
theorem zero4 : zero? Try.prog 4 = some (.bool false) := by kernel_rfl

theorem s93 (l : List Sp) (x : Int) (h : H) : rn 93 #[.agg (stepC l x).toArray] h = some (iv (endP (spW l x) (decide (x < 0))), h) := by
  refine p93 (k := 0) (h1 := h.new (.row (stepC l x) 88 true)) ?_ rfl (.new _ _)
  simp [f93, stepC, endP]
  by_cases hx : x < 0 <;> simp [hx]

theorem s94 (l : List Sp) (x : Int) (h : H) : rn 94 #[.agg (stepC l x).toArray] h = some (iv (begP (spW l x) (decide (x < 0))), h) := by
  refine p94 (k := 0) (h1 := h.new (.row (stepC l x) 88 true)) ?_ rfl (.new _ _)
  simp [f94, stepC, begP]
  by_cases hx : x < 0 <;> simp [hx]

theorem cycP_spec {l : List Sp} {c : List Int} : cycP l c = true ↔ 1 ≤ c.length ∧ c.length ≤ 12 ∧ (∀ i x, c[i]? = some x → okF l c i x = true) ∧ ∀ i, i < c.length → linkP l c i = true := by
  unfold cycP
  simp only [Bool.and_eq_true, decide_eq_true_iff, List.all_eq_true, List.mem_range]
  constructor
  · rintro ⟨⟨⟨h1, h2⟩, h3⟩, h4⟩
    refine ⟨h1, h2, fun i x hx => ?_, h4⟩
    have := h3 i (List.getElem?_eq_some_iff.1 hx).1
    simpa [List.getD, hx] using this
  · rintro ⟨h1, h2, h3, h4⟩
    refine ⟨⟨⟨h1, h2⟩, fun i hi => ?_⟩, h4⟩
    have := h3 i _ (List.getElem?_eq_getElem hi)
    simpa [List.getD, List.getElem?_eq_getElem hi] using this

set_option maxHeartbeats 1000000 in
/-- The program's cycle. -/
theorem s72 {h : H} {p e : Int} {sl cv : Value} {l : List Sp} {c : List Int} (hs : SlR h 67 4 sl (l.map Sp.cells)) (hc : SlR h 3 1 cv (cellsI c)) :
    ∃ h', Ext h h' ∧ ((cycP l c = false ∧ rn 72 #[.agg #[iv p, iv e, sl], cv] h = some (.tuple #[.slice none 0 0, .bool false], h')) ∨
      (cycP l c = true ∧ ∃ ov, rn 72 #[.agg #[iv p, iv e, sl], cv] h = some (.tuple #[ov, .bool true], h') ∧ SlR h' 88 5 ov (c.map (stepC l)))) := by
  have hlen := hc.lt62
  rw [List.length_map] at hlen
  have x1 := Ext.new h (.row [iv p, iv e, sl] 52 true)
  have hb1 : (h.new (.row [iv p, iv e, sl] 52 true)).blk h.nx = some (.row [iv p, iv e, sl] 52 true) := blk_new_self _ _
  have hs1 := hs.ext x1
  have hc1 := hc.ext x1
  have hn1 : h.nx < (h.new (.row [iv p, iv e, sl] 52 true)).nx := Nat.lt_succ_self _
  have hn : ∀ {T : Type} (K : Int → Option T), len sl K = K (l.length : Int) := fun K => by rw [hs.len]; simp
  have hcn : ∀ {T : Type} (K : Int → Option T), len cv K = K (c.length : Int) := fun K => by rw [hc.len]; simp
  have kbx : ∀ (K : H → Option (Value × H)), bx h 52 (.agg #[iv p, iv e, sl]) K = K (h.new (.row [iv p, iv e, sl] 52 true)) := fun K => rfl
  generalize h.new (.row [iv p, iv e, sl] 52 true) = h1 at *
  by_cases h12 : 1 ≤ c.length ∧ c.length ≤ 12
  · have x2 : Ext h1 (h1.new (.mp [] 0)) := .new _ _
    have hb2 : (h1.new (.mp [] 0)).blk h1.nx = some (.mp [] 0) := blk_new_self _ _
    have hn2 : (h1.new (.mp [] 0)).nx = h1.nx + 1 := rfl
    have kmm : ∀ (K : H → Option (Value × H)), mkm h1 K = K (h1.new (.mp [] 0)) := fun K => mkm_eq h1 K
    generalize h1.new (.mp [] 0) = h2 at *
    obtain ⟨ee, ws', g, hlp, hres⟩ := lp_rel (σ := Unit) (ρ := Unit) (F := f72_l1 rn 200010 cv h h1 c.length) (k := 200010) (l := c)
      (fun i x _ => if okF l c i x = true then .inl () else .inr ())
      (fun i _ ws g => Ext h1 g ∧ h2.nx ≤ g.nx ∧ (∃ es ck, g.blk h1.nx = some (.mp es ck) ∧ KvI ((c.take i).map fun x => (kI x, .bool true)) es) ∧
        ∃ ov, AqR h2.nx g 88 5 ov ((c.take i).map (stepC l)) ∧ ws = [.slice none 0 0, .bool false, ov, iv i])
      (fun _ e ws g => e = .ret ∧ Ext h1 g ∧ ∃ a b, ws = [.slice none 0 0, .bool false, a, b]) 0 (ws := [.slice none 0 0, .bool false, .slice none 0 0, iv 0]) (h := h2) (s0 := ())
      ⟨x2, Nat.le_refl _, ⟨[], 0, hb2, rfl⟩, _, .nil, rfl⟩ (by omega)
      (by
        rintro _ ws g ⟨_, _, _, ov, _, rfl⟩
        simp [f72_l1])
      (by
        rintro i x _ ws g hx ⟨xg, hng, ⟨es, ck, hmb, hkv⟩, ov, haq, rfl⟩
        have hi := (List.getElem?_eq_some_iff.1 hx).1
        have e1 := fun (K : Value → Option (Ex × List Value × H)) => (hc1.ext xg).c0 (i := (i : Int)) (by omega) (x := [iv x]) (by simp [hx]) (y := iv x) rfl K
        have hadd : add .i64 (i : Int) 1 = (i : Int) + 1 := add64 (by omega) (by omega)
        have hbg := (xg.blk _ hn1).trans hb1
        have hk' : sub .i64 (imax x (sub .i64 0 x)) 1 = kI x := rfl
        by_cases hin : kIn l x
        · have h0 := hin.1
          have h1' := hin.2
          have klok : ∀ (K : Value → Option (Ex × List Value × H)), lok Try.prog g 107 (.map (some h1.nx)) (.int .i64 (kI x)) false K = match look ((c.take i).map fun x => (kI x, Value.bool true)) (kI x) 0 with
            | some r => K r.2
            | none => K (.bool false) := fun K => lok_int0 under107 under3k zero4 hmb hkv
          cases hlk : look ((c.take i).map fun x => (kI x, Value.bool true)) (kI x) 0 with
          | some r =>
            obtain ⟨j, _, hj⟩ := look_some _ _ _ hlk
            rw [List.getElem?_map] at hj
            obtain ⟨y, hy, he⟩ := Option.map_eq_some_iff.1 hj
            have hr2 : r.2 = .bool true := (congrArg Prod.snd he).symm
            have hky : kI y = kI x := congrArg Prod.fst he
            have hF : okF l c i x = false := by
              have : ((c.take i).map kI).contains (kI x) = true := by
                rw [List.contains_iff_mem]
                exact List.mem_map.2 ⟨y, List.mem_of_getElem? hy, hky⟩
              unfold okF
              rw [this]; simp
            rw [hlk] at klok
            simp only [hr2] at klok
            rw [hF, if_neg (by simp)]
            refine ⟨.ret, [.slice none 0 0, .bool false, ov, iv i], g, ?_, by simp, rfl, xg, _, _, rfl⟩
            simp [f72_l1, hi, e1, hk', cell_of hbg, hn, show ¬ kI x < 0 by omega, show ¬ (l.length : Int) ≤ kI x by omega, klok]
          | none =>
            have hno := (look_none _ _).1 hlk
            have hF : okF l c i x = true := by
              have : ((c.take i).map kI).contains (kI x) = false := by
                rw [Bool.eq_false_iff]
                intro hcon
                rw [List.contains_iff_mem] at hcon
                obtain ⟨y, hy, he⟩ := List.mem_map.1 hcon
                exact hno (kI y, .bool true) (List.mem_map.2 ⟨y, hy, rfl⟩) he
              unfold okF
              rw [decide_eq_true hin, this]; rfl
            rw [hlk] at klok
            simp only at klok
            have kmup : ∀ (K : H → Option (Ex × List Value × H)), mup Try.prog g 107 (.map (some h1.nx)) (.int .i64 (kI x)) (.bool true) K = K (g.set h1.nx (.mp (es ++ [{ key := .int .i64 (kI x), val := .bool true, born := ck }]) (ck + 1))) := fun K => mup_new under107 under3k hmb hkv hlk
            have hkv2 : KvI ((c.take (i + 1)).map fun x => (kI x, Value.bool true)) (es ++ [{ key := .int .i64 (kI x), val := .bool true, born := ck }]) := by
              rw [List.take_add_one, hx, List.map_append]
              exact hkv.snoc _ _
            have x5 : Ext h1 (g.set h1.nx (.mp (es ++ [{ key := .int .i64 (kI x), val := .bool true, born := ck }]) (ck + 1))) := ⟨by show h1.nx ≤ g.nx; omega, fun b hb => (blk_set_ne _ _ _ (by omega)).trans (xg.blk b hb)⟩
            have hmb5 : (g.set h1.nx (.mp (es ++ [{ key := .int .i64 (kI x), val := .bool true, born := ck }]) (ck + 1))).blk h1.nx = some (.mp (es ++ [{ key := .int .i64 (kI x), val := .bool true, born := ck }]) (ck + 1)) := blk_set_self _ _ _
            have hng5 : (g.set h1.nx (.mp (es ++ [{ key := .int .i64 (kI x), val := .bool true, born := ck }]) (ck + 1))).nx = g.nx := rfl
            have haq5 : AqR h2.nx (g.set h1.nx (.mp (es ++ [{ key := .int .i64 (kI x), val := .bool true, born := ck }]) (ck + 1))) 88 5 ov ((c.take i).map (stepC l)) := haq.keep (Nat.le_refl _) fun b hb => blk_set_ne _ _ _ (by have := (haq.blkOf hb).1; omega)
            generalize g.set h1.nx (.mp (es ++ [{ key := .int .i64 (kI x), val := .bool true, born := ck }]) (ck + 1)) = g5 at *
            have hbg5 := (x5.blk _ hn1).trans hb1
            have hg := spW_get hin
            have e2 := fun (K : Value → Option (Ex × List Value × H)) => (hs1.ext x5).cA (i := kI x) h0 (x := (spW l x).cells) (by simp [hg]) K
            obtain ⟨ov', g8, e9, a9, n9, k9, b9, hb9, hb9'⟩ := haq5.push app84 app84 (bls84 (spW l x).a (spW l x).b (spW l x).lo (spW l x).hi (decide (x < 0))) rfl rfl (by simp; omega) (by omega)
            have hk : ∀ b, b < h2.nx → g8.blk b = g5.blk b := fun b hb => k9 b (by omega) (fun e => by have := (haq5.blkOf e).1; omega)
            have x8 : Ext h1 g8 := ⟨by omega, fun b hb => (hk b (by omega)).trans (x5.blk b hb)⟩
            rw [hF, if_pos rfl]
            refine ⟨.normal, [.slice none 0 0, .bool false, ov', iv ((i : Int) + 1)], g8, ?_, rfl, x8, by omega, ⟨_, _, (hk _ (by omega)).trans hmb5, hkv2⟩, ov', ?_, rfl⟩
            · simp [f72_l1, hi, e1, hk', cell_of hbg, cell_of hbg5, hn, show ¬ kI x < 0 by omega, show ¬ (l.length : Int) ≤ kI x by omega, klok, kmup, hadd]
              refine (e2 (fun v6 => bld Try.prog 88 [(0, v6), (1, .bool (decide (x < 0)))] _)).trans ?_
              simp [Sp.cells, kbld88, e9]
            · rw [List.take_add_one, hx, List.map_append]
              exact a9
        · have hF : okF l c i x = false := by unfold okF; rw [decide_eq_false hin]; rfl
          rw [hF, if_neg (by simp)]
          refine ⟨.ret, [.slice none 0 0, .bool false, ov, iv i], g, ?_, by simp, rfl, xg, _, _, rfl⟩
          have h3 : kI x < 0 ∨ (l.length : Int) ≤ kI x := by unfold kIn at hin; omega
          simp [f72_l1, hi, e1, hk', cell_of hbg, hn]
          grind)
    have hstart : ∀ (v : Value) (gg : H), (onE ee 0 (len (gv ws' 2) fun n8 => lp 200010 (f72_l2 rn 200010 ws' n8) [gv ws' 0, gv ws' 1, .int .i64 0] g fun e1 ws3 h13 =>
        onE e1 2 (some ((.tuple #[gv ws' 2, (.bool true)]), h13)) (onR e1 (some ((.tuple #[gv ws3 0, gv ws3 1]), h13)))) (onR ee (some ((.tuple #[gv ws' 0, gv ws' 1]), g)))) = some (v, gg) →
        f72 rn 200010 (.agg #[iv p, iv e, sl]) cv h = some (v, gg) := by
      intro v gg hv
      unfold f72
      rw [kbx]
      simp only [hcn, AM.lt, decide_eq_false (show ¬ (c.length : Int) < 1 by omega), decide_eq_false (show ¬ (12 : Int) < (c.length : Int) by omega), ifB_false, kmm]
      exact (lp_eq hlp).trans hv
    rcases itL_all (ok := fun i x => okF l c i x) (g := fun _ _ => ()) (s0 := ()) c 0 with ⟨⟨r, h1'⟩, j, x, hx, h2'⟩ | ⟨h1', h2'⟩
    · rw [h1'] at hres
      obtain ⟨_, rfl, xg, a, b, rfl⟩ := hres
      have hcy : cycP l c = false := by
        rw [Bool.eq_false_iff]
        intro hcy
        have := (cycP_spec.1 hcy).2.2.1 j x hx
        rw [Nat.zero_add] at h2'
        rw [this] at h2'
        cases h2'
      refine ⟨g, x1.trans xg, .inl ⟨hcy, x72 (k := 200010) (hstart _ _ ?_) rfl⟩⟩
      simp
    · rw [h1'] at hres
      obtain ⟨rfl, xg, hng, _, ov, haq, rfl⟩ := hres
      have hall : ∀ i x, c[i]? = some x → okF l c i x = true := fun i x hx => by have := h2' i x hx; rwa [Nat.zero_add] at this
      rw [List.take_length] at haq
      have hso := haq.slR
      have hon : ∀ {T : Type} (K : Int → Option T), len ov K = K (c.length : Int) := fun K => by rw [hso.len]; simp
      have hinA : ∀ (i : Nat) (x : Int), c[i]? = some x → kIn l x := fun i x hx => by
        have := hall i x hx
        unfold okF at this
        rw [Bool.and_eq_true] at this
        exact of_decide_eq_true this.1
      obtain ⟨g', xg', hl2⟩ := lp_list (σ := Unit) (ρ := Nat) (F := f72_l2 rn 200010 [.slice none 0 0, .bool false, ov, iv c.length] c.length) (k := 200010) (l := c) (h1 := g) (fun i (_ : Unit) => [.slice none 0 0, .bool false, iv i])
        (fun i x _ => if linkP l c i = true then .inl () else .inr i) (fun _ _ => True) (fun _ => .ret) (fun i => [.slice none 0 0, .bool false, iv i]) 2 (fun _ => [.slice none 0 0, .bool false, iv c.length]) (ws := [.slice none 0 0, .bool false, iv 0]) (s0 := ()) rfl trivial (by omega) (by simp)
        (fun _ h2 _ _ => by simp [f72_l2])
        (by
          intro i x _ g3 hx _ x3
          have hi := (List.getElem?_eq_some_iff.1 hx).1
          have hadd : add .i64 (i : Int) 1 = (i : Int) + 1 := add64 (by omega) (by omega)
          have hrem : rem .i64 ((i : Int) + 1) (c.length : Int) = (((i + 1) % c.length : Nat) : Int) := by
            rw [show (i : Int) + 1 = ((i + 1 : Nat) : Int) by omega, rem_nat]
          have hnext : (i + 1) % c.length < c.length := Nat.mod_lt _ (by omega)
          have hlk : linkP l c i = decide (endW l (c.getD i 0) = begW l (c.getD ((i + 1) % c.length) 0)) := rfl
          generalize (i + 1) % c.length = m1 at *
          have hgn : c[m1]? = some c[m1] := List.getElem?_eq_getElem hnext
          generalize hyy : c[m1] = y at *
          rw [show c.getD i 0 = x by simp [List.getD, hx], show c.getD m1 0 = y by simp [List.getD, hgn]] at hlk
          have hix := hinA i x hx
          have hiy := hinA m1 y hgn
          rw [show endW l x = endP (spW l x) (decide (x < 0)) from if_pos hix, show begW l y = begP (spW l y) (decide (y < 0)) from if_pos hiy] at hlk
          have x4 := (Ext.refl g3).fresh 88 [iv 0, iv 0, iv 0, iv 0, .bool false] (stepC l x)
          have hcb := blk_fresh g3 88 [iv 0, iv 0, iv 0, iv 0, .bool false] (stepC l x)
          have hso4 := hso.ext (x3.trans x4)
          refine ⟨fun _ _ => trivial, g3.fresh 88 [iv 0, iv 0, iv 0, iv 0, .bool false] (stepC l x), x4, ?_⟩
          unfold f72_l2
          rw [show AM.gv [.slice none 0 0, .bool false, iv i] 2 = iv i from rfl, asI_int, lt_t (by omega), ifB_true, asK_int, show AM.gv [.slice none 0 0, .bool false, ov, iv c.length] 2 = ov from rfl, (hso.ext x3).ldA ag88 sz88 (by omega) (x := stepC l x) (by simp [hx]),
            al_st (zs := [iv 0, iv 0, iv 0, iv 0, .bool false]) (xs := stepC l x) sz88 rfl rfl]
          generalize g3.fresh 88 [iv 0, iv 0, iv 0, iv 0, .bool false] (stepC l x) = h7 at *
          have hrd : h7.rd g3.nx 0 5 = some (stepC l x) := by rw [rd_of hcb]; rfl
          have c93 := fun (K : Value → H → Option (Ex × List Value × H)) => calls_eq (K := K) (xs := [.agg (stepC l x).toArray]) (s93 l x h7)
          have c94 := fun (K : Value → H → Option (Ex × List Value × H)) => calls_eq (K := K) (xs := [.agg (stepC l y).toArray]) (s94 l y h7)
          have hnz : ∀ (z : Option (Ex × List Value × H)), nz (c.length : Int) z = z := fun z => nz_ne (by omega) z
          simp only [nx_eq, d88, hrd, Option.bind_some]
          rw [c93, asI_int, asI_int, hon, hnz, hadd, hrem]
          refine (hso4.ldAck (K := fun v13 => calls rn h7 94 [v13] _) ag88 sz88 (by omega) (x := stepC l y) (by simp [hgn])).trans ?_
          show calls rn h7 94 [.agg (stepC l y).toArray] _ = _
          rw [c94, asI_int]
          cases hq : linkP l c i with
          | true =>
            rw [hlk] at hq
            simp [of_decide_eq_true hq, rnd, hadd]
          | false =>
            rw [hlk] at hq
            simp [of_decide_eq_false hq, rnd])
      rcases itL_all (ok := fun i (_ : Int) => linkP l c i) (g := fun i _ => i) (s0 := ()) c 0 with ⟨⟨r, h1''⟩, j, x, hx, h2''⟩ | ⟨h1'', h2''⟩
      · rw [h1''] at hl2
        rw [Nat.zero_add] at h2''
        have hcy : cycP l c = false := by
          rw [Bool.eq_false_iff]
          intro hcy
          have := (cycP_spec.1 hcy).2.2.2 j (List.getElem?_eq_some_iff.1 hx).1
          rw [this] at h2''
          cases h2''
        refine ⟨g', (x1.trans xg).trans xg', .inl ⟨hcy, x72 (k := 200010) (hstart _ _ ?_) rfl⟩⟩
        simp [hon, lp_eq hl2]
      · rw [h1''] at hl2
        have hcy : cycP l c = true := by
          rw [cycP_spec]
          refine ⟨by omega, by omega, hall, fun i hi => ?_⟩
          have := h2'' i _ (List.getElem?_eq_getElem hi)
          rwa [Nat.zero_add] at this
        refine ⟨g', (x1.trans xg).trans xg', .inr ⟨hcy, ov, x72 (k := 200010) (hstart _ _ ?_) (by obtain ⟨x, y, z, hz⟩ := haq.isSl; rw [hz]; rfl), hso.ext xg'⟩⟩
        simp [hon, lp_eq hl2.1]
  · have hcy : cycP l c = false := by
      rw [Bool.eq_false_iff]
      intro hcy
      have := cycP_spec.1 hcy
      omega
    refine ⟨h1, x1, .inl ⟨hcy, x72 (k := 0) ?_ rfl⟩⟩
    unfold f72
    rw [kbx]
    simp [hcn]
    grind

/-- What a step adds at least and at most. -/
def dLo (l : List Sp) (x : Int) : Int := if x < 0 then -(spW l x).hi else (spW l x).lo
def dHi (l : List Sp) (x : Int) : Int := if x < 0 then -(spW l x).lo else (spW l x).hi
def sumsP (l : List Sp) (c : List Int) : Int × Int := foldI (fun _ x (s : Int × Int) => (s.1 + dLo l x, s.2 + dHi l x)) c 0 (0, 0)

/-- How often round: at least, at most, and is there any? -/
def turnsP (p : Int) (l : List Sp) (c : List Int) : Int × Int × Int :=
  if (sumsP l c).2 / p < -(-(sumsP l c).1 / p) then (0, 0, 4) else (-(-(sumsP l c).1 / p), (sumsP l c).2 / p, 0)

theorem s73 {a p : Int} (hp : 0 < p) (ha : -1000000 < a ∧ a < 1000000) (hp2 : p < 1000) (h : H) : rn 73 #[iv a, iv p] h = some (iv (a / p), h) := by
  refine p73 (k := 0) (h1 := h) ?_ rfl (.refl _)
  have h1 := Int.emod_nonneg a (show p ≠ 0 by omega)
  have h2 := Int.emod_lt_of_pos a hp
  have h3 : (a.tmod p).natAbs < p.natAbs := by
    rw [Int.natAbs_tmod]; exact Nat.mod_lt _ (by omega)
  unfold f73
  rw [nz_ne (by omega), nz_ne (by omega), nz_ne (by omega)]
  show some (iv (quo .i64 (sub .i64 a ((add .i64 (a.tmod p) p).tmod p)) p), h) = _
  rw [add64 (by omega) (by omega), tmod_fix hp, sub64 (by omega) (by omega)]
  have h4 : a - a % p = p * (a / p) := by have := Int.mul_ediv_add_emod a p; omega
  unfold quo
  rw [h4, Int.mul_tdiv_cancel_left _ (by omega), wrap64]
  · have := Int.natAbs_ediv_le_natAbs a p
    omega
  · have := Int.natAbs_ediv_le_natAbs a p
    omega

theorem spW_ok {p e : Int} {l : List Sp} {x : Int} (hv : tabOk p e l = true) (hx : kIn l x) : 0 ≤ (spW l x).lo ∧ (spW l x).lo ≤ (spW l x).hi ∧ (spW l x).hi ≤ 22 := by
  have := List.mem_of_getElem? (spW_get hx)
  simp only [tabOk, Bool.and_eq_true, List.all_eq_true, decide_eq_true_iff] at hv
  have := hv.2 _ this
  simp only [spOk, Bool.and_eq_true, decide_eq_true_iff] at this
  omega

theorem d_ok {p e : Int} {l : List Sp} {x : Int} (hv : tabOk p e l = true) (hx : kIn l x) : -22 ≤ dLo l x ∧ dLo l x ≤ 22 ∧ -22 ≤ dHi l x ∧ dHi l x ≤ 22 := by
  have := spW_ok hv hx
  unfold dLo dHi
  split <;> omega

theorem cyc_in {l : List Sp} {c : List Int} (hc : cycP l c = true) {i : Nat} {x : Int} (hx : c[i]? = some x) : kIn l x := by
  have := (cycP_spec.1 hc).2.2.1 i x hx
  unfold okF at this
  rw [Bool.and_eq_true] at this
  exact of_decide_eq_true this.1

theorem tab_p {p e : Int} {l : List Sp} (hv : tabOk p e l = true) : 1 ≤ p ∧ p ≤ 12 := by
  simp only [tabOk, Bool.and_eq_true, decide_eq_true_iff] at hv; omega

/-- The sums are small. -/
theorem sums_ok {p e : Int} {l : List Sp} {c : List Int} (hv : tabOk p e l = true) (hc : cycP l c = true) : -264 ≤ (sumsP l c).1 ∧ (sumsP l c).1 ≤ 264 ∧ -264 ≤ (sumsP l c).2 ∧ (sumsP l c).2 ≤ 264 := by
  have key : ∀ (c' : List Int) (i : Nat) (s : Int × Int) (B : Int), (∀ x ∈ c', kIn l x) → (-B ≤ s.1 ∧ s.1 ≤ B ∧ -B ≤ s.2 ∧ s.2 ≤ B) →
      -(B + 22 * c'.length) ≤ (foldI (fun _ x (s : Int × Int) => (s.1 + dLo l x, s.2 + dHi l x)) c' i s).1 ∧ (foldI (fun _ x (s : Int × Int) => (s.1 + dLo l x, s.2 + dHi l x)) c' i s).1 ≤ B + 22 * c'.length ∧
      -(B + 22 * c'.length) ≤ (foldI (fun _ x (s : Int × Int) => (s.1 + dLo l x, s.2 + dHi l x)) c' i s).2 ∧ (foldI (fun _ x (s : Int × Int) => (s.1 + dLo l x, s.2 + dHi l x)) c' i s).2 ≤ B + 22 * c'.length := by
    intro c'
    induction c' with
    | nil => intro i s B _ hs; simpa [foldI] using hs
    | cons x c' ih =>
      intro i s B hin hs
      have hd := d_ok hv (hin x (by simp))
      have := ih (i + 1) (s.1 + dLo l x, s.2 + dHi l x) (B + 22) (fun y hy => hin y (by simp [hy])) (by simp only; omega)
      simp only [foldI, List.length_cons]
      omega
  have := key c 0 (0, 0) 0 (fun x hx => by
    obtain ⟨i, hi, rfl⟩ := List.getElem_of_mem hx
    exact cyc_in hc (List.getElem?_eq_getElem hi)) (by simp)
  have hl := (cycP_spec.1 hc).2.1
  unfold sumsP
  omega

/-- The program's answer. -/
theorem s36 {h : H} {p e : Int} {sl cv : Value} {l : List Sp} {c : List Int} (hs : SlR h 67 4 sl (l.map Sp.cells)) (hc : SlR h 3 1 cv (cellsI c)) :
    rn 36 #[.agg #[iv p, iv e, sl], cv] h = some (if tabOk p e l = true ∧ cycP l c = true then .tuple #[iv (turnsP p l c).1, iv (turnsP p l c).2.1, iv (turnsP p l c).2.2] else .tuple #[iv 0, iv 0, iv 2], h) := by
  have x1 := Ext.new h (.row [iv p, iv e, sl] 52 true)
  have hb1 : (h.new (.row [iv p, iv e, sl] 52 true)).blk h.nx = some (.row [iv p, iv e, sl] 52 true) := blk_new_self _ _
  have hn1 : h.nx < (h.new (.row [iv p, iv e, sl] 52 true)).nx := Nat.lt_succ_self _
  have hs1 := hs.ext x1
  have hc1 := hc.ext x1
  have kbx : ∀ (K : H → Option (Value × H)), bx h 52 (.agg #[iv p, iv e, sl]) K = K (h.new (.row [iv p, iv e, sl] 52 true)) := fun K => rfl
  generalize h.new (.row [iv p, iv e, sl] 52 true) = h1 at *
  have c71 := fun (K : Value → H → Option (Value × H)) => calls_eq (K := K) (xs := [.agg #[iv p, iv e, sl]]) (s71 (p := p) (e := e) hs1)
  by_cases hv : tabOk p e l = true
  · obtain ⟨h2, x2, hres⟩ := s72 (p := p) (e := e) hs1 hc1
    rcases hres with ⟨hcy, e72⟩ | ⟨hcy, ov, e72, hso⟩
    · have c72 := fun (K : Value → H → Option (Value × H)) => calls_eq (K := K) (xs := [.agg #[iv p, iv e, sl], cv]) e72
      rw [if_neg (by simp [hcy])]
      refine p36 (k := 0) (h1 := h2) ?_ rfl (x1.trans x2)
      unfold f36
      rw [kbx]
      simp [rd_of hb1, c71, hv, c72]
    · have c72 := fun (K : Value → H → Option (Value × H)) => calls_eq (K := K) (xs := [.agg #[iv p, iv e, sl], cv]) e72
      rw [if_pos ⟨hv, hcy⟩]
      obtain ⟨hl1, hl12, hall, _⟩ := cycP_spec.1 hcy
      obtain ⟨hp1, hp12⟩ := tab_p hv
      have hon : ∀ {T : Type} (K : Int → Option T), len ov K = K (c.length : Int) := fun K => by rw [hso.len]; simp
      obtain ⟨g, xg, hlp⟩ := lp_list (σ := Int × Int) (ρ := Empty) (F := f36_l1 rn 200010 ov c.length) (k := 200010) (l := c) (h1 := h2) (fun i st => [iv st.1, iv st.2, iv i])
        (fun _ x st => .inl (st.1 + dLo l x, st.2 + dHi l x)) (fun i st => -(22 * i : Int) ≤ st.1 ∧ st.1 ≤ 22 * i ∧ -(22 * i : Int) ≤ st.2 ∧ st.2 ≤ 22 * i) (fun _ => .ret) (fun _ => []) 0 (fun st => [iv st.1, iv st.2, iv c.length]) (ws := [iv 0, iv 0, iv 0]) (s0 := (0, 0)) rfl (by simp) (by omega) (by simp)
        (fun _ h2 _ _ => by simp [f36_l1])
        (by
          intro i x st g hx hI xg
          have hi := (List.getElem?_eq_some_iff.1 hx).1
          have hin := cyc_in hcy hx
          have hok := spW_ok hv hin
          have hd := d_ok hv hin
          have hadd : add .i64 (i : Int) 1 = (i : Int) + 1 := add64 (by omega) (by omega)
          refine ⟨fun s' hs' => by cases hs'; simp only; omega, g.fresh 88 [iv 0, iv 0, iv 0, iv 0, .bool false] (stepC l x), (Ext.refl g).fresh _ _ _, ?_⟩
          have hcb := blk_fresh g 88 [iv 0, iv 0, iv 0, iv 0, .bool false] (stepC l x)
          unfold f36_l1
          rw [show AM.gv [iv st.1, iv st.2, iv i] 2 = iv i from rfl, asI_int, lt_t (by omega), ifB_true, asK_int, (hso.ext xg).ldA ag88 sz88 (by omega) (x := stepC l x) (by simp [hx]),
            al_st (zs := [iv 0, iv 0, iv 0, iv 0, .bool false]) (xs := stepC l x) sz88 rfl rfl]
          generalize g.fresh 88 [iv 0, iv 0, iv 0, iv 0, .bool false] (stepC l x) = h7 at *
          simp only [stepC] at hcb
          by_cases hx0 : x < 0
          · have q1 : sub .i64 st.1 (spW l x).hi = st.1 + dLo l x := by unfold dLo; rw [if_pos hx0, sub64 (by omega) (by omega)]; omega
            have q2 : sub .i64 st.2 (spW l x).lo = st.2 + dHi l x := by unfold dHi; rw [if_pos hx0, sub64 (by omega) (by omega)]; omega
            simp [cell_of hcb, hx0, q1, q2, hadd, rnd]
          · have q1 : add .i64 st.1 (spW l x).lo = st.1 + dLo l x := by unfold dLo; rw [if_neg hx0, add64 (by omega) (by omega)]
            have q2 : add .i64 st.2 (spW l x).hi = st.2 + dHi l x := by unfold dHi; rw [if_neg hx0, add64 (by omega) (by omega)]
            simp [cell_of hcb, hx0, q1, q2, hadd, rnd])
      rw [itL_inl (fun _ x (st : Int × Int) => (st.1 + dLo l x, st.2 + dHi l x))] at hlp
      change lpGo (f36_l1 rn 200010 ov c.length) 200010 _ h2 = some (.exit 0, [iv (sumsP l c).1, iv (sumsP l c).2, iv c.length], g) ∧ _ at hlp
      obtain ⟨hlp, _⟩ := hlp
      obtain ⟨b1, b2, b3, b4⟩ := sums_ok hv hcy
      have hbg := (xg.blk _ (by have := x2.nx; omega)).trans ((x2.blk _ hn1).trans hb1)
      have q0 : sub .i64 0 (sumsP l c).1 = -(sumsP l c).1 := by rw [sub64 (by omega) (by omega)]; omega
      have c73a := fun (K : Value → H → Option (Value × H)) => calls_eq (K := K) (xs := [iv (-(sumsP l c).1), iv p]) (s73 (a := -(sumsP l c).1) (p := p) (by omega) (by omega) (by omega) g)
      have c73b := fun (K : Value → H → Option (Value × H)) => calls_eq (K := K) (xs := [iv (sumsP l c).2, iv p]) (s73 (a := (sumsP l c).2) (p := p) (by omega) (by omega) (by omega) g)
      have hab : (-(sumsP l c).1 / p).natAbs ≤ (-(sumsP l c).1).natAbs := Int.natAbs_ediv_le_natAbs _ _
      have q1 : sub .i64 0 (-(sumsP l c).1 / p) = -(-(sumsP l c).1 / p) := by rw [sub64 (by omega) (by omega)]; omega
      have hck : ∀ (z : Option (Value × H)), ck (freq h.nx g.nx (same g g)) z = z := fun z => by
        rw [same_self]
        have : h.nx < g.nx := by have := x2.nx; have := xg.nx; omega
        simp [freq, this, ck]
      have hF : f36 rn 200010 (.agg #[iv p, iv e, sl]) cv h = some (.tuple #[iv (turnsP p l c).1, iv (turnsP p l c).2.1, iv (turnsP p l c).2.2], g) := by
        unfold f36
        rw [kbx]
        simp only [nx_eq, d52, rd_of hb1, AM.off, Nat.zero_add, Nat.add_zero]
        rw [if_pos (by simp)]
        simp only [List.drop_zero, List.take_succ_cons, List.take_zero, Option.bind_some]
        rw [c71, hv, asB_bool]
        simp only [Bool.not_true, ifB_false, rd_of hb1]
        rw [if_pos (by simp)]
        simp only [List.drop_zero, List.take_succ_cons, List.take_zero, Option.bind_some]
        rw [c72]
        simp only [ext20, ext21, asB_bool, Bool.not_true, ifB_false, hon]
        rw [lp_eq hlp]
        unfold turnsP
        by_cases hlt : (sumsP l c).2 / p < -(-(sumsP l c).1 / p)
        · simp [cell_of hbg, q0, c73a, c73b, hck, q1, hlt]
        · simp [cell_of hbg, q0, c73a, c73b, hck, q1, hlt]
      have hpl : plainO (.tuple #[iv (turnsP p l c).1, iv (turnsP p l c).2.1, iv (turnsP p l c).2.2]) = true := rfl
      exact p36 hF hpl ((x1.trans x2).trans xg)
  · rw [if_neg (by simp [hv])]
    refine p36 (k := 0) (h1 := h1) ?_ rfl x1
    unfold f36
    rw [kbx]
    simp [rd_of hb1, c71, hv]

end Go.AM
