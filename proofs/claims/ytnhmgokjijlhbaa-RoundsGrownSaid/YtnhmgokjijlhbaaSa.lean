/- The round that a machine goes. -/
import Derived.Test.YtnhmgokjijlhbaaRz
import Derived.Test.YtnhmgokjijlhbaaAmMap
namespace Go.AM
open Go.Proofs Go.Lives

variable {R : Type}

attribute [local simp] nx_eq nx_new nx_set blk_new blk_set asI_int asK_int asB_bool asP_ptr al_eq bx_eq len_slice onE_exit onE_ret onR_ret Value.cells d3 d22 d31 d60 d69 d70 w70 w60 w3 w22 cell_new cell_set rd_new rd_set off eq lt le ifB gv out eqF1 eqF2 eqF3 eqF4 eqF5 eqF6 eqF7 eqF8 ext20 ext21

noncomputable def everB (ln : List Nat) (x : Int) : Bool := decide (x ≠ -1) && decide (lifeF ln x.toNat < 0)
noncomputable def pickR (ln : List Nat) (c : Nat) : Nat := (rowP ln c).findIdx (everB ln)

theorem pickR_ok {ln : List Nat} (hok : ∀ x ∈ ln, 1 ≤ x) {c : Nat} (hc : c < prodN ln) (hneg : lifeF ln c = -1) :
    (rowP ln c).any (everB ln) = true ∧ pickR ln c < ln.length ∧ ∃ t, t < prodN ln ∧ aftP ln c (pickR ln c) = (t : Int) ∧ lifeF ln t = -1 := by
  obtain ⟨h1, _⟩ := lifeF_is hok c hc
  obtain ⟨t, ht, h4⟩ := h1 hneg
  unfold tosP at ht
  obtain ⟨x, hx, rfl⟩ := List.mem_map.1 ht
  obtain ⟨h5, h6⟩ := List.mem_filter.1 hx
  have hg : everB ln x = true := by
    unfold everB
    rw [h6, h4]
    simp
  have hany : (rowP ln c).any (everB ln) = true := List.any_eq_true.2 ⟨x, h5, hg⟩
  have hlt : pickR ln c < (rowP ln c).length := List.findIdx_lt_length_of_exists ⟨x, h5, hg⟩
  have hlen : (rowP ln c).length = ln.length := by simp [rowP]
  have hget : ∀ j (hj : j < (rowP ln c).length), (rowP ln c)[j] = aftP ln c j := fun j hj => by simp [rowP]
  have hgp : everB ln (rowP ln c)[pickR ln c] = true := List.findIdx_getElem
  rw [hget _ hlt] at hgp
  refine ⟨hany, by omega, ?_⟩
  unfold everB at hgp
  simp only [Bool.and_eq_true, decide_eq_true_eq] at hgp
  have hr := (aft_ok hok c (pickR ln c)).resolve_left hgp.1
  obtain ⟨t, ht⟩ := Int.eq_ofNat_of_zero_le hr.1
  rw [ht] at hgp hr
  have htD : t < prodN ln := by omega
  have := lifeF_lt hok htD
  refine ⟨t, htD, ht, ?_⟩
  have h9 : lifeF ln t < 0 := by simpa using hgp.2
  omega

theorem s91 {g : H} {a b0 : Nat} {ln : List Nat} {v0 av v18 : Value} {bl : Nat} {vs : List Value} (m : MachAt g a b0 ln v0 av v18 bl vs) {x : Int} (hx : x = -1 ∨ (0 ≤ x ∧ x < (prodN ln : Nat))) :
    rn 91 #[iv x, pt a 0] g = some (.bool (everB ln x), g) := by
  refine p91 (k := 0) (h1 := g) ?_ rfl (.refl _)
  have e1 : ∀ (K : Value → Option (Value × H)), (g.cell a 0).bind K = K (pt b0 0) := fun K => by rw [cell_of m.ptr]; rfl
  have e2 : ∀ (K : Value → Option (Value × H)), (g.cell b0 2).bind K = K v18 := fun K => by rw [cell_of m.mb]; rfl
  rcases hx with rfl | ⟨h0, h1⟩
  · simp [f91, everB]
  · obtain ⟨t, rfl⟩ := Int.eq_ofNat_of_zero_le h0
    have ht : t < prodN ln := by omega
    have e5 := fun (K : Value → Option (Value × H)) => m.life ht K
    have hne : ¬ ((t : Int) = -1) := by omega
    simp [f91, hne, e1, nilp, e2, e5, everB]

theorem under3' : Try.prog.underlying 3 = some (.int .i64) := by kernel_rfl
theorem under105 : Try.prog.underlying 105 = some (.map 3 3) := by kernel_rfl

/-- The states and tasks so far. -/
def kvP (path : List Nat) : List (Int × Value) := (List.range path.length).map fun d => ((path[d]?.getD 0 : Nat), iv (d : Nat))

theorem kvP_snoc (path : List Nat) (c : Nat) : kvP (path ++ [c]) = kvP path ++ [((c : Int), iv (path.length : Nat))] := by
  unfold kvP
  rw [List.length_append, List.length_singleton, List.range_succ, List.map_append]
  congr 1
  · apply List.map_congr_left
    intro d hd
    have := List.mem_range.1 hd
    rw [List.getElem?_append_left this]
  · simp

theorem kvP_none {path : List Nat} {c : Nat} : look (kvP path) (c : Int) 0 = none ↔ c ∉ path := by
  rw [look_none]
  constructor
  · intro h hm
    obtain ⟨d, hd⟩ := List.getElem?_of_mem hm
    have hdl := (List.getElem?_eq_some_iff.1 hd).1
    refine h ((c : Int), iv (d : Nat)) (List.mem_map.2 ⟨d, List.mem_range.2 hdl, ?_⟩) rfl
    rw [hd]; rfl
  · intro h p hp e
    obtain ⟨d, hd, rfl⟩ := List.mem_map.1 hp
    have hdl := List.mem_range.1 hd
    simp only at e
    rw [List.getElem?_eq_getElem hdl, Option.getD_some] at e
    exact h (by
      have : path[d] = c := by omega
      rw [← this]; exact List.getElem_mem _)

theorem kvP_some {path : List Nat} {c : Nat} {r : Nat × Value} (h : look (kvP path) (c : Int) 0 = some r) : ∃ d : Nat, r.2 = iv d ∧ d < path.length ∧ path[d]? = some c := by
  obtain ⟨j, _, h2⟩ := look_some _ _ _ h
  unfold kvP at h2
  rw [List.getElem?_map] at h2
  have hj : j < path.length := by
    rcases Nat.lt_or_ge j path.length with h3 | h3
    · exact h3
    · rw [List.getElem?_eq_none (by simpa using h3)] at h2; cases h2
  rw [List.getElem?_range hj] at h2
  simp only [Option.map_some, Option.some.injEq, Prod.mk.injEq] at h2
  refine ⟨j, h2.2.symm, hj, ?_⟩
  rw [List.getElem?_eq_getElem hj] at h2 ⊢
  rw [Option.getD_some] at h2
  congr 1
  omega

/-- A round of the machine. -/
theorem s55 {h : H} {b0 : Nat} {ln : List Nat} {v0 : Value} (ht : TaskI (nI ln)) (hM : IsMach h b0 ln v0) (hv0 : SlR h 3 1 v0 (cellsI (nI ln))) :
    ∃ v' h', rn 55 #[pt b0 0] h = some (v', h') ∧ Ext h h' ∧ ((0 ≤ lifeF ln (beg ln) ∧ v' = .slice none 0 0) ∨
      (lifeF ln (beg ln) = -1 ∧ ∃ r c, c < prodN ln ∧ SlR h' 3 1 v' (cellsI (nI r)) ∧ r ≠ [] ∧ r.length ≤ prodN ln ∧ (∀ x ∈ r, x < ln.length) ∧ walk ln c r = some c)) := by
  obtain ⟨hok, h5, hl1, hD, hDpos⟩ := taskI_ok ht
  have hok1 : ∀ x ∈ ln, 1 ≤ x := fun x hx => (hok x hx).1
  obtain ⟨hbeg, hbs⟩ := beg_spec hok1
  obtain ⟨av, v18, bl, vs, hb, hbn, ia, hav, hrows⟩ := hM.get hok1
  -- the box of the machine
  have x1 : Ext h (h.new (.row [pt b0 0] 70 true)) := .new _ _
  have hb1 : (h.new (.row [pt b0 0] 70 true)).blk h.nx = some (.row [pt b0 0] 70 true) := blk_new_self _ _
  have hn1 : (h.new (.row [pt b0 0] 70 true)).nx = h.nx + 1 := rfl
  have kbx : ∀ (K : H → Option (Value × H)), bx h 70 (pt b0 0) K = K (h.new (.row [pt b0 0] 70 true)) := fun K => rfl
  generalize h.new (.row [pt b0 0] 70 true) = h1 at *
  have m1 : MachAt h1 h.nx b0 ln v0 av v18 bl vs := by
    refine ⟨by omega, by omega, hb1, (x1.blk _ hbn).trans hb, ia.ext x1, hav.ext x1, fun j hj => ?_⟩
    obtain ⟨w, hw, hs⟩ := hrows j hj
    exact ⟨w, hw, hs.ext x1⟩
  have e1 : ∀ (K : Value → Option (Value × H)), (h1.cell h.nx 0).bind K = K (pt b0 0) := fun K => by rw [cell_of m1.ptr]; rfl
  have e2 : ∀ (K : Value → Option (Value × H)), (h1.cell b0 0).bind K = K v0 := fun K => by rw [cell_of m1.mb]; rfl
  have e3 : ∀ (K : Value → Option (Value × H)), (h1.cell b0 2).bind K = K v18 := fun K => by rw [cell_of m1.mb]; rfl
  have c59 := fun (K : Value → H → Option (Value × H)) => calls_eq (K := K) (xs := [_]) (s59 (hv0.ext x1) ht)
  have e4 := fun (K : Value → Option (Value × H)) => m1.life hbeg K
  have hlt := lifeF_lt hok1 hbeg
  by_cases hpos : 0 ≤ lifeF ln (beg ln)
  · refine ⟨.slice none 0 0, h1, x55 (k := 200010) ?_ rfl, x1, .inl ⟨hpos, rfl⟩⟩
    unfold f55
    rw [kbx]
    simp [e1, nilp, e2, c59, e3, e4, hpos]
  · have hneg : lifeF ln (beg ln) = -1 := by omega
    have x3 : Ext h1 (h1.new (.mp [] 0)) := .new _ _
    have hb3 : (h1.new (.mp [] 0)).blk h1.nx = some (.mp [] 0) := blk_new_self _ _
    have hn3 : (h1.new (.mp [] 0)).nx = h1.nx + 1 := rfl
    have kmm : ∀ (K : H → Option (Value × H)), mkm h1 K = K (h1.new (.mp [] 0)) := fun K => mkm_eq h1 K
    generalize h1.new (.mp [] 0) = h3 at *
    obtain ⟨e, ws', g', hlp, rfl, v', w1, w2, rfl, xg, r, c, hcD, hsl, hrne, hrl, hrt, hwk⟩ := lpGo_inv (F := f55_l1 rn 200010 h h1)
      (fun m ws g => ∃ (path : List Nat) (c : Nat) (dv w0 : Value) (es : List MapEntry) (ck : Nat), path.Nodup ∧ (∀ x ∈ path, x < prodN ln) ∧ c < prodN ln ∧ lifeF ln c = -1 ∧ m = prodN ln - path.length ∧ ws = [w0, dv, iv (c : Nat)] ∧
        (∀ d p, path[d]? = some p → walk ln p ((path.drop d).map (pickR ln)) = some c) ∧ Ext h1 g ∧ h3.nx ≤ g.nx ∧ g.blk h1.nx = some (.mp es ck) ∧ KvI (kvP path) es ∧ AqR h3.nx g 3 1 dv (cellsI (nI (path.map (pickR ln)))) ∧ ∀ x ∈ path.map (pickR ln), x < ln.length)
      (fun e ws g => e = .ret ∧ ∃ v' w1 w2, ws = [v', w1, w2] ∧ Ext h1 g ∧ ∃ r c, c < prodN ln ∧ SlR g 3 1 v' (cellsI (nI r)) ∧ r ≠ [] ∧ r.length ≤ prodN ln ∧ (∀ x ∈ r, x < ln.length) ∧ walk ln c r = some c)
      (by
        rintro m ws g ⟨path, c, dv, w0, es, ck, hnd, hpD, hc, hcn, rfl, rfl, hwalk, xg, hng, hmb, hkv, haq, htl⟩
        have hplen : path.length ≤ prodN ln := by
          have := hnd.length_le_of_subset (l₂ := List.range (prodN ln)) fun x hx => List.mem_range.2 (hpD x hx)
          rwa [List.length_range] at this
        have klok : ∀ (K : Value → Option (Ex × List Value × H)), lok Try.prog g 105 (.map (some h1.nx)) (iv (c : Nat)) true K = match look (kvP path) (c : Int) 0 with
            | some r => K (.tuple #[r.2, .bool true])
            | none => K (.tuple #[iv 0, .bool false]) := fun K => lok_int under105 under3' zero3 hmb hkv
        have hdl : ∀ (K : Int → Option (Ex × List Value × H)), len dv K = K (path.length : Int) := fun K => by rw [haq.slR.len]; simp
        cases hlk : look (kvP path) (c : Int) 0 with
        | some r =>
          obtain ⟨d, hr2, hd, hpd⟩ := kvP_some hlk
          rw [hlk] at klok
          simp only [hr2] at klok
          obtain ⟨v', hv', ksl⟩ := haq.slR.drop under22 sz3 (i := d) (by simp; omega)
          refine ⟨.ret, [v', dv, iv (c : Nat)], g, ?_, .inr ⟨by simp, rfl, v', dv, iv (c : Nat), rfl, xg, (path.drop d).map (pickR ln), c, hc, ?_, ?_, by simp; omega, fun x hx => ?_, hwalk d c hpd⟩⟩
          · have ksl' : ∀ (K : Value → Option (Ex × List Value × H)), sli Try.prog g 22 dv (some (iv (d : Nat))) none none K = K v' := fun K => ksl K
            simp [f55_l1, klok, ksl']
          · rw [← List.map_drop, ← List.map_drop, ← List.map_drop] at hv'
            exact hv'
          · intro e
            have := congrArg List.length e
            simp at this
            omega
          · obtain ⟨y, hy, rfl⟩ := List.mem_map.1 hx
            exact htl _ (List.mem_map.2 ⟨y, List.mem_of_mem_drop hy, rfl⟩)
        | none =>
          rw [hlk] at klok
          simp only at klok
          have hcp : c ∉ path := kvP_none.1 hlk
          have hplt : path.length + 1 ≤ prodN ln := by
            have := (List.nodup_cons.2 ⟨hcp, hnd⟩).length_le_of_subset (l₂ := List.range (prodN ln)) fun x hx => by
              rcases List.mem_cons.1 hx with rfl | hx
              · exact List.mem_range.2 hc
              · exact List.mem_range.2 (hpD x hx)
            rw [List.length_range] at this
            simpa using this
          obtain ⟨hany, hpl, t, htD, haft, hlt⟩ := pickR_ok hok1 hc hcn
          have kmup : ∀ (K : H → Option (Ex × List Value × H)), mup Try.prog g 105 (.map (some h1.nx)) (iv (c : Nat)) (iv (path.length : Nat)) K = K (g.set h1.nx (.mp (es ++ [{ key := iv (c : Nat), val := iv (path.length : Nat), born := ck }]) (ck + 1))) := fun K => mup_new under105 under3' hmb hkv hlk
          have hkv2 : KvI (kvP (path ++ [c])) (es ++ [{ key := iv (c : Nat), val := iv (path.length : Nat), born := ck }]) := by
            rw [kvP_snoc]; exact hkv.snoc _ _
          have x5 : Ext h1 (g.set h1.nx (.mp (es ++ [{ key := iv (c : Nat), val := iv (path.length : Nat), born := ck }]) (ck + 1))) := ⟨by show h1.nx ≤ g.nx; omega, fun b hb => (blk_set_ne _ _ _ (by omega)).trans (xg.blk b hb)⟩
          have hmb5 : (g.set h1.nx (.mp (es ++ [{ key := iv (c : Nat), val := iv (path.length : Nat), born := ck }]) (ck + 1))).blk h1.nx = some (.mp (es ++ [{ key := iv (c : Nat), val := iv (path.length : Nat), born := ck }]) (ck + 1)) := blk_set_self _ _ _
          have hng5 : (g.set h1.nx (.mp (es ++ [{ key := iv (c : Nat), val := iv (path.length : Nat), born := ck }]) (ck + 1))).nx = g.nx := rfl
          have haq5 : AqR h3.nx (g.set h1.nx (.mp (es ++ [{ key := iv (c : Nat), val := iv (path.length : Nat), born := ck }]) (ck + 1))) 3 1 dv (cellsI (nI (path.map (pickR ln)))) := haq.keep (Nat.le_refl _) fun b hb => blk_set_ne _ _ _ (by have := (haq.blkOf hb).1; omega)
          generalize g.set h1.nx (.mp (es ++ [{ key := iv (c : Nat), val := iv (path.length : Nat), born := ck }]) (ck + 1)) = g5 at *
          have m5 := m1.ext x5
          have q1 : ∀ (K : Value → Option (Ex × List Value × H)), (g5.cell h.nx 0).bind K = K (pt b0 0) := fun K => by rw [cell_of m5.ptr]; rfl
          have q2 : ∀ (K : Value → Option (Ex × List Value × H)), (g5.cell b0 1).bind K = K av := fun K => by rw [cell_of m5.mb]; rfl
          obtain ⟨w, q3, hw⟩ := m5.row hc
          have q4 := fun (K : Value → H → Option (Ex × List Value × H)) => calls_eq (K := K) (xs := [w, .func (.func 91) #[] #[pt h.nx 0]])
            (s60 (fn := 91) (xs := []) (ys := [pt h.nx 0]) (p := everB ln) hw rfl (fun x hx => s91 m5 (row_ok hok1 c x hx)))
          have hidx : idxP (everB ln) (rowP ln c) = (pickR ln c : Nat) := by unfold idxP pickR; rw [if_pos hany]
          rw [hidx] at q4
          obtain ⟨dv', g8, e9, a9, n9, k9, b9, hb9, hb9'⟩ := haq5.push app22 app22 (bls22 (pickR ln c : Int)) rfl rfl (by simp; omega) (by omega)
          have hk : ∀ b, b < h3.nx → g8.blk b = g5.blk b := fun b hb => k9 b (by omega) (fun e => by have := (haq5.blkOf e).1; omega)
          have x8 : Ext h1 g8 := ⟨by omega, fun b hb => (hk b (by omega)).trans (x5.blk b hb)⟩
          have m8 := m1.ext x8
          have r1 : ∀ (K : Value → Option (Ex × List Value × H)), (g8.cell h.nx 0).bind K = K (pt b0 0) := fun K => by rw [cell_of m8.ptr]; rfl
          have r2 : ∀ (K : Value → Option (Ex × List Value × H)), (g8.cell b0 1).bind K = K av := fun K => by rw [cell_of m8.mb]; rfl
          obtain ⟨w8, r3, hw8⟩ := m8.row hc
          have hrow : (rowP ln c)[pickR ln c]? = some (t : Int) := by
            unfold rowP
            rw [List.getElem?_map, List.getElem?_range hpl, ← haft]; rfl
          have r4 : ∀ (K : Value → Option (Ex × List Value × H)), (six w8 (pickR ln c : Int) 1 fun b o => (g8.cell b o).bind K) = K (iv (t : Int)) := fun K => hw8.c0 (by omega) (x := [iv (t : Int)]) (by rw [Int.toNat_natCast, List.getElem?_map, hrow]; rfl) rfl K
          have hcons : cellsI (nI ((path ++ [c]).map (pickR ln))) = cellsI (nI (path.map (pickR ln))) ++ [[iv (pickR ln c : Int)]] := by simp
          rw [← hcons] at a9
          refine ⟨.normal, [w0, dv', iv (t : Nat)], g8, ?_, .inl ⟨rfl, prodN ln - (path ++ [c]).length, by simp; omega, path ++ [c], t, dv', w0, es ++ [{ key := iv (c : Nat), val := iv (path.length : Nat), born := ck }], ck + 1, ?_, fun x hx => ?_, htD, hlt, rfl, rfl, fun d p hp => ?_, x8, by omega, (hk _ (by omega)).trans hmb5, hkv2, a9, fun x hx => ?_⟩⟩
          · have ee : ∀ (K : Value → H → Option (Ex × List Value × H)), (bls Try.prog g5 22 1 [(0, iv (pickR ln c : Int))] fun y h2 => app Try.prog h2 22 22 dv y K) = K dv' g8 := fun K => e9 K
            simp [f55_l1, klok, hdl, kmup, q1, nilp, q2, q3, q4, ee, r1, r2, r3, r4]
          · rw [List.nodup_append]
            exact ⟨hnd, by simp, fun x hx y hy => by simp at hy; subst hy; exact fun e => hcp (e ▸ hx)⟩
          · rcases List.mem_append.1 hx with h | h
            · exact hpD x h
            · simp at h; subst h; exact hc
          · rcases Nat.lt_or_ge d path.length with hd | hd
            · rw [List.getElem?_append_left hd] at hp
              rw [List.drop_append_of_le_length (by omega), List.map_append, walk_append, hwalk d p hp]
              simp [walk, haft]
            · have hdp : d = path.length := by
                have := (List.getElem?_eq_some_iff.1 hp).1
                simp at this
                omega
              subst hdp
              rw [List.getElem?_append_right (Nat.le_refl _), Nat.sub_self] at hp
              simp at hp
              subst hp
              rw [List.drop_append_of_le_length (Nat.le_refl _), List.drop_length]
              simp [walk, haft]
          · rw [List.map_append, List.mem_append] at hx
            rcases hx with h | h
            · exact htl x h
            · simp at h; subst h; exact hpl)
      (prodN ln) 200010 (by omega) ⟨[], beg ln, .slice none 0 0, .slice none 0 0, [], 0, by simp, by simp, hbeg, hneg, by simp, rfl, by simp, x3, Nat.le_refl _, hb3, rfl, .nil, by simp⟩
    refine ⟨v', g', x55 (k := 200010) ?_ hsl.notR, x1.trans xg, .inr ⟨hneg, r, c, hcD, hsl, hrne, hrl, hrt, hwk⟩⟩
    unfold f55
    rw [kbx]
    simp only [nx_eq, d70, e1, nilp, asP_ptr, d69, e2, c59, d22, AM.off, Nat.zero_add, e3, e4, d3, asI_int, AM.le, decide_eq_false hpos, ifB_false, kmm]
    refine (lp_eq hlp).trans ?_
    rfl

end Go.AM
