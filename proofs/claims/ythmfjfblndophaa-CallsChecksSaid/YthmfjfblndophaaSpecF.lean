/- Check: a way in time. -/
import Derived.Test.YthmfjfblndophaaSpecE
namespace Go.AM
open Go.Proofs

variable {k : Nat}

/-- The other person of a call. -/
def Cl.oth (c : Cl) (p : Int) : Int := c.a + c.b - p

/-- Is the rest a way in time? -/
def goP (l : List Cl) (t : Int) : List Int → Int → Int → Int → Bool
  | [], at_, _, _ => at_ == t
  | i :: w, at_, tm, seen =>
    if i < 0 then false
    else if (l.length : Int) ≤ i then false
    else if at_ = t then false
    else match l[i.toNat]? with
      | none => false
      | some c =>
        if c.has at_ = false then false
        else if c.t ≤ tm then false
        else if AM.and .i64 (shr .i64 seen (c.oth at_)) 1 = 1 then false
        else goP l t w (c.oth at_) c.t (AM.or .i64 seen (shl .i64 1 (c.oth at_)))

theorem okC_iff {n : Int} {c : Cl} : okC n c = true ↔ (0 ≤ c.a ∧ c.a < n) ∧ (0 ≤ c.b ∧ c.b < n) ∧ c.a ≠ c.b ∧ 1 ≤ c.t ∧ c.t ≤ 30 := by
  simp only [okC, Bool.and_eq_true, decide_eq_true_eq, Bool.not_eq_true', beq_eq_false_iff_ne, decide_eq_false_iff_not, Int.not_lt, ne_eq]
  constructor
  · rintro ⟨⟨⟨⟨h1, h2⟩, h3⟩, h4⟩, h5⟩; exact ⟨h1, h2, h3, h4, h5⟩
  · rintro ⟨h1, h2, h3, h4, h5⟩; exact ⟨⟨⟨⟨h1, h2⟩, h3⟩, h4⟩, h5⟩

theorem validP_ok {n : Int} {l : List Cl} (h : validP n l = true) : 1 ≤ n ∧ n ≤ 7 ∧ l.length ≤ 24 ∧ ∀ (i : Nat) (c : Cl), l[i]? = some c → okC n c = true := by
  simp only [validP, Bool.and_eq_true, Bool.not_eq_true', decide_eq_false_iff_not, Int.not_lt, List.all_eq_true, List.mem_range] at h
  obtain ⟨⟨⟨h1, h2⟩, h3⟩, h4⟩ := h
  refine ⟨h1, h2, by omega, fun i c hc => ?_⟩
  have hi : i < l.length := (List.getElem?_eq_some_iff.1 hc).1
  have := h4 i hi
  unfold rowOk at this
  rw [hc] at this
  simp only [Bool.and_eq_true] at this
  exact this.1.1

theorem oth_ok {n : Int} {c : Cl} {p : Int} (h : okC n c = true) (hp : c.has p = true) : 0 ≤ c.oth p ∧ c.oth p < n ∧ c.oth p ≠ p := by
  obtain ⟨h1, h2, h3, _⟩ := okC_iff.1 h
  simp only [Cl.has, Bool.or_eq_true, beq_iff_eq] at hp
  unfold Cl.oth
  rcases hp with hp | hp <;> omega

theorem oth_calc {n : Int} {c : Cl} {p : Int} (hn : n ≤ 1000) (h : okC n c = true) (hp : c.has p = true) : sub .i64 (add .i64 c.a c.b) p = c.oth p := by
  obtain ⟨h1, h2, h3, _⟩ := okC_iff.1 h
  have := oth_ok h hp
  unfold Cl.oth at this ⊢
  rw [add64 (by omega) (by omega), sub64 (by omega) (by omega)]

theorem f27_l1_spec {n t : Int} {sl v1 : Value} {l : List Cl} {way : List Int} {h h4 : H} {m : Nat} {s : Int} (hv : validP n l = true) (hs0 : 0 ≤ s ∧ s < n)
    (hs : SlR h4 56 3 sl (l.map Cl.cells)) (hw : SlR h4 3 1 v1 (way.map cellI)) (hk : way.length < k) (hn : h.nx < h4.nx) (hb : h4.blk h.nx = some (.row [iv n, sl] 31 true)) :
    ∃ e ws' h', lpGo (f27_l1 (call Try.prog E0 (m + 1)) k t v1 h way.length) k [.bool false, iv 0, iv s, iv 0, iv (shl .i64 1 s), iv 0] h4 = some (e, ws', h') ∧ Ext h4 h' ∧
      ((e = .exit 0 ∧ ∃ a : Int, gv ws' 2 = iv a ∧ (a == t) = goP l t way s 0 (shl .i64 1 s)) ∨ (e = .ret ∧ gv ws' 0 = .bool false ∧ gv ws' 1 = iv 0 ∧ goP l t way s 0 (shl .i64 1 s) = false)) := by
  obtain ⟨hn1, hn7, hl24, hok⟩ := validP_ok hv
  have hlen := hw.lt62
  rw [List.length_map] at hlen
  obtain ⟨e, ws', h', hl, hx, hq⟩ := lpGo_inv (F := f27_l1 (call Try.prog E0 (m + 1)) k t v1 h way.length)
    (fun d ws g => ∃ (x y : Value) (p tm seen : Int) (i : Nat), ws = [x, y, iv p, iv tm, iv seen, iv i] ∧ i + d = way.length ∧ Ext h4 g ∧ (0 ≤ p ∧ p < n) ∧
      goP l t (way.drop i) p tm seen = goP l t way s 0 (shl .i64 1 s))
    (fun e ws g => Ext h4 g ∧ ((e = .exit 0 ∧ ∃ a : Int, gv ws 2 = iv a ∧ (a == t) = goP l t way s 0 (shl .i64 1 s)) ∨ (e = .ret ∧ gv ws 0 = .bool false ∧ gv ws 1 = iv 0 ∧ goP l t way s 0 (shl .i64 1 s) = false)))
    (by
      rintro d ws g ⟨x, y, p, tm, seen, i, rfl, hd, hx, hp, hgo⟩
      unfold f27_l1
      rw [show gv [x, y, iv p, iv tm, iv seen, iv i] 5 = iv i from rfl, show gv [x, y, iv p, iv tm, iv seen, iv i] 2 = iv p from rfl, show gv [x, y, iv p, iv tm, iv seen, iv i] 3 = iv tm from rfl,
        show gv [x, y, iv p, iv tm, iv seen, iv i] 4 = iv seen from rfl, show gv [x, y, iv p, iv tm, iv seen, iv i] 0 = x from rfl, show gv [x, y, iv p, iv tm, iv seen, iv i] 1 = y from rfl, asI_int, ifB_lt]
      split
      · rename_i hlt
        have hi : i < way.length := by omega
        obtain ⟨b, o, cs, own, hb', hr, q1, q2, q3, q4⟩ := (hw.ext hx).six (i := (i : Int)) (by omega) (x := cellI way[i]) (by simp [hi])
        rw [asK_int, q4, ld3 hr (show cs[o]? = some (iv way[i]) from q3 0 (by omega)), asI_int]
        rw [List.drop_eq_getElem_cons hi] at hgo
        generalize way[i] = j at *
        have bad : goP l t (j :: way.drop (i + 1)) p tm seen = false → ∀ h5, Ext h4 h5 → ∃ e ws' h', out .ret [(.bool false), (.int .i64 0), iv p, iv tm, iv seen, iv i] h5 = some (e, ws', h') ∧
            ((e = .normal ∧ ∃ d', d' < d ∧ ∃ (x y : Value) (p tm seen : Int) (i : Nat), ws' = [x, y, iv p, iv tm, iv seen, iv i] ∧ i + d' = way.length ∧ Ext h4 h' ∧ (0 ≤ p ∧ p < n) ∧
                goP l t (way.drop i) p tm seen = goP l t way s 0 (shl .i64 1 s)) ∨
             (e ≠ .normal ∧ Ext h4 h' ∧ ((e = .exit 0 ∧ ∃ a : Int, gv ws' 2 = iv a ∧ (a == t) = goP l t way s 0 (shl .i64 1 s)) ∨ (e = .ret ∧ gv ws' 0 = .bool false ∧ gv ws' 1 = iv 0 ∧ goP l t way s 0 (shl .i64 1 s) = false)))) := by
          intro hbad h5 x5
          exact ⟨.ret, _, _, rfl, .inr ⟨by simp, x5, .inr ⟨rfl, rfl, rfl, hgo.symm.trans hbad⟩⟩⟩
        rw [ifB_lt]
        split
        · rename_i e1; exact bad (by simp only [goP]; rw [if_pos e1]) _ hx
        rename_i e1
        have hbx : ∀ {h'}, Ext h4 h' → h'.blk h.nx = some (.row [iv n, sl] 31 true) := fun e => (e.blk _ hn).trans hb
        rw [nx_eq, ld29 (hbx hx) (show [iv n, sl][off 0 1]? = some sl from rfl), hs.len, List.length_map, ifB_le]
        split
        · rename_i e2; exact bad (by simp only [goP]; rw [if_neg e1, if_pos e2]) _ hx
        rename_i e2
        rw [asI_int, ifB_eq]
        split
        · rename_i e3; exact bad (by simp only [goP]; rw [if_neg e1, if_neg e2, if_pos e3]) _ hx
        rename_i e3
        have hj : j.toNat < l.length := by omega
        obtain ⟨b2, o2, cs2, own2, hb2, hr2, r1, r2, r3, r4⟩ := (hs.ext hx).six (i := j) (by omega) (x := (l[j.toNat]).cells) (by simp [hj])
        rw [ld29 (hbx hx) (show [iv n, sl][off 0 1]? = some sl from rfl), r4, ld_elem ag56 sz56 hr2 r1 r2 r3]
        have hlj : l[j.toNat]? = some l[j.toNat] := List.getElem?_eq_getElem hj
        have hcok := hok _ _ hlj
        generalize l[j.toNat] = c at *
        rw [al_st (zs := [iv 0, iv 0, iv 0]) (xs := c.cells) sz56 rfl rfl]
        have x7 : Ext h4 (g.fresh 56 [iv 0, iv 0, iv 0] c.cells) := hx.fresh _ _ _
        have hcb := blk_fresh g 56 [iv 0, iv 0, iv 0] c.cells
        have hn7 : g.nx < (g.fresh 56 [iv 0, iv 0, iv 0] c.cells).nx := Nat.lt_succ_self _
        generalize g.fresh 56 [iv 0, iv 0, iv 0] c.cells = h7 at *
        rw [nx_eq, ldA56 hcb rfl, calls_eq (c73 (f73_eq c p h7)), asB_bool, ifB_not]
        have y8 := Ext.new h7 (.row c.cells 56 true)
        generalize h7.new (.row c.cells 56 true) = h8 at *
        have hcb8 := (y8.blk _ hn7).trans hcb
        have hn8 := Nat.lt_of_lt_of_le hn7 y8.nx
        cases hhas : c.has p with
        | false =>
          rw [ifB_false]
          exact bad (by simp only [goP]; rw [if_neg e1, if_neg e2, if_neg e3, hlj]; simp [hhas]) _ (x7.trans y8)
        | true =>
        rw [ifB_true, ld3 hcb8 (show c.cells[off 0 2]? = some (iv c.t) from rfl), asI_int, asI_int, ifB_le]
        split
        · rename_i e4; exact bad (by simp only [goP]; rw [if_neg e1, if_neg e2, if_neg e3, hlj]; simp [hhas, e4]) _ (x7.trans y8)
        rename_i e4
        rw [ldA56 hcb8 rfl, calls_eq (c74 (f74_eq c p h8)), asI_int, asI_int, oth_calc (by omega) hcok hhas]
        have hoth := oth_ok hcok hhas
        have y9 := Ext.new h8 (.row c.cells 56 true)
        generalize h8.new (.row c.cells 56 true) = h9 at *
        have hcb9 := (y9.blk _ hn8).trans hcb8
        have hn9 := Nat.lt_of_lt_of_le hn8 y9.nx
        have x9 := (x7.trans y8).trans y9
        rw [nn_ge hoth.1, ifB_eq]
        split
        · rename_i e5; exact bad (by simp only [goP]; rw [if_neg e1, if_neg e2, if_neg e3, hlj]; simp [hhas, e4, e5]) _ x9
        rename_i e5
        rw [ldA56 hcb9 rfl, calls_eq (c74 (f74_eq c p h9)), asI_int, oth_calc (by omega) hcok hhas]
        have y10 := Ext.new h9 (.row c.cells 56 true)
        have hck : freq g.nx (nx h9) (same (h9.new (.row c.cells 56 true)) h9) = true := by
          simp [freq, same, wr_new, nx_eq, hn9]
        rw [ld3 ((y10.blk _ hn9).trans hcb9) (show c.cells[off 0 2]? = some (iv c.t) from rfl), asI_int, hck, ck_true, nn_ge hoth.1, asI_int, asI_int, add64 (by omega) (by omega)]
        refine ⟨.normal, _, _, rfl, .inl ⟨rfl, d - 1, by omega, x, y, c.oth p, c.t, _, i + 1, rfl, by omega, x9.trans y10, ⟨hoth.1, hoth.2.1⟩, ?_⟩⟩
        rw [← hgo]
        conv => rhs; simp only [goP]
        rw [if_neg e1, if_neg e2, if_neg e3, hlj]
        simp [hhas, e4, e5]
      · rename_i hlt
        refine ⟨.exit 0, _, _, rfl, .inr ⟨by simp, hx, .inl ⟨rfl, p, rfl, ?_⟩⟩⟩
        rw [← hgo, List.drop_of_length_le (by omega)]
        rfl)
    way.length k (ws := [.bool false, iv 0, iv s, iv 0, iv (shl .i64 1 s), iv 0]) (h := h4) hk ⟨_, _, _, _, _, 0, rfl, by omega, .refl _, hs0, by simp⟩
  exact ⟨e, ws', h', hl, hx, hq⟩

end Go.AM
