/- Parts of the proof, put together: what the functions of the program answer, and plain laws. -/
import Derived.Test.YtphchobmencipaaDoorAmRun
import Derived.Test.YtphchobmencipaaDoorRows
import Derived.LaidMore
import Derived.Stop.Joined
import Derived.ProofKit
import Derived.OpenShut
import Derived.Test.YtphchobmencipaaDoorPk2

section

/- Reduce: a town is reduced step by step. -/
namespace Go.AM
open Go.Proofs
variable {k : Nat} {R : Type}
attribute [local simp] eq lt le
/-- A town with a node less. -/
def doG (G : List Nat) (left v : Nat) : List Nat := if (nearL G left v).length = 2 then joinL G ((nearL G left v).getD 0 0) ((nearL G left v).getD 1 0) else G

theorem joinL_len (G : List Nat) (a b : Nat) : (joinL G a b).length = G.length := by simp [joinL]

theorem nb_lt_of {G : List Nat} {m i : Nat} (h : ∀ x ∈ G, x < 2 ^ m) : nb G i < 2 ^ m := by
  unfold nb
  rw [List.getD_eq_getElem?_getD]
  cases hc : G[i]? with
  | none => exact Nat.two_pow_pos _
  | some x => exact h x (List.mem_of_getElem? hc)

theorem joinL_lt {G : List Nat} {m a b : Nat} (h : ∀ x ∈ G, x < 2 ^ m) (ha : a < m) (hb : b < m) : ∀ x ∈ joinL G a b, x < 2 ^ m := by
  have h1 : ∀ x ∈ G.set a (nb G a ||| 2 ^ b), x < 2 ^ m := fun x hx => by
    rcases List.mem_or_eq_of_mem_set hx with h' | h'
    · exact h x h'
    · rw [h']; exact Nat.or_lt_two_pow (nb_lt_of h) (Nat.pow_lt_pow_right (by omega) hb)
  intro x hx
  unfold joinL at hx
  rcases List.mem_or_eq_of_mem_set hx with h' | h'
  · exact h1 x h'
  · rw [h']; exact Nat.or_lt_two_pow (nb_lt_of h1) (Nat.pow_lt_pow_right (by omega) ha)

theorem near_mem {G : List Nat} {left v x : Nat} (hleft : left < 1024) : x ∈ nearL G left v ↔ adj G v x = true ∧ left.testBit x = true := by
  unfold nearL
  have h : nb G v &&& left < 1024 := Nat.lt_of_le_of_lt Nat.and_le_right hleft
  rw [mem_elts h, Nat.testBit_and, Bool.and_eq_true]
  rfl

theorem doG_ok {G : List Nat} {m left v : Nat} (hl : G.length = m) (h : ∀ x ∈ G, x < 2 ^ m) (hleft : left < 2 ^ m) (hm : m ≤ 10) : (doG G left v).length = m ∧ ∀ x ∈ doG G left v, x < 2 ^ m := by
  unfold doG
  split
  · rename_i h2
    have hleft' : left < 1024 := Nat.lt_of_lt_of_le hleft (Nat.pow_le_pow_right (n := 2) (by omega) hm)
    have mem : ∀ i, i < 2 → (nearL G left v).getD i 0 < m := fun i hi => bit_lt hleft ((near_mem hleft').1 (List.mem_of_getElem? (get_of (by omega)))).2
    exact ⟨by rw [joinL_len, hl], joinL_lt h (mem 0 (by omega)) (mem 1 (by omega))⟩
  · exact ⟨hl, h⟩

/-- Can a town be reduced? -/
def redF : Nat → List Nat → Nat → Bool
  | 0, _, left => decide (left = 0)
  | f + 1, G, left => if left = 0 then true else match (elts left).find? (fun v => decide ((nearL G left v).length ≤ 2)) with
    | none => false
    | some v => redF f (doG G left v) (without left (2 ^ v))

theorem s51 {rb gb : Nat} {tv : Value} {G : List Nat} {left v m : Nat} {h : H} (s : RS rb gb tv G left h) (hl : G.length = m) (hm : m ≤ 10) (hG : ∀ x ∈ G, x < 2 ^ m) (hleft : left < 2 ^ m) (hv : v < m) :
    ∃ h', rn 51 #[pt rb 0, stepV (nearL G left v) v] h = some (undef, h') ∧ RS rb gb tv (doG G left v) (without left (2 ^ v)) h' ∧ h.nx ≤ h'.nx ∧ ∀ q, q < h.nx → q ≠ rb → q ≠ gb → h'.blk q = h.blk q := by
  have hpow : 2 ^ m ≤ 1024 := Nat.pow_le_pow_right (n := 2) (by omega) hm
  have hG' : ∀ x ∈ G, x < 1024 := fun x hx => by have := hG x hx; omega
  have h2v : 2 ^ v < 2 ^ m := Nat.pow_lt_pow_right (by omega) hv
  obtain ⟨a, b, c, d, est, ea, eb, ecd⟩ := stepI_len (nearL G left v) v
  have hsv : stepV (nearL G left v) v = .agg #[iv a, iv b, iv c, iv d] := by unfold stepV; rw [est]; rfl
  let h1 := h.new (.row [iv a, iv b, iv c, iv d] 95 true)
  have x1 : Ext h h1 := Ext.new h _
  have s1 := s.ext x1
  have b1 : h1.blk h.nx = some (.row [iv a, iv b, iv c, iv d] 95 true) := blk_new_self _ _
  have hand : AM.andNot .i64 (left : Int) (AM.shl .i64 1 (v : Int)) = ((without left (2 ^ v) : Nat) : Int) := by
    rw [shl1_nat (by omega), andNot_nat (by omega) (by omega)]
  let h2 := h1.set rb (.row [tv, iv (without left (2 ^ v) : Nat)] 92 true)
  have hrl := s.lt
  have hgl := s.na.lt
  have hne := s.ne
  have hw : wrc 1 h1 rb 1 (iv (without left (2 ^ v) : Nat)) = some h2 := by rw [wrc_one s1.row rfl rfl (by simp)]; rfl
  have b2 : h2.blk h.nx = some (.row [iv a, iv b, iv c, iv d] 95 true) := by
    show (h1.set rb _).blk h.nx = _
    rw [blk_set_ne _ _ _ (by omega)]; exact b1
  have na2 : NA h2 gb tv G := s1.na.keep (Nat.le_refl _) (by show (h1.set rb _).blk gb = _; rw [blk_set_ne _ _ _ (Ne.symm hne)])
  have r2 : h2.blk rb = some (.row [tv, iv (without left (2 ^ v) : Nat)] 92 true) := blk_set_self _ _ _
  have k2 : ∀ q, q < h.nx → q ≠ rb → h2.blk q = h.blk q := fun q hq hqr => by
    show (h1.set rb _).blk q = _
    rw [blk_set_ne _ _ _ hqr]; exact x1.blk q hq
  have n2 : h2.nx = h.nx + 1 := rfl
  -- the end of it
  obtain ⟨h3, hf, na3, r3, k3, n3⟩ : ∃ h3, f51 rn 0 (pt rb 0) (stepV (nearL G left v) v) h = some (undef, h3) ∧ NA h3 gb tv (doG G left v) ∧ h3.blk rb = some (.row [tv, iv (without left (2 ^ v) : Nat)] 92 true) ∧ (∀ q, q < h.nx → q ≠ rb → q ≠ gb → h3.blk q = h.blk q) ∧ h.nx + 1 ≤ h3.nx := by
    rw [hsv]
    have head : f51 rn 0 (pt rb 0) (.agg #[iv a, iv b, iv c, iv d]) h = ifB (eq a 2) (calls rn h2 86 [tv, iv c, iv d] fun _ h3 => some (undef, h3)) (some (undef, h2)) := by
      unfold f51
      rw [bx_eq, show (Value.agg #[iv a, iv b, iv c, iv d]).cells.toList = [iv a, iv b, iv c, iv d] from rfl, show h.new (.row [iv a, iv b, iv c, iv d] 95 true) = h1 from rfl]
      simp only [nil_pt, asP_ptr, d3, d84, w3, nx_eq]
      rw [show AM.off 0 1 = 1 from rfl, show h1.cell rb 1 = some (iv left) by rw [cell_of s1.row]; rfl, Option.bind_some, asI_int, show h1.cell h.nx 1 = some (iv b) by rw [cell_of b1]; rfl, Option.bind_some, asI_int, eb, nn_ge (by omega), hand, hw, Option.bind_some, show h2.cell h.nx 0 = some (iv a) by rw [cell_of b2]; rfl, Option.bind_some, asI_int, show h2.cell rb 0 = some tv by rw [cell_of r2]; rfl]
      rw [show AM.off 0 2 = 2 from rfl, show h2.cell h.nx 2 = some (iv c) by rw [cell_of b2]; rfl, show AM.off 0 3 = 3 from rfl, show h2.cell h.nx 3 = some (iv d) by rw [cell_of b2]; rfl]
      simp only [Option.bind_some, asI_int]
    rw [head]
    unfold doG
    by_cases h2' : (nearL G left v).length = 2
    · obtain ⟨rfl, rfl⟩ := ecd h2'
      rw [if_pos h2', ea, h2', show AM.eq ((2 : Nat) : Int) 2 = true from rfl, ifB_true]
      have mem : ∀ i, i < 2 → (nearL G left v).getD i 0 < m := fun i hi => bit_lt hleft ((near_mem (by omega)).1 (List.mem_of_getElem? (get_of (by omega)))).2
      have m0 := mem 0 (by omega)
      have m1 := mem 1 (by omega)
      obtain ⟨h3, e3, na3, n3, k3⟩ := s86 na2 (i := (nearL G left v).getD 0 0) (j := (nearL G left v).getD 1 0) (by omega) (by omega) hG' (by omega) (by omega)
      refine ⟨h3, calls_eq (xs := [tv, _, _]) e3, na3, (k3 rb (by omega) hne).trans r2, fun q hq h1 h2 => (k3 q (by omega) h2).trans (k2 q hq h1), by omega⟩
    · rw [if_neg h2', show AM.eq a 2 = false by simp; omega, ifB_false]
      exact ⟨h2, rfl, na2, r2, fun q hq h1 _ => k2 q hq h1, by omega⟩
  obtain ⟨h4, e4, m4, _⟩ := x51 (k := 0) hf rfl
  refine ⟨h4, e4, ⟨?_, by rw [m4.blk]; exact r3, IA.ext na3 m4.ext⟩, by rw [m4.nx]; omega, fun q hq h1 h2 => by rw [m4.blk]; exact k3 q hq h1 h2⟩
  rw [m4.nx]; omega

theorem find_at {p : Nat → Bool} : ∀ {L : List Nat} {i x : Nat}, L[i]? = some x → p x = true → (∀ j y, j < i → L[j]? = some y → p y = false) → L.find? p = some x
  | [], i, x, h, _, _ => by simp at h
  | y :: L, 0, x, h, hp, _ => by
    simp at h
    subst h
    rw [List.find?_cons_of_pos hp]
  | y :: L, i + 1, x, h, hp, hn => by
    have := hn 0 y (by omega) rfl
    rw [List.find?_cons_of_neg (by rw [this]; simp)]
    exact find_at (i := i) (by simpa using h) hp fun j z hj hz => hn (j + 1) z (by omega) (by simpa using hz)

theorem s20 {v : Value} {g : List Nat} {h : H} (hg : GrN g) (h8 : g.length ≤ 8) (hs : SlR h 3 1 v (cellsN g)) : ∃ v' h', rn 20 #[v] h = some (.tuple #[v', iv (if redF 10 g (allN g) = true then 0 else 4)], h') ∧ Exw h h' := by
  have hlen := hg.len
  have hpow := hg.pow
  have hval : valid8 (g.map Int.ofNat) = true := by unfold valid8; rw [valid_of hg]; simp [h8]
  have e46 := s46 (v := v) (l := g.map Int.ofNat) (h := h) (by rw [cellsN_eq]; exact hs)
  rw [if_pos hval] at e46
  obtain ⟨rb, gb, tv, h2, e48, x2, hrb, hgb, rs⟩ := s48 hg hs
  have hrl := rs.lt
  have hgl := rs.na.lt
  generalize hm : g.length = m at *
  -- the outer loop
  obtain ⟨e, ws', h3, hl, n3, f3, hq⟩ := lpGo_inv (F := f20_l1 rn 2000 (pt rb 0))
    (fun d ws g' => h2.nx ≤ g'.nx ∧ (∀ q, q < h2.nx → q ≠ rb → q ≠ gb → g'.blk q = h2.blk q) ∧ ∃ G left f ov w1 w2 L, ws = [ov, w1, w2] ∧ RS rb gb tv G left g' ∧ AqR h2.nx g' 95 4 ov L ∧ L.length + pop left ≤ 20 ∧ d = pop left ∧ G.length = m ∧ (∀ x ∈ G, x < 2 ^ m) ∧ left < 2 ^ m ∧ pop left ≤ f ∧ redF f G left = redF 10 g (allN g))
    (fun e ws g' => h2.nx ≤ g'.nx ∧ (∀ q, q < h2.nx → q ≠ rb → q ≠ gb → g'.blk q = h2.blk q) ∧ ((e = .exit 0 ∧ redF 10 g (allN g) = true ∧ ∃ ov w1 w2 L, ws = [ov, w1, w2] ∧ AqR h2.nx g' 95 4 ov L) ∨ (e = .ret ∧ redF 10 g (allN g) = false ∧ ∃ w, ws = [w, .slice none 0 0, iv 4])))
    (by
      rintro d ws g1 ⟨n1, k1, G, left, f, ov, w1, w2, L, rfl, s, ap, hLp, rfl, hGl, hGx, hleft, hf, hred⟩
      have hleft' : left < 1024 := by omega
      have c1 : g1.cell rb 1 = some (iv left) := by rw [cell_of s.row]; rfl
      by_cases h0 : left = 0
      · refine ⟨.exit 0, [ov, w1, w2], g1, ?_, .inr ⟨by simp, n1, k1, .inl ⟨rfl, ?_, ov, w1, w2, L, rfl, ap⟩⟩⟩
        · unfold f20_l1
          rw [nil_pt, asP_ptr, d3, show AM.off 0 1 = 1 from rfl, c1, Option.bind_some, asI_int, h0]
          rfl
        · rw [← hred, h0]
          cases f <;> rfl
      · obtain ⟨f, rfl⟩ : ∃ f', f = f' + 1 := by
          have := pop_pos hleft' h0
          exact ⟨f - 1, by omega⟩
        obtain ⟨nv, g2, e49, x49, hnv, hqv⟩ := s49 hleft' g1
        have hnl : ∀ {T : Type} (K : Int → Option T), len nv K = K ((elts left).length : Int) := fun K => by rw [hnv.len]; simp
        have hpl : (elts left).length ≤ 10 := by rw [elts_len]; exact pop_le_n (Nat.le_refl 10) hleft'
        have hG' : ∀ x ∈ G, x < 1024 := fun x hx => by have := hGx x hx; omega
        -- the search for a node
        obtain ⟨e, ws', g3, hl', n3, k3, hq⟩ := lp_range (F := f20_l2 rn 2000 (pt rb 0) nv (elts left).length) (k := 2000) (n := (elts left).length)
          (fun i ws g' => ws = [ov, .bool false, iv i] ∧ Ext g2 g' ∧ ∀ j y, j < i → (elts left)[j]? = some y → decide ((nearL G left y).length ≤ 2) = false)
          (fun e ws g' => g2.nx ≤ g'.nx ∧ (∀ q, q < h2.nx → q ≠ rb → q ≠ gb → g'.blk q = g2.blk q) ∧ e = .exit 2 ∧ ((∃ w, ws = [ov, .bool false, w] ∧ (elts left).find? (fun v => decide ((nearL G left v).length ≤ 2)) = none) ∨
            (∃ ov' x w c, ws = [ov', .bool true, w] ∧ (elts left).find? (fun v => decide ((nearL G left v).length ≤ 2)) = some x ∧ left.testBit x = true ∧ RS rb gb tv (doG G left x) (without left (2 ^ x)) g' ∧ AqR h2.nx g' 95 4 ov' (L ++ [c]))))
          (by
            rintro i ws g' hi ⟨rfl, xg, hno⟩
            have hx := List.getElem?_eq_getElem hi
            generalize (elts left)[i] = x at hx
            have hxl := (mem_elts hleft').1 (List.mem_of_getElem? hx)
            have hxm : x < m := bit_lt hleft hxl
            have sg := s.ext (x49.toExt.trans xg)
            have hadd : add .i64 (i : Int) 1 = ((i + 1 : Nat) : Int) := by rw [add64 (by omega) (by omega)]; omega
            have e1 : ∀ (K : Value → Option (Ex × List Value × H)), (six nv (i : Int) 1 fun b o => ld Tryd.prog g' 3 b o K) = K (iv x) := fun K => by
              simp only [d3]
              exact (hnv.ext xg).c0 (by omega) (x := [iv x]) (by simp [hx]) rfl K
            have e50 := s50 (v := x) sg (by omega) hG' hleft' (by omega)
            obtain ⟨a, b, c, d, est, ea, eb, ecd⟩ := stepI_len (nearL G left x) x
            have hsv : stepV (nearL G left x) x = .agg #[iv a, iv b, iv c, iv d] := by unfold stepV; rw [est]; rfl
            let g4 := g'.fresh 95 [iv 0, iv 0, iv 0, iv 0] [iv a, iv b, iv c, iv d]
            have x4 : Ext g' g4 := (Ext.refl g').fresh 95 _ _
            have b4 : g4.blk g'.nx = some (.row [iv a, iv b, iv c, iv d] 95 true) := blk_fresh _ _ _ _
            have hal : ∀ (K : H → Option (Ex × List Value × H)), (al g' 95 [iv 0, iv 0, iv 0, iv 0] fun h3 => st Tryd.prog h3 95 g'.nx 0 (.agg #[iv a, iv b, iv c, iv d]) K) = K g4 := fun K => al_st (P := Tryd.prog) (h := g') (zs := [iv 0, iv 0, iv 0, iv 0]) (xs := [iv a, iv b, iv c, iv d]) (t := 95) (K := K) sz95 rfl rfl
            have xg4 := (x49.toExt.trans xg).trans x4
            have head : f20_l2 rn 2000 (pt rb 0) nv (elts left).length [ov, .bool false, iv i] g' = ifB (decide ((nearL G left x).length ≤ 2)) (
                ld Tryd.prog g4 95 g'.nx 0 fun v12 =>
                calls rn g4 51 [pt rb 0, v12] fun v13 h9 =>
                ld Tryd.prog h9 95 g'.nx 0 fun v14 =>
                bls Tryd.prog h9 39 1 [(0, v14)] fun v15 h10 =>
                app Tryd.prog h10 39 39 ov v15 fun v16 h11 =>
                out (.exit 2) [v16, (.bool true), iv i] h11) (out .normal [ov, .bool false, iv ((i + 1 : Nat) : Int)] g4) := by
              unfold f20_l2
              rw [show gv [ov, Value.bool false, iv (i : Int)] 2 = iv i from rfl, asI_int, lt_t (by omega), ifB_true, asK_int, e1, asI_int, calls_eq (xs := [pt rb 0, iv x]) e50, ext20, ext21, asB_bool, hsv]
              simp only [nx_eq]
              rw [hal, asI_int, hadd]
              rfl
            rw [head]
            by_cases hle : (nearL G left x).length ≤ 2
            · rw [decide_eq_true hle, ifB_true]
              obtain ⟨h9, e51, s9, n9, k9⟩ := s51 (sg.ext x4) hGl (by omega) hGx hleft hxm
              rw [hsv] at e51
              have hgr := sg.lt
              have hgg := sg.na.lt
              have b9 : h9.blk g'.nx = some (.row [iv a, iv b, iv c, iv d] 95 true) := (k9 g'.nx (Nat.lt_succ_self _) (by omega) (by omega)).trans b4
              have ap9 : AqR h2.nx h9 95 4 ov L := (ap.ext xg4).keep n9 fun q hq => by
                obtain ⟨q1, q2, _⟩ := (ap.ext xg4).blkOf hq
                exact k9 q q2 (by omega) (by omega)
              obtain ⟨v16, h11, e16, a16, n16, k16, _⟩ := ap9.push app39 app39 (bls39 a b c d) rfl rfl (by omega) (by have := xg4.nx; omega)
              have hd9 : ∀ b, blkOf ov = some b → h2.nx ≤ b := fun b hb => (ap9.blkOf hb).1
              refine ⟨.exit 2, [v16, .bool true, iv i], h11, ?_, .inr ⟨by simp, by have := xg.nx; have := x4.nx; omega, fun q hq h1 h2' => ?_, rfl, .inr ⟨v16, x, iv i, _, rfl, find_at hx (decide_eq_true hle) hno, hxl, ?_, a16⟩⟩⟩
              · rw [d95, rd_all (n := 4) b4 rfl, Option.bind_some]
                refine (calls_eq (xs := [pt rb 0, .agg #[iv a, iv b, iv c, iv d]]) e51).trans ?_
                rw [d95, rd_all (n := 4) b9 rfl, Option.bind_some]
                exact e16 _
              · have q1 := x49.nx
                have q2 := xg.nx
                have q3 := x4.nx
                rw [k16 q (by omega) (fun e => by have := hd9 _ e; omega), k9 q (by omega) h1 h2', x4.blk q (by omega), xg.blk q (by omega)]
              · have q1 := s9.lt
                have q2 := s9.na.lt
                refine ⟨by omega, (k16 rb q1 (fun e => by have := hd9 _ e; omega)).trans s9.row, s9.na.keep n16 (k16 gb q2 (fun e => by have := hd9 _ e; omega))⟩
            · rw [decide_eq_false hle, ifB_false]
              refine ⟨.normal, _, g4, rfl, .inl ⟨rfl, rfl, xg.trans x4, fun j y hj hy => ?_⟩⟩
              by_cases hji : j < i
              · exact hno j y hji hy
              · have : j = i := by omega
                subst this
                rw [hx] at hy
                cases hy
                exact decide_eq_false hle)
          (by
            rintro ws g' ⟨rfl, xg, hno⟩
            refine ⟨.exit 2, [ov, .bool false, iv (elts left).length], g', ?_, by simp, xg.nx, fun q hq _ _ => xg.blk q (by have := x49.nx; omega), rfl, .inl ⟨_, rfl, ?_⟩⟩
            · unfold f20_l2
              rw [show gv [ov, Value.bool false, iv ((elts left).length : Int)] 2 = iv (elts left).length from rfl, asI_int, lt_f (by omega), ifB_false]
              rfl
            · rw [List.find?_eq_none]
              intro y hy
              obtain ⟨j, hj⟩ := List.mem_iff_getElem?.1 hy
              rw [hno j y (List.getElem?_eq_some_iff.1 hj).1 hj]
              simp)
          (ws := [ov, .bool false, iv 0]) (h := g2) (by omega) ⟨rfl, .refl _, fun j y hj => by omega⟩
        obtain ⟨rfl, hq⟩ := hq
        have x49n := x49.nx
        have fr : ∀ q, q < h2.nx → q ≠ rb → q ≠ gb → g3.blk q = h2.blk q := fun q hq h1 h2' => by rw [k3 q hq h1 h2', x49.toExt.blk q (by omega), k1 q hq h1 h2']
        have head : f20_l1 rn 2000 (pt rb 0) [ov, w1, w2] g1 = asB (gv ws' 1) fun q2 => ifB (not q2) (out .ret [gv ws' 0, .slice none 0 0, iv 4] g3) (out .normal [gv ws' 0, w1, w2] g3) := by
          unfold f20_l1
          simp only [nil_pt, asP_ptr, d3]
          rw [show AM.off 0 1 = 1 from rfl, c1, Option.bind_some, asI_int, show AM.eq (left : Int) 0 = false by simp; omega, show (!false) = true from rfl, ifB_true, Option.bind_some, asI_int, calls_eq (xs := [iv left]) e49, hnl, show gv [ov, w1, w2] 0 = ov from rfl, lp_eq hl', onE_exit, if_pos rfl]
          rfl
        rw [head]
        rcases hq with ⟨w, rfl, hfn⟩ | ⟨ov', x, w, c, rfl, hfs, hxl, s3, a3⟩
        · refine ⟨.ret, [ov, .slice none 0 0, iv 4], g3, by rw [show gv [ov, Value.bool false, w] 1 = .bool false from rfl, asB_bool]; rfl, .inr ⟨by simp, by omega, fr, .inr ⟨rfl, ?_, _, rfl⟩⟩⟩
          rw [← hred]
          show (if left = 0 then true else _) = false
          rw [if_neg h0, hfn]
        · have hplt : pop (without left (2 ^ x)) < pop left := pop_lt hleft' (fun j hj => (bit_del.1 hj).1) hxl (by
            rw [Bool.eq_false_iff]; intro h; exact (bit_del.1 h).2 rfl)
          obtain ⟨q1, q2⟩ := doG_ok (v := x) hGl hGx hleft (by omega)
          refine ⟨.normal, [ov', w1, w2], g3, by rw [show gv [ov', Value.bool true, w] 1 = .bool true from rfl, asB_bool]; rfl, .inl ⟨rfl, _, hplt, by omega, fr, doG G left x, without left (2 ^ x), f, ov', w1, w2, L ++ [c], rfl, s3, a3, by simp; omega, rfl, q1, q2, without_lt hleft, by omega, ?_⟩⟩
          rw [← hred]
          show _ = (if left = 0 then true else _)
          rw [if_neg h0, hfs])
    (pop (allN g)) 2000 (by have := pop_le_n (Nat.le_refl 10) (show allN g < 2 ^ 10 by have := allN_lt g; rw [hm] at this; omega); omega) (ws := [.slice none 0 0, .slice none 0 0, iv 0]) (h := h2)
    ⟨Nat.le_refl _, fun _ _ _ _ => rfl, g, allN g, 10, _, _, _, [], rfl, rs, .nil, by have := pop_le_n (Nat.le_refl 10) (show allN g < 2 ^ 10 by have := allN_lt g; rw [hm] at this; omega); simp; omega, rfl, hm, fun x hx => by rw [← hm]; exact hg.lt x hx, by rw [← hm]; exact allN_lt g, pop_le_n (Nat.le_refl 10) (show allN g < 2 ^ 10 by have := allN_lt g; rw [hm] at this; omega), rfl⟩
  have x3 : Ext h h3 := ⟨by have := x2.nx; omega, fun b hb => by
    rw [f3 b (by have := x2.nx; omega) (by omega) (by omega)]
    exact x2.toExt.blk b hb⟩
  have head : f20 rn 2000 v h = onE e 0 (some ((.tuple #[gv ws' 0, (.int .i64 0)]), h3)) (onR e (some ((.tuple #[gv ws' 1, gv ws' 2]), h3))) := by
    unfold f20
    rw [calls_eq (xs := [v, iv 8]) e46, ext20, ext21, asB_bool, show (!true) = false from rfl, ifB_false, calls_eq (xs := [v]) e48, lp_eq hl]
  rcases hq with ⟨rfl, hr, ov, w1, w2, L, rfl, ap⟩ | ⟨rfl, hr, w, rfl⟩
  · obtain ⟨h6, e6, m6, w6⟩ := x20 (k := 2000) (v0 := v) (h := h) (h1 := h3) (v := .tuple #[ov, iv 0]) (by rw [head, onE_exit, if_pos rfl]; rfl) ap.slR.notR2
    rw [hr]
    exact ⟨ov, h6, e6, w6 x3⟩
  · obtain ⟨h6, e6, m6, w6⟩ := x20 (k := 2000) (v0 := v) (h := h) (h1 := h3) (v := .tuple #[.slice none 0 0, iv 4]) (by rw [head, onE_ret, onR_ret]; rfl) rfl
    rw [hr]
    exact ⟨_, h6, e6, w6 x3⟩

end Go.AM

end

section

/- Law 4: a connected graph of at least four nodes without cut nodes, and without pairs that part it, has K(4) as a minor, and cannot be reduced. -/
namespace Go.AM
open Go.Proofs
variable {k : Nat} {R : Type}
attribute [local simp] eq lt le
/-! ### Reducing -/
theorem red_none {f : Nat} {G : List Nat} {left : Nat} (h0 : left ≠ 0) (h : ∀ v ∈ elts left, 2 < (nearL G left v).length) : redF f G left = false := by
  cases f with
  | zero => exact decide_eq_false h0
  | succ f =>
    show (if left = 0 then true else _) = false
    rw [if_neg h0]
    have : (elts left).find? (fun v => decide ((nearL G left v).length ≤ 2)) = none := by
      rw [List.find?_eq_none]
      intro v hv
      have := h v hv
      simp
      omega
    rw [this]

/-! ### Three-connected graphs -/
theorem pairs_bi {g : List Nat} (hg : GrN g) (h4 : 4 ≤ g.length) (hb : (blocksP g).length = 1) (hp : pairsP g = []) : Bi g (allN g) ∧ ∀ a b, a ≠ b → Conn g (del2 (allN g) a b) := by
  have hlen := hg.len
  have hpow := hg.pow
  have hall : ∀ i, (allN g).testBit i = true ↔ i < g.length := fun i => by rw [allN_bit, decide_eq_true_iff]
  obtain ⟨S, hS⟩ : ∃ S, blocksP g = [S] := by
    match hbl : blocksP g, hb with
    | [S], _ => exact ⟨S, rfl⟩
  have hSm : S ∈ blocksP g := by rw [hS]; simp
  have hin : ∀ v, v < g.length → S.testBit v = true := by
    intro v hv
    by_cases h0 : nb g v = 0
    · -- alone
      have hlt : 2 ^ v < 2 ^ g.length := Nat.pow_lt_pow_right (by omega) hv
      have hq : candQ g (2 ^ v) = true := by
        unfold candQ loneQ
        rw [pop_two v (by omega), low_two v (by omega), h0]
        rfl
      have hpw := pop_two v (by omega)
      obtain ⟨y, hy, hsy⟩ := mx_above hlen (c := candQ g) 9 (2 ^ v) (by omega) hlt hq
      have : y = S := by
        have := mem_blocks.2 hy
        rw [hS] at this
        simpa using this
      subst this
      exact subS_iff.1 hsy v (by rw [Nat.testBit_two_pow]; simp)
    · obtain ⟨b, hb⟩ : ∃ b, adj g v b = true := by
        refine Classical.byContradiction fun hc => h0 (Nat.eq_of_testBit_eq fun i => ?_)
        rw [Nat.zero_testBit, Bool.eq_false_iff]
        exact fun h => hc ⟨i, h⟩
      obtain ⟨T, hT, h1, _⟩ := edge_block hg hb
      have : T = S := by rw [hS] at hT; simpa using hT
      rw [← this]; exact h1
  have hSlt := blocks_lt hSm
  have hSall : S = allN g := set_ext hSlt (allN_lt g) fun i hi => by rw [hin i hi, (hall i).2 hi]
  have hbi : Bi g (allN g) := by
    rcases block_two hg hSm with ⟨v, hv, _, e⟩ | ⟨_, h, _, _⟩
    · exfalso
      have h1 := hin (if v = 0 then 1 else 0) (by split <;> omega)
      rw [e, Nat.testBit_two_pow, decide_eq_true_iff] at h1
      split at h1 <;> omega
    · rw [← hSall]; exact h
  refine ⟨hbi, ?_⟩
  have hconn := hbi.conn (by have := allN_lt g; omega)
  have hcs : connS g (allN g) = true := (conn_iff hg (allN_lt g)).2 hconn
  have key : ∀ a b, a < b → b < g.length → Conn g (del2 (allN g) a b) := by
    intro a b hab hb
    rw [pairs_pairL] at hp
    have hn : (a, b) ∉ pairL g.length (partsP g) := by rw [hp]; simp
    rw [mem_pairL] at hn
    have hpf : partsP g a b = false := by
      rw [Bool.eq_false_iff]
      exact fun h => hn ⟨hab, hb, h⟩
    unfold partsP at hpf
    rw [hcs, Bool.true_and, Bool.not_eq_false'] at hpf
    exact (conn_iff hg (del2_lt (allN_lt g))).1 hpf
  have dcomm : ∀ a b, del2 (allN g) a b = del2 (allN g) b a := fun a b => Nat.eq_of_testBit_eq fun i => by
    unfold del2
    rw [Bool.eq_iff_iff, bit_del, bit_del, bit_del, bit_del]
    constructor
    · rintro ⟨⟨h1, h2⟩, h3⟩; exact ⟨⟨h1, h3⟩, h2⟩
    · rintro ⟨⟨h1, h2⟩, h3⟩; exact ⟨⟨h1, h3⟩, h2⟩
  have big : ∀ a b, ¬ b < g.length → Conn g (del2 (allN g) a b) := by
    intro a b hb
    unfold del2
    rw [del_none (S := without (allN g) (2 ^ a)) (w := b)]
    · exact hbi a
    · rw [Bool.eq_false_iff]
      intro h
      exact hb ((hall b).1 (bit_del.1 h).1)
  intro a b hab
  by_cases hb : b < g.length
  · by_cases ha : a < g.length
    · rcases Nat.lt_or_ge a b with h | h
      · exact key a b h hb
      · rw [dcomm]; exact key b a (by omega) ha
    · rw [dcomm]; exact big b a ha
  · exact big a b hb

theorem many_near {g : List Nat} (hg : GrN g) (h4 : 4 ≤ g.length) (hp : ∀ a b, a ≠ b → Conn g (del2 (allN g) a b)) {v : Nat} (hv : v < g.length) : 2 < (nearL g (allN g) v).length := by
  have hlen := hg.len
  have hpow := hg.pow
  have hall : ∀ i, (allN g).testBit i = true ↔ i < g.length := fun i => by rw [allN_bit, decide_eq_true_iff]
  have hal : allN g < 1024 := by have := allN_lt g; omega
  have nm : ∀ x, x ∈ nearL g (allN g) v ↔ adj g v x = true := fun x => by
    rw [near_mem hal, hall]
    exact ⟨fun h => h.1, fun h => ⟨h, (hg.adj_lt h).2⟩⟩
  have nd : (nearL g (allN g) v).Nodup := elts_nodup _
  refine Classical.byContradiction fun hc => ?_
  have other : ∀ L : List Nat, L.length ≤ 3 → ∃ z, z < g.length ∧ z ∉ L := by
    intro L hL
    refine Classical.byContradiction fun h => ?_
    have := len_sub (l := List.range g.length) (m := L) List.nodup_range fun x hx => Classical.byContradiction fun h1 => h ⟨x, List.mem_range.1 hx, h1⟩
    rw [List.length_range] at this
    omega
  have main : ∀ a b, a ≠ b → a ≠ v → b ≠ v → (∀ x, adj g v x = true → x = a ∨ x = b) → False := by
    intro a b hab hav hbv hn
    obtain ⟨z, hz, hzL⟩ := other [a, b, v] (by simp)
    simp only [List.mem_cons, List.not_mem_nil, or_false, not_or] at hzL
    have bD : ∀ i, (del2 (allN g) a b).testBit i = true ↔ (i < g.length ∧ i ≠ a) ∧ i ≠ b := fun i => by unfold del2; rw [bit_del, bit_del, hall]
    have hr := hp a b hab v z ((bD v).2 ⟨⟨hv, Ne.symm hav⟩, Ne.symm hbv⟩) ((bD z).2 ⟨⟨hz, hzL.1⟩, hzL.2.1⟩)
    obtain ⟨u, hu, hub, _⟩ := hr.next hzL.2.2
    have hub := (bD u).1 hub
    rcases hn u hu with e | e
    · exact hub.1.2 e
    · exact hub.2 e
  have irr : ∀ x, adj g v x = true → x ≠ v := fun x hx e => by
    subst e
    rw [hg.irr] at hx; cases hx
  match hL : nearL g (allN g) v, hc with
  | [], _ =>
    obtain ⟨a, _, ha⟩ := other [v] (by simp)
    obtain ⟨b, _, hb⟩ := other [v, a] (by simp)
    simp at ha hb
    exact main a b (fun e => hb.2 e.symm) ha hb.1 fun x hx => by
      have := (nm x).2 hx
      rw [hL] at this; simp at this
  | [a], _ =>
    obtain ⟨b, _, hb⟩ := other [v, a] (by simp)
    simp at hb
    have ha := (nm a).1 (by rw [hL]; simp)
    exact main a b (fun e => hb.2 e.symm) (irr a ha) hb.1 fun x hx => by
      have := (nm x).2 hx
      rw [hL] at this
      exact .inl (by simpa using this)
  | [a, b], _ =>
    rw [hL] at nd
    have ha := (nm a).1 (by rw [hL]; simp)
    have hb := (nm b).1 (by rw [hL]; simp)
    exact main a b (by simpa using nd) (irr a ha) (irr b hb) fun x hx => by
      have := (nm x).2 hx
      rw [hL] at this
      simpa using this
  | _ :: _ :: _ :: _, hc => simp at hc

end Go.AM

end

section

/- Law 4. -/
namespace Go.AM
open Go.Proofs
theorem s4 (s15 : ∀ h, rn 15 #[] h = some (.bool true, h)) {h : H} {v : Value} {l : List Int} (hs : SlR h 3 1 v (cellsI l)) : ∃ h', rn 4 #[v] h = some (.bool true, h') := by
  have c15 := fun (g : H) (K : Value → H → Option (Value × H)) => calls_eq (K := K) (xs := []) (s15 g)
  have c14 := fun (K : Value → H → Option (Value × H)) => calls_eq (K := K) (xs := [v]) (s14 hs)
  have hn : ∀ {T : Type} (K : Int → Option T), len v K = K (l.length : Int) := fun K => by rw [hs.len]; simp
  by_cases hval : valid8 l = true
  · have hv := hval
    unfold valid8 at hv
    rw [Bool.and_eq_true, decide_eq_true_iff] at hv
    obtain ⟨g, rfl, hg⟩ := valid_nat hv.1
    have h8 : g.length ≤ 8 := by simpa using hv.2
    by_cases h4 : 4 ≤ g.length
    · rw [cellsN_eq] at hs
      obtain ⟨v4, h4', e4, x4, hs4⟩ := s11g hg.toGrB hs
      have e5 := s16 hg hv.1 hs4
      obtain ⟨v8, h6, e6, x6, hs8⟩ := s11g hg.toGrB (hs.ext x4.toExt)
      obtain ⟨v10, h7, e7, x7, hs10⟩ := s17 hg hv.1 hs8
      obtain ⟨v12, h8', e8, x8, hs12⟩ := s11g hg.toGrB (hs.ext ((x4.tr x6).tr x7).toExt)
      obtain ⟨v14, h9, e9, x9, hs14⟩ := s10 hg hv.1 hs12
      have hn10 : ∀ {T : Type} (K : Int → Option T), len v10 K = K ((pairsP g).length : Int) := fun K => by rw [hs10.len]; simp
      have hn14 : ∀ {T : Type} (K : Int → Option T), len v14 K = K ((blocksP g).length : Int) := fun K => by rw [hs14.len]; simp
      have x49 := (((x4.tr x6).tr x7).tr x8).tr x9
      obtain ⟨v20, h13, e18, x13, hs20⟩ := s18 h9
      obtain ⟨v22, h14, e22, x14, hs22⟩ := s11g hg.toGrB (hs.ext (x49.tr x13).toExt)
      have start : ∀ r, (ifB (not (eq ((cutsP g (allN g) : Nat) : Int) 0)) (some (Value.bool true, h9)) (ifB (not (eq ((pairsP g).length : Int) 0)) (some (Value.bool true, h9)) (ifB (not (eq ((blocksP g).length : Int) 1)) (some (Value.bool true, h9)) (
          calls rn h9 18 [(.int .i64 4)] fun v19 h13 =>
          ext v19 0 fun v20 =>
          ext v19 1 fun v21 =>
          asI .i64 v21 fun n7 =>
          calls rn h13 11 [v] fun v22 h14 =>
          calls rn h14 19 [v22, v20] fun v23 h15 =>
          ext v23 0 fun v24 =>
          ext v23 1 fun v25 =>
          asI .i64 v25 fun n8 =>
          calls rn h15 11 [v] fun v26 h16 =>
          calls rn h16 20 [v26] fun v27 h17 =>
          ext v27 0 fun v28 =>
          ext v27 1 fun v29 =>
          asI .i64 v29 fun n9 =>
          ifB (eq n7 0) (
            ifB (eq n8 0) (
              ifB (eq n9 4) (
                calls rn h17 15 [] fun v30 h18 =>
                asB v30 fun q6 =>
                some ((.bool q6), h18)) (
                some ((.bool false), h17))) (
              some ((.bool false), h17))) (
            some ((.bool false), h17)))))) = r → f4 rn 0 v h = r := by
        rintro r rfl
        unfold f4
        rw [c14, hval, asB_bool, show (!true) = false from rfl, ifB_false, hn, List.length_map, lt_f (by omega), ifB_false, calls_eq (xs := [v]) e4, calls_eq (xs := [v4]) e5, ext20, asI_int, ext21, asI_int, calls_eq (xs := [v]) e6, calls_eq (xs := [v8]) e7, ext20, ext21, asI_int, calls_eq (xs := [v]) e8, calls_eq (xs := [v12]) e9, ext20, ext21, asI_int]
        simp only [show AM.eq 0 0 = true from rfl, Bool.not_true, ifB_false, hn10, hn14, c15, asB_bool]
      by_cases hc : cutsP g (allN g) = 0
      · by_cases hpp : pairsP g = []
        · by_cases hbb : (blocksP g).length = 1
          · obtain ⟨hbi, hcn⟩ := pairs_bi hg h4 hbb hpp
            obtain ⟨v24, h15, e19, x15⟩ := s19 hg h8 hs22 (hs20.ext x14.toExt) h4 hbi hcn
            obtain ⟨v26, h16, e26, x16, hs26⟩ := s11g hg.toGrB (hs.ext (((x49.tr x13).tr x14).tr x15).toExt)
            obtain ⟨v28, h17, e20, x17⟩ := s20 hg h8 hs26
            have hr : redF 10 g (allN g) = false := by
              have hal : allN g < 1024 := by have := allN_lt g; have := hg.pow; omega
              refine red_none (all_ne hg) fun u hu => many_near hg h4 hcn ?_
              have := (mem_elts hal).1 hu
              rw [allN_bit, decide_eq_true_iff] at this
              exact this
            rw [hr, if_neg (by simp)] at e20
            refine ⟨_, t4 (k := 0) (v0 := v) (h1 := h17) (v := .bool true) (start _ ?_)⟩
            rw [hc, hpp, hbb, show AM.eq ((0 : Nat) : Int) 0 = true from rfl, show (!true) = false from rfl, ifB_false, show AM.eq (([] : List (Nat × Nat)).length : Int) 0 = true from rfl, show (!true) = false from rfl, ifB_false, show AM.eq ((1 : Nat) : Int) 1 = true from rfl, show (!true) = false from rfl, ifB_false]
            rw [calls_eq (xs := [iv 4]) e18, ext20, ext21, asI_int, calls_eq (xs := [v]) e22, calls_eq (xs := [v22, v20]) e19, ext20, ext21, asI_int, calls_eq (xs := [v]) e26, calls_eq (xs := [v26]) e20, ext20, ext21, asI_int, show AM.eq 0 0 = true from rfl, ifB_true, show AM.eq 4 4 = true from rfl, ifB_true, ifB_true, c15, asB_bool]
          · refine ⟨_, t4 (k := 0) (v0 := v) (h1 := h9) (v := .bool true) (start _ ?_)⟩
            rw [hc, hpp, show AM.eq ((0 : Nat) : Int) 0 = true from rfl, show (!true) = false from rfl, ifB_false, show AM.eq (([] : List (Nat × Nat)).length : Int) 0 = true from rfl, show (!true) = false from rfl, ifB_false, show AM.eq ((blocksP g).length : Int) 1 = false by unfold AM.eq; simp; omega, show (!false) = true from rfl, ifB_true]
        · have : (pairsP g).length ≠ 0 := fun e => hpp (List.eq_nil_of_length_eq_zero e)
          refine ⟨_, t4 (k := 0) (v0 := v) (h1 := h9) (v := .bool true) (start _ ?_)⟩
          rw [hc, show AM.eq ((0 : Nat) : Int) 0 = true from rfl, show (!true) = false from rfl, ifB_false, show AM.eq ((pairsP g).length : Int) 0 = false by unfold AM.eq; rw [beq_eq_false_iff_ne]; omega, show (!false) = true from rfl, ifB_true]
      · refine ⟨_, t4 (k := 0) (v0 := v) (h1 := h9) (v := .bool true) (start _ ?_)⟩
        rw [show AM.eq ((cutsP g (allN g) : Nat) : Int) 0 = false by unfold AM.eq; rw [beq_eq_false_iff_ne]; omega, show (!false) = true from rfl, ifB_true]
    · refine ⟨_, t4 (k := 0) (v0 := v) (h1 := h) (v := .bool true) ?_⟩
      unfold f4
      rw [c14, hval, asB_bool, show (!true) = false from rfl, ifB_false, hn, List.length_map, lt_t (by omega), ifB_true, c15, asB_bool]
  · refine ⟨_, t4 (k := 0) (v0 := v) (h1 := h) (v := .bool true) ?_⟩
    unfold f4
    rw [c14, asB_bool, show valid8 l = false by simpa using hval, show (!false) = true from rfl, ifB_true, c15, asB_bool]

end Go.AM

end

section

/- The examples at the end: by the kernel's own run. -/
namespace Go.AM
open Go.Proofs
noncomputable def loneOk (f : FuncId) : Bool := match call Tryd.prog E0 60 f #[] ⟨fun _ => none, 0, 0⟩ with
  | some (.bool b, _) => b
  | _ => false

theorem lone_run {f : FuncId} (hf : E0.iso f = true) (ht : loneOk f = true) (h : H) : rn f #[] h = some (.bool true, h) := by
  unfold loneOk at ht
  split at ht
  · rename_i b h' hc
    subst ht
    exact run_iso (n := 59) (by rw [hf]; rfl) (iso_any (by rw [hf]; rfl) hc)
  · cases ht

theorem parts_run : loneOk 9 = true := by decide +kernel

theorem s9 (h : H) : rn 9 #[] h = some (.bool true, h) := lone_run rfl parts_run h

theorem finds_run : loneOk 15 = true := by decide +kernel

theorem s15 (h : H) : rn 15 #[] h = some (.bool true, h) := lone_run rfl finds_run h

end Go.AM

end

section

/- Slices of numbers that a statement is handed, in the abstract heap. -/
namespace Go.AM
open Go.Proofs Go.ChangeShapes
variable {HH : Type} {enc : TypeId × Value → HH} {w : World} {base : Nat} {held : Bool}
theorem flat3 (n : Nat) (cs : List Value) (x : DataW HH × List MemPlace) (h : DataW.trod enc Tryd.prog w base (fun _ => true) held n 3 cs = some x) : ∃ z : Int, cs = [iv z] := by
  obtain ⟨z, h1, _⟩ := DataW.trod_int (show Tryd.prog.underlying 3 = some (.int .i64) from by kernel_rfl) h
  exact ⟨z, h1⟩

theorem cellsOf3 : Tryd.prog.cellsOf 3 = 1 := by kernel_rfl

theorem bytes3 : Tryd.prog.bytesOf 3 = 8 := by kernel_rfl

theorem ints_of : ∀ (l : List (List Value)), (∀ x ∈ l, ∃ z : Int, x = [iv z]) → ∃ l' : List Int, l = l'.map fun z => [iv z] := by
  intro l
  induction l with
  | nil => intro _; exact ⟨[], rfl⟩
  | cons x l ih =>
    intro h
    obtain ⟨c, hc⟩ := h x (by simp)
    obtain ⟨l', hl⟩ := ih (fun y hy => h y (List.mem_cons_of_mem _ hy))
    exact ⟨c :: l', by rw [hc, hl]; rfl⟩

set_option maxRecDepth 100000 in
/-- A graph that came in. -/
theorem open_graph {rr : Reach} {b0 : Nat} {v : Value} {d : DataW HH} {ps : List MemPlace} (hv : Value.okWide Tryd.prog w rr b0 23 v) (hwt : ∀ x ∈ d.weights Tryd.prog 23, x ≤ reachBytes)
    (hd : DataW.Trod enc Tryd.prog w base (fun _ => true) held 23 v d ps) {ι : Nat → Emb} {h : H} (r : Rel Tryd.prog E0 ι h w) (hro : ∀ b k, h.blk b = some k → k.own = false) :
    ∃ (v0 : Value) (ι' : Nat → Emb) (h' : H) (l : List Int), Rel Tryd.prog E0 ι' h' w ∧ (∀ b k, h'.blk b = some k → k.own = false) ∧ Ext h h' ∧ (∀ b, b < h.nx → ι' b = ι b) ∧
      VR ι' h'.nx v0 v ∧ SlR h' 3 1 v0 (l.map fun z => [iv z]) := by
  have hu : Tryd.prog.underlying 23 = some (.slice 3) := by kernel_rfl
  simp only [Value.okWide, hu] at hv
  have hy : ∃ a len cap, v = .slice a len cap := by
    simp only [Cell.okWide, hu] at hv
    cases v <;> simp_all [Cell.ok]
  obtain ⟨a, len, cap, rfl⟩ := hy
  obtain ⟨ι', h', v0, l, g1, g2, g3, g4, g5, g6, g7⟩ := open_flat r hro hu sz3 cellsOf3 (by decide) (Q := fun x => ∃ z : Int, x = [iv z]) flat3 (by
    rintro cs ⟨c, rfl⟩
    exact ⟨rfl, fun v hv => by simp at hv; subst hv; exact ⟨_, _, rfl⟩⟩) (by rw [bytes3]; exact Nat.succ_pos _) hwt (okWide_has hu hv) hd
  obtain ⟨l', rfl⟩ := ints_of l g7
  exact ⟨v0, ι', h', l', g1, g2, g3, g4, g5, g6⟩

/-! ### Streets and numbers that came in -/
/-! ### The table -/
open Go.Proofs.YtphchobmencipaaDoor
theorem glTab : Tryd.prog.globalNamed "math/bits.deBruijn64tab" = some 1 := by kernel_rfl

theorem tyTab : (Tryd.prog.globals[1]?).map (·.type) = some 160 := by kernel_rfl

theorem under160 : Tryd.prog.underlying 160 = some (.array 64 5) := by kernel_rfl

theorem under5 : Tryd.prog.underlying 5 = some (.int .u8) := by kernel_rfl

theorem cellsOf5 : Tryd.prog.cellsOf 5 = 1 := by kernel_rfl

/-- What the rows say of the package-level variables. -/
def laidT : List (String × DataW Unit) := [("math/bits.deBruijn32tab", Rows.laid_math_bits_deBruijn32tab), ("math/bits.deBruijn64tab", Rows.laid_math_bits_deBruijn64tab)]

theorem laid64_eq : (Rows.laid_math_bits_deBruijn64tab : DataW Unit) = .agg (tab64.map fun n => .lit (.int .u8 n)) := by kernel_rfl

theorem tab_len : tab64.length = 64 := by decide

set_option maxRecDepth 100000 in
/-- What the condition gives: each cell of the table. -/
theorem of_laid {W : World} (h : laidMetH Tryd.prog laidT W) (i : Nat) (z : Int) (hz : tab64[i]? = some z) : W.cell? ⟨1, i, none⟩ = some (.int .u8 z) := by
  rw [MakeChecks.laidMetH_plain _ _ _ (by kernel_rfl)] at h
  obtain ⟨ps, ⟨g0, t0, cs0, f0, p0, q0, hg0, ht0, hv0, hd0, ⟨g1, t1, cs1, f1, p1, q1, hg1, ht1, hv1, hd1, _, _⟩, _⟩, _, _⟩ := h
  obtain rfl := Option.some.inj (glTab.symm.trans hg1)
  obtain rfl := Option.some.inj (tyTab.symm.trans ht1)
  obtain ⟨xs, m1, rfl, hx1, hlen, hn3, hel⟩ := DataW.trod_array under160 hd1
  have hi : i < 64 := by rw [← tab_len]; exact (List.getElem?_eq_some_iff.1 hz).1
  have h0 := hel i hi
  rw [cellsOf5, Nat.mul_one] at h0
  have hxi : xs[i]? = some xs[i] := List.getElem?_eq_getElem (by omega)
  rw [hxi] at h0
  obtain ⟨k, e1, e2, _⟩ := DataW.trod_int under5 h0
  have hx2 : DataW.agg (tab64.map fun n => DataW.lit (.int .u8 n)) = DataW.agg (xs.map (·.1)) := by
    rw [← laid64_eq]
    exact congrArg Prod.fst hx1
  have hx3 : (tab64.map fun n => (DataW.lit (.int .u8 n) : DataW Unit)) = xs.map (·.1) := by
    exact DataW.agg.inj hx2
  have hx4 := congrArg (·[i]?) hx3
  simp only [List.getElem?_map, hz, hxi, Option.map_some, Option.some.injEq] at hx4
  rw [e2] at hx4
  have hk : z = k := by
    have h5 : (DataW.lit (Lit.int .u8 z) : DataW Unit) = DataW.lit (Lit.int .u8 k) := hx4
    exact (Lit.int.inj (DataW.lit.inj h5)).2
  subst hk
  rw [World.var?_cell hg1 hv1 i]
  have hcl : cs1.toList[i]? = some (.int .u8 z) := by
    have := congrArg (·[0]?) e1
    simpa [List.getElem?_take, List.getElem?_drop] using this
  simpa using hcl

/-- The beginning: the table alone. -/
def hTab : H := ⟨fun b => if b = 1 then some (.row (tab64.map fun n => .int .u8 n) 5 false) else none, 2, 0⟩

def ιTab : Nat → Emb := fun g => ⟨g, 0, 64, 1⟩

set_option maxRecDepth 100000 in
theorem rel_tab {W : World} (h : laidMetH Tryd.prog laidT W) : Rel Tryd.prog E0 ιTab hTab W := by
  have hc := of_laid h
  have h0 := hc 0 0 (by decide)
  have hsz : 1 < W.heap.size := by
    unfold World.cell? at h0
    split at h0
    · rename_i hb
      rcases Nat.lt_or_ge 1 W.heap.size with h1 | h1
      · exact h1
      · rw [Array.getElem?_eq_none h1] at hb; cases hb
    · cases h0
  have hrow : ∀ n, BlkR Tryd.prog ιTab n W 1 (.row (tab64.map fun n => .int .u8 n) 5 false) := by
    intro n
    refine ⟨hsz, sz5, fun i v hv => ?_⟩
    rw [List.getElem?_map] at hv
    obtain ⟨z, hz, rfl⟩ := Option.map_eq_some_iff.1 hv
    refine ⟨.int .u8 z, ?_, .int .u8 z⟩
    have := hc i z hz
    simpa [ιTab] using this
  refine ⟨fun b k hb => ?_, fun b k hb => ?_, fun b b' k k' hb _ _ ho => ?_, Nat.le_refl _, fun g _ => ⟨rfl, rfl⟩, fun g hg => ?_, fun g k hg hk => ?_⟩
  · simp only [hTab] at hb ⊢
    split at hb
    · omega
    · cases hb
  · simp only [hTab] at hb
    split at hb
    · rename_i h1
      subst h1
      cases hb
      exact hrow _
    · cases hb
  · simp only [hTab] at hb
    split at hb
    · cases hb; cases ho
    · cases hb
  · simp only [hTab, E0]
  · simp only [E0] at hk
    split at hk
    · rename_i h1
      subst h1
      cases hk
      exact ⟨rfl, hrow _⟩
    · cases hk

theorem ro_tab : ∀ b k, hTab.blk b = some k → k.own = false := by
  intro b k hb
  simp only [hTab] at hb
  split at hb
  · cases hb; rfl
  · cases hb

end Go.AM

end
