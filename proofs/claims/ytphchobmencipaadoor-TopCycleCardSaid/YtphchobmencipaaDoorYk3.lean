/- Parts of the proof, put together: what the functions of the program answer, and plain laws. -/
import Derived.Test.YtphchobmencipaaDoorAmMap
import Derived.Test.YtphchobmencipaaDoorAmQue
import Derived.Test.YtphchobmencipaaDoorYk2

section

/- Reduce: a town is reduced step by step. -/
namespace Go.AM
open Go.Proofs
variable {k : Nat} {R : Type}
attribute [local simp] eq lt le
/-- A town with a node less. -/
def doG (G : List Nat) (left v : Nat) : List Nat := if (nearL G left v).length = 2 then joinL G ((nearL G left v).getD 0 0) ((nearL G left v).getD 1 0) else G

theorem joinL_len (G : List Nat) (a b : Nat) : (joinL G a b).length = G.length := by simp [joinL]

theorem nb_lt_of {G : List Nat} {m i : Nat} (h : ∀ x ∈ G, x < 2 ^ m) : nb G i < 2 ^ m := by
  unfold nb
  rw [List.getD_eq_getElem?_getD]
  cases hc : G[i]? with
  | none => exact Nat.two_pow_pos _
  | some x => exact h x (List.mem_of_getElem? hc)

theorem joinL_lt {G : List Nat} {m a b : Nat} (h : ∀ x ∈ G, x < 2 ^ m) (ha : a < m) (hb : b < m) : ∀ x ∈ joinL G a b, x < 2 ^ m := by
  have h1 : ∀ x ∈ G.set a (nb G a ||| 2 ^ b), x < 2 ^ m := fun x hx => by
    rcases List.mem_or_eq_of_mem_set hx with h' | h'
    · exact h x h'
    · rw [h']; exact Nat.or_lt_two_pow (nb_lt_of h) (Nat.pow_lt_pow_right (by omega) hb)
  intro x hx
  unfold joinL at hx
  rcases List.mem_or_eq_of_mem_set hx with h' | h'
  · exact h1 x h'
  · rw [h']; exact Nat.or_lt_two_pow (nb_lt_of h1) (Nat.pow_lt_pow_right (by omega) ha)

theorem adj_joinL {G : List Nat} {a b u w : Nat} (ha : a < G.length) (hb : b < G.length) (hab : a ≠ b) : adj (joinL G a b) u w = (adj G u w || decide (u = a ∧ w = b) || decide (u = b ∧ w = a)) := by
  unfold adj joinL
  rw [nb_set (by simpa using hb), nb_set ha]
  by_cases h1 : u = b
  · subst h1
    rw [if_pos rfl, if_neg (Ne.symm hab), Nat.testBit_or, Nat.testBit_two_pow]
    have : decide (u = a ∧ w = u) = false := decide_eq_false fun h => hab h.1.symm
    rw [this, Bool.or_false]
    congr 1
    rw [decide_eq_decide]
    exact ⟨fun h => ⟨rfl, h.symm⟩, fun h => h.2.symm⟩
  · rw [if_neg h1, nb_set ha]
    have : decide (u = b ∧ w = a) = false := decide_eq_false fun h => h1 h.1
    rw [this, Bool.or_false]
    by_cases h2 : u = a
    · subst h2
      rw [if_pos rfl, Nat.testBit_or, Nat.testBit_two_pow]
      congr 1
      rw [decide_eq_decide]
      exact ⟨fun h => ⟨rfl, h.symm⟩, fun h => h.2.symm⟩
    · rw [if_neg h2]
      have : decide (u = a ∧ w = b) = false := decide_eq_false fun h => h2 h.1
      rw [this, Bool.or_false]

theorem near_mem {G : List Nat} {left v x : Nat} (hleft : left < 1024) : x ∈ nearL G left v ↔ adj G v x = true ∧ left.testBit x = true := by
  unfold nearL
  have h : nb G v &&& left < 1024 := Nat.lt_of_le_of_lt Nat.and_le_right hleft
  rw [mem_elts h, Nat.testBit_and, Bool.and_eq_true]
  rfl

theorem doG_ok {G : List Nat} {m left v : Nat} (hl : G.length = m) (h : ∀ x ∈ G, x < 2 ^ m) (hleft : left < 2 ^ m) (hm : m ≤ 10) : (doG G left v).length = m ∧ ∀ x ∈ doG G left v, x < 2 ^ m := by
  unfold doG
  split
  · rename_i h2
    have hleft' : left < 1024 := Nat.lt_of_lt_of_le hleft (Nat.pow_le_pow_right (n := 2) (by omega) hm)
    have mem : ∀ i, i < 2 → (nearL G left v).getD i 0 < m := fun i hi => bit_lt hleft ((near_mem hleft').1 (List.mem_of_getElem? (get_of (by omega)))).2
    exact ⟨by rw [joinL_len, hl], joinL_lt h (mem 0 (by omega)) (mem 1 (by omega))⟩
  · exact ⟨hl, h⟩

/-- Can a town be reduced? -/
def redF : Nat → List Nat → Nat → Bool
  | 0, _, left => decide (left = 0)
  | f + 1, G, left => if left = 0 then true else match (elts left).find? (fun v => decide ((nearL G left v).length ≤ 2)) with
    | none => false
    | some v => redF f (doG G left v) (without left (2 ^ v))

theorem s51 {rb gb : Nat} {tv : Value} {G : List Nat} {left v m : Nat} {h : H} (s : RS rb gb tv G left h) (hl : G.length = m) (hm : m ≤ 10) (hG : ∀ x ∈ G, x < 2 ^ m) (hleft : left < 2 ^ m) (hv : v < m) :
    ∃ h', rn 51 #[pt rb 0, stepV (nearL G left v) v] h = some (undef, h') ∧ RS rb gb tv (doG G left v) (without left (2 ^ v)) h' ∧ h.nx ≤ h'.nx ∧ ∀ q, q < h.nx → q ≠ rb → q ≠ gb → h'.blk q = h.blk q := by
  have hpow : 2 ^ m ≤ 1024 := Nat.pow_le_pow_right (n := 2) (by omega) hm
  have hG' : ∀ x ∈ G, x < 1024 := fun x hx => by have := hG x hx; omega
  have h2v : 2 ^ v < 2 ^ m := Nat.pow_lt_pow_right (by omega) hv
  obtain ⟨a, b, c, d, est, ea, eb, ecd⟩ := stepI_len (nearL G left v) v
  have hsv : stepV (nearL G left v) v = .agg #[iv a, iv b, iv c, iv d] := by unfold stepV; rw [est]; rfl
  let h1 := h.new (.row [iv a, iv b, iv c, iv d] 95 true)
  have x1 : Ext h h1 := Ext.new h _
  have s1 := s.ext x1
  have b1 : h1.blk h.nx = some (.row [iv a, iv b, iv c, iv d] 95 true) := blk_new_self _ _
  have hand : AM.andNot .i64 (left : Int) (AM.shl .i64 1 (v : Int)) = ((without left (2 ^ v) : Nat) : Int) := by
    rw [shl1_nat (by omega), andNot_nat (by omega) (by omega)]
  let h2 := h1.set rb (.row [tv, iv (without left (2 ^ v) : Nat)] 92 true)
  have hrl := s.lt
  have hgl := s.na.lt
  have hne := s.ne
  have hw : wrc 1 h1 rb 1 (iv (without left (2 ^ v) : Nat)) = some h2 := by rw [wrc_one s1.row rfl rfl (by simp)]; rfl
  have b2 : h2.blk h.nx = some (.row [iv a, iv b, iv c, iv d] 95 true) := by
    show (h1.set rb _).blk h.nx = _
    rw [blk_set_ne _ _ _ (by omega)]; exact b1
  have na2 : NA h2 gb tv G := s1.na.keep (Nat.le_refl _) (by show (h1.set rb _).blk gb = _; rw [blk_set_ne _ _ _ (Ne.symm hne)])
  have r2 : h2.blk rb = some (.row [tv, iv (without left (2 ^ v) : Nat)] 92 true) := blk_set_self _ _ _
  have k2 : ∀ q, q < h.nx → q ≠ rb → h2.blk q = h.blk q := fun q hq hqr => by
    show (h1.set rb _).blk q = _
    rw [blk_set_ne _ _ _ hqr]; exact x1.blk q hq
  have n2 : h2.nx = h.nx + 1 := rfl
  -- the end of it
  obtain ⟨h3, hf, na3, r3, k3, n3⟩ : ∃ h3, f51 rn 0 (pt rb 0) (stepV (nearL G left v) v) h = some (undef, h3) ∧ NA h3 gb tv (doG G left v) ∧ h3.blk rb = some (.row [tv, iv (without left (2 ^ v) : Nat)] 92 true) ∧ (∀ q, q < h.nx → q ≠ rb → q ≠ gb → h3.blk q = h.blk q) ∧ h.nx + 1 ≤ h3.nx := by
    rw [hsv]
    have head : f51 rn 0 (pt rb 0) (.agg #[iv a, iv b, iv c, iv d]) h = ifB (eq a 2) (calls rn h2 86 [tv, iv c, iv d] fun _ h3 => some (undef, h3)) (some (undef, h2)) := by
      unfold f51
      rw [bx_eq, show (Value.agg #[iv a, iv b, iv c, iv d]).cells.toList = [iv a, iv b, iv c, iv d] from rfl, show h.new (.row [iv a, iv b, iv c, iv d] 95 true) = h1 from rfl]
      simp only [nil_pt, asP_ptr, d3, d84, w3, nx_eq]
      rw [show AM.off 0 1 = 1 from rfl, show h1.cell rb 1 = some (iv left) by rw [cell_of s1.row]; rfl, Option.bind_some, asI_int, show h1.cell h.nx 1 = some (iv b) by rw [cell_of b1]; rfl, Option.bind_some, asI_int, eb, nn_ge (by omega), hand, hw, Option.bind_some, show h2.cell h.nx 0 = some (iv a) by rw [cell_of b2]; rfl, Option.bind_some, asI_int, show h2.cell rb 0 = some tv by rw [cell_of r2]; rfl]
      rw [show AM.off 0 2 = 2 from rfl, show h2.cell h.nx 2 = some (iv c) by rw [cell_of b2]; rfl, show AM.off 0 3 = 3 from rfl, show h2.cell h.nx 3 = some (iv d) by rw [cell_of b2]; rfl]
      simp only [Option.bind_some, asI_int]
    rw [head]
    unfold doG
    by_cases h2' : (nearL G left v).length = 2
    · obtain ⟨rfl, rfl⟩ := ecd h2'
      rw [if_pos h2', ea, h2', show AM.eq ((2 : Nat) : Int) 2 = true from rfl, ifB_true]
      have mem : ∀ i, i < 2 → (nearL G left v).getD i 0 < m := fun i hi => bit_lt hleft ((near_mem (by omega)).1 (List.mem_of_getElem? (get_of (by omega)))).2
      have m0 := mem 0 (by omega)
      have m1 := mem 1 (by omega)
      obtain ⟨h3, e3, na3, n3, k3⟩ := s86 na2 (i := (nearL G left v).getD 0 0) (j := (nearL G left v).getD 1 0) (by omega) (by omega) hG' (by omega) (by omega)
      refine ⟨h3, calls_eq (xs := [tv, _, _]) e3, na3, (k3 rb (by omega) hne).trans r2, fun q hq h1 h2 => (k3 q (by omega) h2).trans (k2 q hq h1), by omega⟩
    · rw [if_neg h2', show AM.eq a 2 = false by simp; omega, ifB_false]
      exact ⟨h2, rfl, na2, r2, fun q hq h1 _ => k2 q hq h1, by omega⟩
  obtain ⟨h4, e4, m4, _⟩ := x51 (k := 0) hf rfl
  refine ⟨h4, e4, ⟨?_, by rw [m4.blk]; exact r3, IA.ext na3 m4.ext⟩, by rw [m4.nx]; omega, fun q hq h1 h2 => by rw [m4.blk]; exact k3 q hq h1 h2⟩
  rw [m4.nx]; omega

theorem find_pos {p : Nat → Bool} : ∀ {L : List Nat} {i x : Nat}, L[i]? = some x → p x = true → (∀ j y, j < i → L[j]? = some y → p y = false) → L.find? p = some x
  | [], i, x, h, _, _ => by simp at h
  | y :: L, 0, x, h, hp, _ => by
    simp at h
    subst h
    rw [List.find?_cons_of_pos hp]
  | y :: L, i + 1, x, h, hp, hn => by
    have := hn 0 y (by omega) rfl
    rw [List.find?_cons_of_neg (by rw [this]; simp)]
    exact find_pos (i := i) (by simpa using h) hp fun j z hj hz => hn (j + 1) z (by omega) (by simpa using hz)

theorem s20 {v : Value} {g : List Nat} {h : H} (hg : GrN g) (h8 : g.length ≤ 8) (hs : SlR h 3 1 v (cellsN g)) : ∃ v' h', rn 20 #[v] h = some (.tuple #[v', iv (if redF 10 g (allN g) = true then 0 else 4)], h') ∧ Exw h h' := by
  have hlen := hg.len
  have hpow := hg.pow
  have hval : valid8 (g.map Int.ofNat) = true := by unfold valid8; rw [valid_of2 hg]; simp [h8]
  have e46 := s46 (v := v) (l := g.map Int.ofNat) (h := h) (by rw [cellsN_eq]; exact hs)
  rw [if_pos hval] at e46
  obtain ⟨rb, gb, tv, h2, e48, x2, hrb, hgb, rs⟩ := s48 hg hs
  have hrl := rs.lt
  have hgl := rs.na.lt
  generalize hm : g.length = m at *
  -- the outer loop
  obtain ⟨e, ws', h3, hl, n3, f3, hq⟩ := lpGo_inv (F := f20_l1 rn 2000 (pt rb 0))
    (fun d ws g' => h2.nx ≤ g'.nx ∧ (∀ q, q < h2.nx → q ≠ rb → q ≠ gb → g'.blk q = h2.blk q) ∧ ∃ G left f ov w1 w2 L, ws = [ov, w1, w2] ∧ RS rb gb tv G left g' ∧ AqR h2.nx g' 95 4 ov L ∧ L.length + pop left ≤ 20 ∧ d = pop left ∧ G.length = m ∧ (∀ x ∈ G, x < 2 ^ m) ∧ left < 2 ^ m ∧ pop left ≤ f ∧ redF f G left = redF 10 g (allN g))
    (fun e ws g' => h2.nx ≤ g'.nx ∧ (∀ q, q < h2.nx → q ≠ rb → q ≠ gb → g'.blk q = h2.blk q) ∧ ((e = .exit 0 ∧ redF 10 g (allN g) = true ∧ ∃ ov w1 w2 L, ws = [ov, w1, w2] ∧ AqR h2.nx g' 95 4 ov L) ∨ (e = .ret ∧ redF 10 g (allN g) = false ∧ ∃ w, ws = [w, .slice none 0 0, iv 4])))
    (by
      rintro d ws g1 ⟨n1, k1, G, left, f, ov, w1, w2, L, rfl, s, ap, hLp, rfl, hGl, hGx, hleft, hf, hred⟩
      have hleft' : left < 1024 := by omega
      have c1 : g1.cell rb 1 = some (iv left) := by rw [cell_of s.row]; rfl
      by_cases h0 : left = 0
      · refine ⟨.exit 0, [ov, w1, w2], g1, ?_, .inr ⟨by simp, n1, k1, .inl ⟨rfl, ?_, ov, w1, w2, L, rfl, ap⟩⟩⟩
        · unfold f20_l1
          rw [nil_pt, asP_ptr, d3, show AM.off 0 1 = 1 from rfl, c1, Option.bind_some, asI_int, h0]
          rfl
        · rw [← hred, h0]
          cases f <;> rfl
      · obtain ⟨f, rfl⟩ : ∃ f', f = f' + 1 := by
          have := pop_pos hleft' h0
          exact ⟨f - 1, by omega⟩
        obtain ⟨nv, g2, e49, x49, hnv, hqv⟩ := s49 hleft' g1
        have hnl : ∀ {T : Type} (K : Int → Option T), len nv K = K ((elts left).length : Int) := fun K => by rw [hnv.len]; simp
        have hpl : (elts left).length ≤ 10 := by rw [elts_len]; exact pop_le_n (Nat.le_refl 10) hleft'
        have hG' : ∀ x ∈ G, x < 1024 := fun x hx => by have := hGx x hx; omega
        -- the search for a node
        obtain ⟨e, ws', g3, hl', n3, k3, hq⟩ := lp_range (F := f20_l2 rn 2000 (pt rb 0) nv (elts left).length) (k := 2000) (n := (elts left).length)
          (fun i ws g' => ws = [ov, .bool false, iv i] ∧ Ext g2 g' ∧ ∀ j y, j < i → (elts left)[j]? = some y → decide ((nearL G left y).length ≤ 2) = false)
          (fun e ws g' => g2.nx ≤ g'.nx ∧ (∀ q, q < h2.nx → q ≠ rb → q ≠ gb → g'.blk q = g2.blk q) ∧ e = .exit 2 ∧ ((∃ w, ws = [ov, .bool false, w] ∧ (elts left).find? (fun v => decide ((nearL G left v).length ≤ 2)) = none) ∨
            (∃ ov' x w c, ws = [ov', .bool true, w] ∧ (elts left).find? (fun v => decide ((nearL G left v).length ≤ 2)) = some x ∧ left.testBit x = true ∧ RS rb gb tv (doG G left x) (without left (2 ^ x)) g' ∧ AqR h2.nx g' 95 4 ov' (L ++ [c]))))
          (by
            rintro i ws g' hi ⟨rfl, xg, hno⟩
            have hx := List.getElem?_eq_getElem hi
            generalize (elts left)[i] = x at hx
            have hxl := (mem_elts hleft').1 (List.mem_of_getElem? hx)
            have hxm : x < m := bit_lt hleft hxl
            have sg := s.ext (x49.toExt.trans xg)
            have hadd : add .i64 (i : Int) 1 = ((i + 1 : Nat) : Int) := by rw [add64 (by omega) (by omega)]; omega
            have e1 : ∀ (K : Value → Option (Ex × List Value × H)), (six nv (i : Int) 1 fun b o => ld Tryd.prog g' 3 b o K) = K (iv x) := fun K => by
              simp only [d3]
              exact (hnv.ext xg).c0 (by omega) (x := [iv x]) (by simp [hx]) rfl K
            have e50 := s50 (v := x) sg (by omega) hG' hleft' (by omega)
            obtain ⟨a, b, c, d, est, ea, eb, ecd⟩ := stepI_len (nearL G left x) x
            have hsv : stepV (nearL G left x) x = .agg #[iv a, iv b, iv c, iv d] := by unfold stepV; rw [est]; rfl
            let g4 := g'.fresh 95 [iv 0, iv 0, iv 0, iv 0] [iv a, iv b, iv c, iv d]
            have x4 : Ext g' g4 := (Ext.refl g').fresh 95 _ _
            have b4 : g4.blk g'.nx = some (.row [iv a, iv b, iv c, iv d] 95 true) := blk_fresh _ _ _ _
            have hal : ∀ (K : H → Option (Ex × List Value × H)), (al g' 95 [iv 0, iv 0, iv 0, iv 0] fun h3 => st Tryd.prog h3 95 g'.nx 0 (.agg #[iv a, iv b, iv c, iv d]) K) = K g4 := fun K => al_st (P := Tryd.prog) (h := g') (zs := [iv 0, iv 0, iv 0, iv 0]) (xs := [iv a, iv b, iv c, iv d]) (t := 95) (K := K) sz95 rfl rfl
            have xg4 := (x49.toExt.trans xg).trans x4
            have head : f20_l2 rn 2000 (pt rb 0) nv (elts left).length [ov, .bool false, iv i] g' = ifB (decide ((nearL G left x).length ≤ 2)) (
                ld Tryd.prog g4 95 g'.nx 0 fun v12 =>
                calls rn g4 51 [pt rb 0, v12] fun v13 h9 =>
                ld Tryd.prog h9 95 g'.nx 0 fun v14 =>
                bls Tryd.prog h9 39 1 [(0, v14)] fun v15 h10 =>
                app Tryd.prog h10 39 39 ov v15 fun v16 h11 =>
                out (.exit 2) [v16, (.bool true), iv i] h11) (out .normal [ov, .bool false, iv ((i + 1 : Nat) : Int)] g4) := by
              unfold f20_l2
              rw [show gv [ov, Value.bool false, iv (i : Int)] 2 = iv i from rfl, asI_int, lt_t (by omega), ifB_true, asK_int, e1, asI_int, calls_eq (xs := [pt rb 0, iv x]) e50, ext20, ext21, asB_bool, hsv]
              simp only [nx_eq]
              rw [hal, asI_int, hadd]
              rfl
            rw [head]
            by_cases hle : (nearL G left x).length ≤ 2
            · rw [decide_eq_true hle, ifB_true]
              obtain ⟨h9, e51, s9, n9, k9⟩ := s51 (sg.ext x4) hGl (by omega) hGx hleft hxm
              rw [hsv] at e51
              have hgr := sg.lt
              have hgg := sg.na.lt
              have b9 : h9.blk g'.nx = some (.row [iv a, iv b, iv c, iv d] 95 true) := (k9 g'.nx (Nat.lt_succ_self _) (by omega) (by omega)).trans b4
              have ap9 : AqR h2.nx h9 95 4 ov L := (ap.ext xg4).keep n9 fun q hq => by
                obtain ⟨q1, q2, _⟩ := (ap.ext xg4).blkOf hq
                exact k9 q q2 (by omega) (by omega)
              obtain ⟨v16, h11, e16, a16, n16, k16, _⟩ := ap9.push app39 app39 (bls39 a b c d) rfl rfl (by omega) (by have := xg4.nx; omega)
              have hd9 : ∀ b, blkOf ov = some b → h2.nx ≤ b := fun b hb => (ap9.blkOf hb).1
              refine ⟨.exit 2, [v16, .bool true, iv i], h11, ?_, .inr ⟨by simp, by have := xg.nx; have := x4.nx; omega, fun q hq h1 h2' => ?_, rfl, .inr ⟨v16, x, iv i, _, rfl, find_pos hx (decide_eq_true hle) hno, hxl, ?_, a16⟩⟩⟩
              · rw [d95, rd_all (n := 4) b4 rfl, Option.bind_some]
                refine (calls_eq (xs := [pt rb 0, .agg #[iv a, iv b, iv c, iv d]]) e51).trans ?_
                rw [d95, rd_all (n := 4) b9 rfl, Option.bind_some]
                exact e16 _
              · have q1 := x49.nx
                have q2 := xg.nx
                have q3 := x4.nx
                rw [k16 q (by omega) (fun e => by have := hd9 _ e; omega), k9 q (by omega) h1 h2', x4.blk q (by omega), xg.blk q (by omega)]
              · have q1 := s9.lt
                have q2 := s9.na.lt
                refine ⟨by omega, (k16 rb q1 (fun e => by have := hd9 _ e; omega)).trans s9.row, s9.na.keep n16 (k16 gb q2 (fun e => by have := hd9 _ e; omega))⟩
            · rw [decide_eq_false hle, ifB_false]
              refine ⟨.normal, _, g4, rfl, .inl ⟨rfl, rfl, xg.trans x4, fun j y hj hy => ?_⟩⟩
              by_cases hji : j < i
              · exact hno j y hji hy
              · have : j = i := by omega
                subst this
                rw [hx] at hy
                cases hy
                exact decide_eq_false hle)
          (by
            rintro ws g' ⟨rfl, xg, hno⟩
            refine ⟨.exit 2, [ov, .bool false, iv (elts left).length], g', ?_, by simp, xg.nx, fun q hq _ _ => xg.blk q (by have := x49.nx; omega), rfl, .inl ⟨_, rfl, ?_⟩⟩
            · unfold f20_l2
              rw [show gv [ov, Value.bool false, iv ((elts left).length : Int)] 2 = iv (elts left).length from rfl, asI_int, lt_f (by omega), ifB_false]
              rfl
            · rw [List.find?_eq_none]
              intro y hy
              obtain ⟨j, hj⟩ := List.mem_iff_getElem?.1 hy
              rw [hno j y (List.getElem?_eq_some_iff.1 hj).1 hj]
              simp)
          (ws := [ov, .bool false, iv 0]) (h := g2) (by omega) ⟨rfl, .refl _, fun j y hj => by omega⟩
        obtain ⟨rfl, hq⟩ := hq
        have x49n := x49.nx
        have fr : ∀ q, q < h2.nx → q ≠ rb → q ≠ gb → g3.blk q = h2.blk q := fun q hq h1 h2' => by rw [k3 q hq h1 h2', x49.toExt.blk q (by omega), k1 q hq h1 h2']
        have head : f20_l1 rn 2000 (pt rb 0) [ov, w1, w2] g1 = asB (gv ws' 1) fun q2 => ifB (not q2) (out .ret [gv ws' 0, .slice none 0 0, iv 4] g3) (out .normal [gv ws' 0, w1, w2] g3) := by
          unfold f20_l1
          simp only [nil_pt, asP_ptr, d3]
          rw [show AM.off 0 1 = 1 from rfl, c1, Option.bind_some, asI_int, show AM.eq (left : Int) 0 = false by simp; omega, show (!false) = true from rfl, ifB_true, Option.bind_some, asI_int, calls_eq (xs := [iv left]) e49, hnl, show gv [ov, w1, w2] 0 = ov from rfl, lp_eq hl', onE_exit, if_pos rfl]
          rfl
        rw [head]
        rcases hq with ⟨w, rfl, hfn⟩ | ⟨ov', x, w, c, rfl, hfs, hxl, s3, a3⟩
        · refine ⟨.ret, [ov, .slice none 0 0, iv 4], g3, by rw [show gv [ov, Value.bool false, w] 1 = .bool false from rfl, asB_bool]; rfl, .inr ⟨by simp, by omega, fr, .inr ⟨rfl, ?_, _, rfl⟩⟩⟩
          rw [← hred]
          show (if left = 0 then true else _) = false
          rw [if_neg h0, hfn]
        · have hplt : pop (without left (2 ^ x)) < pop left := pop_lt hleft' (fun j hj => (bit_del.1 hj).1) hxl (by
            rw [Bool.eq_false_iff]; intro h; exact (bit_del.1 h).2 rfl)
          obtain ⟨q1, q2⟩ := doG_ok (v := x) hGl hGx hleft (by omega)
          refine ⟨.normal, [ov', w1, w2], g3, by rw [show gv [ov', Value.bool true, w] 1 = .bool true from rfl, asB_bool]; rfl, .inl ⟨rfl, _, hplt, by omega, fr, doG G left x, without left (2 ^ x), f, ov', w1, w2, L ++ [c], rfl, s3, a3, by simp; omega, rfl, q1, q2, without_lt hleft, by omega, ?_⟩⟩
          rw [← hred]
          show _ = (if left = 0 then true else _)
          rw [if_neg h0, hfs])
    (pop (allN g)) 2000 (by have := pop_le_n (Nat.le_refl 10) (show allN g < 2 ^ 10 by have := allN_lt g; rw [hm] at this; omega); omega) (ws := [.slice none 0 0, .slice none 0 0, iv 0]) (h := h2)
    ⟨Nat.le_refl _, fun _ _ _ _ => rfl, g, allN g, 10, _, _, _, [], rfl, rs, .nil, by have := pop_le_n (Nat.le_refl 10) (show allN g < 2 ^ 10 by have := allN_lt g; rw [hm] at this; omega); simp; omega, rfl, hm, fun x hx => by rw [← hm]; exact hg.lt x hx, by rw [← hm]; exact allN_lt g, pop_le_n (Nat.le_refl 10) (show allN g < 2 ^ 10 by have := allN_lt g; rw [hm] at this; omega), rfl⟩
  have x3 : Ext h h3 := ⟨by have := x2.nx; omega, fun b hb => by
    rw [f3 b (by have := x2.nx; omega) (by omega) (by omega)]
    exact x2.toExt.blk b hb⟩
  have head : f20 rn 2000 v h = onE e 0 (some ((.tuple #[gv ws' 0, (.int .i64 0)]), h3)) (onR e (some ((.tuple #[gv ws' 1, gv ws' 2]), h3))) := by
    unfold f20
    rw [calls_eq (xs := [v, iv 8]) e46, ext20, ext21, asB_bool, show (!true) = false from rfl, ifB_false, calls_eq (xs := [v]) e48, lp_eq hl]
  rcases hq with ⟨rfl, hr, ov, w1, w2, L, rfl, ap⟩ | ⟨rfl, hr, w, rfl⟩
  · obtain ⟨h6, e6, m6, w6⟩ := x20 (k := 2000) (v0 := v) (h := h) (h1 := h3) (v := .tuple #[ov, iv 0]) (by rw [head, onE_exit, if_pos rfl]; rfl) ap.slR.notR2
    rw [hr]
    exact ⟨ov, h6, e6, w6 x3⟩
  · obtain ⟨h6, e6, m6, w6⟩ := x20 (k := 2000) (v0 := v) (h := h) (h1 := h3) (v := .tuple #[.slice none 0 0, iv 4]) (by rw [head, onE_ret, onR_ret]; rfl) rfl
    rw [hr]
    exact ⟨_, h6, e6, w6 x3⟩

end Go.AM

end

section

/- Law 4: a connected graph of at least four nodes without cut nodes, and without pairs that part it, has K(4) as a minor, and cannot be reduced. -/
namespace Go.AM
open Go.Proofs
variable {k : Nat} {R : Type}
attribute [local simp] eq lt le
/-! ### Reducing -/
theorem near_count {G : List Nat} {left v : Nat} {l : List Nat} (hleft : left < 1024) (hn : l.Nodup) (hm : ∀ i, i ∈ l ↔ left.testBit i = true) : (nearL G left v).length = l.countP (adj G v) := by
  rw [List.countP_eq_length_filter]
  refine len_eq_of (elts_nodup _) (hn.filter _) fun x => ?_
  rw [near_mem hleft, List.mem_filter, hm, and_comm]

theorem nx_congr {a b : Ad} {l : List Nat} (h : ∀ u ∈ l, ∀ w ∈ l, a u w = b u w) (hx : NX a l) : NX b l := by
  intro p q r s hs h1 h2
  have hm : ∀ x ∈ [p, q, r, s], x ∈ l := fun x hx => hs.subset hx
  exact hx p q r s hs (by rw [h p (hm p (by simp)) r (hm r (by simp))]; exact h1) (by rw [h q (hm q (by simp)) s (hm s (by simp))]; exact h2)

theorem two_of_len {L : List Nat} (h : L.length = 2) (hn : L.Nodup) : ∃ a b, L = [a, b] ∧ a ≠ b := by
  match L, h with
  | [a, b], _ => exact ⟨a, b, rfl, by simpa using hn⟩

theorem doG_adj {G : List Nat} {m left v : Nat} (hl : G.length = m) (hm : m ≤ 10) (hleft : left < 2 ^ m) (hle : (nearL G left v).length ≤ 2) : ∀ u w, left.testBit u = true → left.testBit w = true → adj (doG G left v) u w = elim (adj G) v u w := by
  have hleft' : left < 1024 := Nat.lt_of_lt_of_le hleft (Nat.pow_le_pow_right (n := 2) (by omega) hm)
  intro u w hu hw
  unfold doG elim
  have hnd : (nearL G left v).Nodup := elts_nodup _
  by_cases h2 : (nearL G left v).length = 2
  · obtain ⟨a, b, hab, hne⟩ := two_of_len h2 hnd
    have mem : ∀ x, left.testBit x = true → (adj G v x = true ↔ x = a ∨ x = b) := by
      intro x hx
      have := near_mem (G := G) (v := v) (x := x) hleft'
      rw [hab] at this
      simp only [List.mem_cons, List.not_mem_nil, or_false] at this
      rw [this]
      exact ⟨fun h => ⟨h, hx⟩, fun h => h.1⟩
    have inl : ∀ x, x ∈ nearL G left v → x < G.length := fun x hx => by rw [hl]; exact bit_lt hleft ((near_mem hleft').1 hx).2
    rw [if_pos h2, hab]
    show adj (joinL G a b) u w = _
    rw [adj_joinL (inl a (by rw [hab]; simp)) (inl b (by rw [hab]; simp)) hne, Bool.or_assoc]
    congr 1
    rw [Bool.eq_iff_iff]
    simp only [Bool.or_eq_true, Bool.and_eq_true, decide_eq_true_iff]
    rw [mem u hu, mem w hw]
    constructor
    · rintro (⟨rfl, rfl⟩ | ⟨rfl, rfl⟩)
      · exact ⟨hne, .inl rfl, .inr rfl⟩
      · exact ⟨Ne.symm hne, .inr rfl, .inl rfl⟩
    · rintro ⟨h1, h3 | h3, h4 | h4⟩
      · exact absurd (h3.trans h4.symm) h1
      · exact .inl ⟨h3, h4⟩
      · exact .inr ⟨h3, h4⟩
      · exact absurd (h3.trans h4.symm) h1
  · rw [if_neg h2]
    have : (decide (u ≠ w) && (adj G v u && adj G v w)) = false := by
      rw [Bool.eq_false_iff]
      intro h
      simp only [Bool.and_eq_true, decide_eq_true_iff] at h
      have := len_sub (l := [u, w]) (m := nearL G left v) (by simp [h.1]) fun x hx => by
        simp only [List.mem_cons, List.not_mem_nil, or_false] at hx
        rcases hx with rfl | rfl
        · exact (near_mem hleft').2 ⟨h.2.1, hu⟩
        · exact (near_mem hleft').2 ⟨h.2.2, hw⟩
      simp at this
      omega
    rw [this, Bool.or_false]

theorem doG_sym {G : List Nat} {m left v : Nat} (hs : Sym (adj G)) (hl : G.length = m) (hm : m ≤ 10) (hleft : left < 2 ^ m) : Sym (adj (doG G left v)) := by
  have hleft' : left < 1024 := Nat.lt_of_lt_of_le hleft (Nat.pow_le_pow_right (n := 2) (by omega) hm)
  unfold doG
  split
  · rename_i h2
    obtain ⟨a, b, hab, hne⟩ := two_of_len h2 (elts_nodup _)
    have inl : ∀ x, x ∈ nearL G left v → x < G.length := fun x hx => by rw [hl]; exact bit_lt hleft ((near_mem hleft').1 hx).2
    have ha := inl a (by rw [hab]; simp)
    have hb := inl b (by rw [hab]; simp)
    rw [hab]
    show Sym (adj (joinL G a b))
    refine ⟨fun u w => ?_, fun u => ?_⟩
    · rw [adj_joinL ha hb hne, adj_joinL ha hb hne, hs.sym u w, Bool.or_assoc, Bool.or_assoc]
      congr 1
      rw [Bool.or_comm]
      congr 1 <;> rw [decide_eq_decide] <;> exact and_comm
    · rw [adj_joinL ha hb hne, hs.irr]
      rw [decide_eq_false (fun h : u = a ∧ u = b => hne (h.1.symm.trans h.2)), decide_eq_false (fun h : u = b ∧ u = a => hne (h.2.symm.trans h.1))]
      rfl
  · exact hs

/-- Where there is an outer order a town can be reduced. -/
theorem red_out {m : Nat} (hm : m ≤ 10) : ∀ (f : Nat) (G : List Nat) (left : Nat) (l : List Nat), pop left ≤ f → G.length = m → (∀ x ∈ G, x < 2 ^ m) → Sym (adj G) → left < 2 ^ m → l.Nodup → (∀ i, i ∈ l ↔ left.testBit i = true) → NX (adj G) l → redF f G left = true := by
  intro f
  induction f with
  | zero =>
    intro G left l hp hl hx hs hleft hn hml hnx
    have hleft' : left < 1024 := Nat.lt_of_lt_of_le hleft (Nat.pow_le_pow_right (n := 2) (by omega) hm)
    exact decide_eq_true (pop_zero' hleft' (by omega))
  | succ f ih =>
    intro G left l hp hl hx hs hleft hn hml hnx
    have hleft' : left < 1024 := Nat.lt_of_lt_of_le hleft (Nat.pow_le_pow_right (n := 2) (by omega) hm)
    show (if left = 0 then true else _) = true
    by_cases h0 : left = 0
    · rw [if_pos h0]
    · rw [if_neg h0]
      have hlne : l ≠ [] := by
        rintro rfl
        have := (hml _).2 (low_bit (Nat.pos_of_ne_zero h0) hleft')
        simp at this
      obtain ⟨v0, hv0, hc0⟩ := hnx.small hs hn hlne
      cases hf : (elts left).find? (fun v => decide ((nearL G left v).length ≤ 2)) with
      | none =>
        rw [List.find?_eq_none] at hf
        have := hf v0 ((mem_elts hleft').2 ((hml v0).1 hv0))
        rw [near_count hleft' hn hml] at this
        simp at this
        omega
      | some v =>
        have hv := List.mem_of_find?_eq_some hf
        have hvp := List.find?_some hf
        have hle : (nearL G left v).length ≤ 2 := by simpa using hvp
        have hvl := (mem_elts hleft').1 hv
        obtain ⟨l1, l2, rfl⟩ := List.append_of_mem ((hml v).2 hvl)
        have hsl : (l1 ++ l2).Sublist (l1 ++ v :: l2) := List.Sublist.append_left (List.sublist_cons_self v l2) l1
        have hel := NX.elim hs hn hnx (by rw [← near_count hleft' hn hml]; exact hle)
        have hml' : ∀ i, i ∈ l1 ++ l2 ↔ (without left (2 ^ v)).testBit i = true := by
          intro i
          rw [bit_del, ← hml]
          have hnv : v ∉ l1 ++ l2 := by
            have := (List.perm_middle (a := v) (l₁ := l1) (l₂ := l2)).nodup_iff.1 hn
            exact (List.nodup_cons.1 this).1
          simp only [List.mem_append, List.mem_cons] at *
          constructor
          · intro h
            exact ⟨h.elim .inl (fun h => .inr (.inr h)), fun e => hnv (e ▸ h)⟩
          · rintro ⟨h | h | h, hne⟩
            · exact .inl h
            · exact absurd h hne
            · exact .inr h
        obtain ⟨q1, q2⟩ := doG_ok (v := v) hl hx hleft hm
        have hplt : pop (without left (2 ^ v)) < pop left := pop_lt hleft' (fun j hj => (bit_del.1 hj).1) hvl (by
          rw [Bool.eq_false_iff]; intro h; exact (bit_del.1 h).2 rfl)
        refine ih _ _ (l1 ++ l2) (by omega) q1 q2 (doG_sym hs hl hm hleft) (without_lt hleft) (hn.sublist hsl) hml' (nx_congr (fun u hu w hw => ?_) hel)
        rw [doG_adj hl hm hleft hle u w ((hml u).1 (hsl.subset hu)) ((hml w).1 (hsl.subset hw))]

/-! ### Three-connected graphs -/
end Go.AM

end

section

/- The staged forms of functions 54, and what calls of these answer. -/
namespace Go.AM
open Go.Proofs
noncomputable def f33_l2 (rec : Rec) (_k : Nat) (v3 : Value) (ws0 : List Value) (v6 : Value) (n9 : Int) (ws1 : List Value) (h4 : H) : Option (Ex × List Value × H) :=
  asI .i64 (gv ws1 3) fun n10 =>
  ifB (lt n10 n9) (
    asK (gv ws1 3) fun n11 =>
    six v6 n11 1 fun b6 b7 =>
    ld Tryd.prog h4 3 b6 b7 fun v9 =>
    asI .i64 v9 fun n12 =>
    calls rec h4 68 [v3, (.int .i64 n12)] fun v10 h5 =>
    asB v10 fun q1 =>
    ifB (not q1) (
      out .ret [(.bool false), (.int .i64 0), gv ws1 2, gv ws1 3] h5) (
      asI .i64 (gv ws1 3) fun n13 =>
      ifB (lt 0 n13) (
        asI .i64 (gv ws1 3) fun n14 =>
        six v6 (sub .i64 n14 1) 1 fun b8 b9 =>
        ld Tryd.prog h5 3 b8 b9 fun v11 =>
        asI .i64 v11 fun n15 =>
        calls rec h5 71 [gv ws1 2, (.int .i64 n15), (.int .i64 n12)] fun v12 h6 =>
        asB v12 fun q2 =>
        ifB (not q2) (
          out .ret [(.bool false), (.int .i64 0), gv ws1 2, gv ws1 3] h6) (
          asI .i64 (gv ws1 3) fun n16 =>
          ifB (lt 0 n16) (
            asI .i64 (gv ws1 3) fun n17 =>
            six v6 (sub .i64 n17 1) 1 fun b10 b11 =>
            ld Tryd.prog h6 3 b10 b11 fun v13 =>
            asI .i64 v13 fun n18 =>
            bld Tryd.prog 83 [(0, (.int .i64 n18)), (1, (.int .i64 n12))] fun v14 =>
            calls rec h6 76 [gv ws1 2, v14] fun v15 h7 =>
            asI .i64 (gv ws1 3) fun n19 =>
            ifB (eq n19 0) (
              sli Tryd.prog h7 66 v6 none (some (gv ws1 3)) none fun v16 =>
              calls rec h7 80 [v16, (.int .i64 n12)] fun v17 h8 =>
              asB v17 fun q3 =>
              ifB q3 (
                asI .i64 (gv ws0 4) fun n20 =>
                ifB (lt 0 n20) (
                  out .ret [(.bool false), (.int .i64 0), v15, gv ws1 3] h8) (
                  len v6 fun n21 =>
                  asI .i64 (gv ws1 3) fun n22 =>
                  ifB (lt n22 (sub .i64 n21 1)) (
                    out .ret [(.bool false), (.int .i64 0), v15, gv ws1 3] h8) (
                    asI .i64 (gv ws0 4) fun n23 =>
                    ifB (lt 0 n23) (
                      asI .i64 (gv ws0 3) fun n24 =>
                      nn n12 (
                        eqv Tryd.prog 4 (.bool (eq (and .i64 (shr .i64 n24 n12) 1) 1)) (.bool true) fun q4 =>
                        ifB (not q4) (
                          out .ret [(.bool false), (.int .i64 0), v15, gv ws1 3] h8) (
                          asI .i64 (gv ws1 3) fun n25 =>
                          out .normal [gv ws1 0, gv ws1 1, v15, (.int .i64 (add .i64 n25 1))] h8))) (
                      asI .i64 (gv ws1 3) fun n26 =>
                      out .normal [gv ws1 0, gv ws1 1, v15, (.int .i64 (add .i64 n26 1))] h8)))) (
                asI .i64 (gv ws0 4) fun n27 =>
                ifB (lt 0 n27) (
                  asI .i64 (gv ws0 3) fun n28 =>
                  nn n12 (
                    eqv Tryd.prog 4 (.bool (eq (and .i64 (shr .i64 n28 n12) 1) 1)) (.bool true) fun q5 =>
                    ifB (not q5) (
                      out .ret [(.bool false), (.int .i64 0), v15, gv ws1 3] h8) (
                      asI .i64 (gv ws1 3) fun n29 =>
                      out .normal [gv ws1 0, gv ws1 1, v15, (.int .i64 (add .i64 n29 1))] h8))) (
                  asI .i64 (gv ws1 3) fun n30 =>
                  out .normal [gv ws1 0, gv ws1 1, v15, (.int .i64 (add .i64 n30 1))] h8))) (
              len v6 fun n31 =>
              asI .i64 (gv ws1 3) fun n32 =>
              sli Tryd.prog h7 66 v6 none (some (gv ws1 3)) none fun v18 =>
              calls rec h7 80 [v18, (.int .i64 n12)] fun v19 h9 =>
              asB v19 fun q6 =>
              ifB q6 (
                asI .i64 (gv ws0 4) fun n33 =>
                ifB (lt 0 n33) (
                  out .ret [(.bool false), (.int .i64 0), v15, gv ws1 3] h9) (
                  len v6 fun n34 =>
                  asI .i64 (gv ws1 3) fun n35 =>
                  ifB (lt n35 (sub .i64 n34 1)) (
                    out .ret [(.bool false), (.int .i64 0), v15, gv ws1 3] h9) (
                    asI .i64 (gv ws0 4) fun n36 =>
                    ifB (lt 0 n36) (
                      asI .i64 (gv ws0 3) fun n37 =>
                      nn n12 (
                        eqv Tryd.prog 4 (.bool (eq (and .i64 (shr .i64 n37 n12) 1) 1)) (.bool (eq n32 (sub .i64 n31 1))) fun q7 =>
                        ifB (not q7) (
                          out .ret [(.bool false), (.int .i64 0), v15, gv ws1 3] h9) (
                          asI .i64 (gv ws1 3) fun n38 =>
                          out .normal [gv ws1 0, gv ws1 1, v15, (.int .i64 (add .i64 n38 1))] h9))) (
                      asI .i64 (gv ws1 3) fun n39 =>
                      out .normal [gv ws1 0, gv ws1 1, v15, (.int .i64 (add .i64 n39 1))] h9)))) (
                asI .i64 (gv ws0 4) fun n40 =>
                ifB (lt 0 n40) (
                  asI .i64 (gv ws0 3) fun n41 =>
                  nn n12 (
                    eqv Tryd.prog 4 (.bool (eq (and .i64 (shr .i64 n41 n12) 1) 1)) (.bool (eq n32 (sub .i64 n31 1))) fun q8 =>
                    ifB (not q8) (
                      out .ret [(.bool false), (.int .i64 0), v15, gv ws1 3] h9) (
                      asI .i64 (gv ws1 3) fun n42 =>
                      out .normal [gv ws1 0, gv ws1 1, v15, (.int .i64 (add .i64 n42 1))] h9))) (
                  asI .i64 (gv ws1 3) fun n43 =>
                  out .normal [gv ws1 0, gv ws1 1, v15, (.int .i64 (add .i64 n43 1))] h9)))) (
            asI .i64 (gv ws1 3) fun n44 =>
            ifB (eq n44 0) (
              sli Tryd.prog h6 66 v6 none (some (gv ws1 3)) none fun v20 =>
              calls rec h6 80 [v20, (.int .i64 n12)] fun v21 h10 =>
              asB v21 fun q9 =>
              ifB q9 (
                asI .i64 (gv ws0 4) fun n45 =>
                ifB (lt 0 n45) (
                  out .ret [(.bool false), (.int .i64 0), gv ws1 2, gv ws1 3] h10) (
                  len v6 fun n46 =>
                  asI .i64 (gv ws1 3) fun n47 =>
                  ifB (lt n47 (sub .i64 n46 1)) (
                    out .ret [(.bool false), (.int .i64 0), gv ws1 2, gv ws1 3] h10) (
                    asI .i64 (gv ws0 4) fun n48 =>
                    ifB (lt 0 n48) (
                      asI .i64 (gv ws0 3) fun n49 =>
                      nn n12 (
                        eqv Tryd.prog 4 (.bool (eq (and .i64 (shr .i64 n49 n12) 1) 1)) (.bool true) fun q10 =>
                        ifB (not q10) (
                          out .ret [(.bool false), (.int .i64 0), gv ws1 2, gv ws1 3] h10) (
                          asI .i64 (gv ws1 3) fun n50 =>
                          out .normal [gv ws1 0, gv ws1 1, gv ws1 2, (.int .i64 (add .i64 n50 1))] h10))) (
                      asI .i64 (gv ws1 3) fun n51 =>
                      out .normal [gv ws1 0, gv ws1 1, gv ws1 2, (.int .i64 (add .i64 n51 1))] h10)))) (
                asI .i64 (gv ws0 4) fun n52 =>
                ifB (lt 0 n52) (
                  asI .i64 (gv ws0 3) fun n53 =>
                  nn n12 (
                    eqv Tryd.prog 4 (.bool (eq (and .i64 (shr .i64 n53 n12) 1) 1)) (.bool true) fun q11 =>
                    ifB (not q11) (
                      out .ret [(.bool false), (.int .i64 0), gv ws1 2, gv ws1 3] h10) (
                      asI .i64 (gv ws1 3) fun n54 =>
                      out .normal [gv ws1 0, gv ws1 1, gv ws1 2, (.int .i64 (add .i64 n54 1))] h10))) (
                  asI .i64 (gv ws1 3) fun n55 =>
                  out .normal [gv ws1 0, gv ws1 1, gv ws1 2, (.int .i64 (add .i64 n55 1))] h10))) (
              len v6 fun n56 =>
              asI .i64 (gv ws1 3) fun n57 =>
              sli Tryd.prog h6 66 v6 none (some (gv ws1 3)) none fun v22 =>
              calls rec h6 80 [v22, (.int .i64 n12)] fun v23 h11 =>
              asB v23 fun q12 =>
              ifB q12 (
                asI .i64 (gv ws0 4) fun n58 =>
                ifB (lt 0 n58) (
                  out .ret [(.bool false), (.int .i64 0), gv ws1 2, gv ws1 3] h11) (
                  len v6 fun n59 =>
                  asI .i64 (gv ws1 3) fun n60 =>
                  ifB (lt n60 (sub .i64 n59 1)) (
                    out .ret [(.bool false), (.int .i64 0), gv ws1 2, gv ws1 3] h11) (
                    asI .i64 (gv ws0 4) fun n61 =>
                    ifB (lt 0 n61) (
                      asI .i64 (gv ws0 3) fun n62 =>
                      nn n12 (
                        eqv Tryd.prog 4 (.bool (eq (and .i64 (shr .i64 n62 n12) 1) 1)) (.bool (eq n57 (sub .i64 n56 1))) fun q13 =>
                        ifB (not q13) (
                          out .ret [(.bool false), (.int .i64 0), gv ws1 2, gv ws1 3] h11) (
                          asI .i64 (gv ws1 3) fun n63 =>
                          out .normal [gv ws1 0, gv ws1 1, gv ws1 2, (.int .i64 (add .i64 n63 1))] h11))) (
                      asI .i64 (gv ws1 3) fun n64 =>
                      out .normal [gv ws1 0, gv ws1 1, gv ws1 2, (.int .i64 (add .i64 n64 1))] h11)))) (
                asI .i64 (gv ws0 4) fun n65 =>
                ifB (lt 0 n65) (
                  asI .i64 (gv ws0 3) fun n66 =>
                  nn n12 (
                    eqv Tryd.prog 4 (.bool (eq (and .i64 (shr .i64 n66 n12) 1) 1)) (.bool (eq n57 (sub .i64 n56 1))) fun q14 =>
                    ifB (not q14) (
                      out .ret [(.bool false), (.int .i64 0), gv ws1 2, gv ws1 3] h11) (
                      asI .i64 (gv ws1 3) fun n67 =>
                      out .normal [gv ws1 0, gv ws1 1, gv ws1 2, (.int .i64 (add .i64 n67 1))] h11))) (
                  asI .i64 (gv ws1 3) fun n68 =>
                  out .normal [gv ws1 0, gv ws1 1, gv ws1 2, (.int .i64 (add .i64 n68 1))] h11)))))) (
        asI .i64 (gv ws1 3) fun n69 =>
        ifB (lt 0 n69) (
          asI .i64 (gv ws1 3) fun n70 =>
          six v6 (sub .i64 n70 1) 1 fun b12 b13 =>
          ld Tryd.prog h5 3 b12 b13 fun v24 =>
          asI .i64 v24 fun n71 =>
          bld Tryd.prog 83 [(0, (.int .i64 n71)), (1, (.int .i64 n12))] fun v25 =>
          calls rec h5 76 [gv ws1 2, v25] fun v26 h12 =>
          asI .i64 (gv ws1 3) fun n72 =>
          ifB (eq n72 0) (
            sli Tryd.prog h12 66 v6 none (some (gv ws1 3)) none fun v27 =>
            calls rec h12 80 [v27, (.int .i64 n12)] fun v28 h13 =>
            asB v28 fun q15 =>
            ifB q15 (
              asI .i64 (gv ws0 4) fun n73 =>
              ifB (lt 0 n73) (
                out .ret [(.bool false), (.int .i64 0), v26, gv ws1 3] h13) (
                len v6 fun n74 =>
                asI .i64 (gv ws1 3) fun n75 =>
                ifB (lt n75 (sub .i64 n74 1)) (
                  out .ret [(.bool false), (.int .i64 0), v26, gv ws1 3] h13) (
                  asI .i64 (gv ws0 4) fun n76 =>
                  ifB (lt 0 n76) (
                    asI .i64 (gv ws0 3) fun n77 =>
                    nn n12 (
                      eqv Tryd.prog 4 (.bool (eq (and .i64 (shr .i64 n77 n12) 1) 1)) (.bool true) fun q16 =>
                      ifB (not q16) (
                        out .ret [(.bool false), (.int .i64 0), v26, gv ws1 3] h13) (
                        asI .i64 (gv ws1 3) fun n78 =>
                        out .normal [gv ws1 0, gv ws1 1, v26, (.int .i64 (add .i64 n78 1))] h13))) (
                    asI .i64 (gv ws1 3) fun n79 =>
                    out .normal [gv ws1 0, gv ws1 1, v26, (.int .i64 (add .i64 n79 1))] h13)))) (
              asI .i64 (gv ws0 4) fun n80 =>
              ifB (lt 0 n80) (
                asI .i64 (gv ws0 3) fun n81 =>
                nn n12 (
                  eqv Tryd.prog 4 (.bool (eq (and .i64 (shr .i64 n81 n12) 1) 1)) (.bool true) fun q17 =>
                  ifB (not q17) (
                    out .ret [(.bool false), (.int .i64 0), v26, gv ws1 3] h13) (
                    asI .i64 (gv ws1 3) fun n82 =>
                    out .normal [gv ws1 0, gv ws1 1, v26, (.int .i64 (add .i64 n82 1))] h13))) (
                asI .i64 (gv ws1 3) fun n83 =>
                out .normal [gv ws1 0, gv ws1 1, v26, (.int .i64 (add .i64 n83 1))] h13))) (
            len v6 fun n84 =>
            asI .i64 (gv ws1 3) fun n85 =>
            sli Tryd.prog h12 66 v6 none (some (gv ws1 3)) none fun v29 =>
            calls rec h12 80 [v29, (.int .i64 n12)] fun v30 h14 =>
            asB v30 fun q18 =>
            ifB q18 (
              asI .i64 (gv ws0 4) fun n86 =>
              ifB (lt 0 n86) (
                out .ret [(.bool false), (.int .i64 0), v26, gv ws1 3] h14) (
                len v6 fun n87 =>
                asI .i64 (gv ws1 3) fun n88 =>
                ifB (lt n88 (sub .i64 n87 1)) (
                  out .ret [(.bool false), (.int .i64 0), v26, gv ws1 3] h14) (
                  asI .i64 (gv ws0 4) fun n89 =>
                  ifB (lt 0 n89) (
                    asI .i64 (gv ws0 3) fun n90 =>
                    nn n12 (
                      eqv Tryd.prog 4 (.bool (eq (and .i64 (shr .i64 n90 n12) 1) 1)) (.bool (eq n85 (sub .i64 n84 1))) fun q19 =>
                      ifB (not q19) (
                        out .ret [(.bool false), (.int .i64 0), v26, gv ws1 3] h14) (
                        asI .i64 (gv ws1 3) fun n91 =>
                        out .normal [gv ws1 0, gv ws1 1, v26, (.int .i64 (add .i64 n91 1))] h14))) (
                    asI .i64 (gv ws1 3) fun n92 =>
                    out .normal [gv ws1 0, gv ws1 1, v26, (.int .i64 (add .i64 n92 1))] h14)))) (
              asI .i64 (gv ws0 4) fun n93 =>
              ifB (lt 0 n93) (
                asI .i64 (gv ws0 3) fun n94 =>
                nn n12 (
                  eqv Tryd.prog 4 (.bool (eq (and .i64 (shr .i64 n94 n12) 1) 1)) (.bool (eq n85 (sub .i64 n84 1))) fun q20 =>
                  ifB (not q20) (
                    out .ret [(.bool false), (.int .i64 0), v26, gv ws1 3] h14) (
                    asI .i64 (gv ws1 3) fun n95 =>
                    out .normal [gv ws1 0, gv ws1 1, v26, (.int .i64 (add .i64 n95 1))] h14))) (
                asI .i64 (gv ws1 3) fun n96 =>
                out .normal [gv ws1 0, gv ws1 1, v26, (.int .i64 (add .i64 n96 1))] h14)))) (
          asI .i64 (gv ws1 3) fun n97 =>
          ifB (eq n97 0) (
            sli Tryd.prog h5 66 v6 none (some (gv ws1 3)) none fun v31 =>
            calls rec h5 80 [v31, (.int .i64 n12)] fun v32 h15 =>
            asB v32 fun q21 =>
            ifB q21 (
              asI .i64 (gv ws0 4) fun n98 =>
              ifB (lt 0 n98) (
                out .ret [(.bool false), (.int .i64 0), gv ws1 2, gv ws1 3] h15) (
                len v6 fun n99 =>
                asI .i64 (gv ws1 3) fun n100 =>
                ifB (lt n100 (sub .i64 n99 1)) (
                  out .ret [(.bool false), (.int .i64 0), gv ws1 2, gv ws1 3] h15) (
                  asI .i64 (gv ws0 4) fun n101 =>
                  ifB (lt 0 n101) (
                    asI .i64 (gv ws0 3) fun n102 =>
                    nn n12 (
                      eqv Tryd.prog 4 (.bool (eq (and .i64 (shr .i64 n102 n12) 1) 1)) (.bool true) fun q22 =>
                      ifB (not q22) (
                        out .ret [(.bool false), (.int .i64 0), gv ws1 2, gv ws1 3] h15) (
                        asI .i64 (gv ws1 3) fun n103 =>
                        out .normal [gv ws1 0, gv ws1 1, gv ws1 2, (.int .i64 (add .i64 n103 1))] h15))) (
                    asI .i64 (gv ws1 3) fun n104 =>
                    out .normal [gv ws1 0, gv ws1 1, gv ws1 2, (.int .i64 (add .i64 n104 1))] h15)))) (
              asI .i64 (gv ws0 4) fun n105 =>
              ifB (lt 0 n105) (
                asI .i64 (gv ws0 3) fun n106 =>
                nn n12 (
                  eqv Tryd.prog 4 (.bool (eq (and .i64 (shr .i64 n106 n12) 1) 1)) (.bool true) fun q23 =>
                  ifB (not q23) (
                    out .ret [(.bool false), (.int .i64 0), gv ws1 2, gv ws1 3] h15) (
                    asI .i64 (gv ws1 3) fun n107 =>
                    out .normal [gv ws1 0, gv ws1 1, gv ws1 2, (.int .i64 (add .i64 n107 1))] h15))) (
                asI .i64 (gv ws1 3) fun n108 =>
                out .normal [gv ws1 0, gv ws1 1, gv ws1 2, (.int .i64 (add .i64 n108 1))] h15))) (
            len v6 fun n109 =>
            asI .i64 (gv ws1 3) fun n110 =>
            sli Tryd.prog h5 66 v6 none (some (gv ws1 3)) none fun v33 =>
            calls rec h5 80 [v33, (.int .i64 n12)] fun v34 h16 =>
            asB v34 fun q24 =>
            ifB q24 (
              asI .i64 (gv ws0 4) fun n111 =>
              ifB (lt 0 n111) (
                out .ret [(.bool false), (.int .i64 0), gv ws1 2, gv ws1 3] h16) (
                len v6 fun n112 =>
                asI .i64 (gv ws1 3) fun n113 =>
                ifB (lt n113 (sub .i64 n112 1)) (
                  out .ret [(.bool false), (.int .i64 0), gv ws1 2, gv ws1 3] h16) (
                  asI .i64 (gv ws0 4) fun n114 =>
                  ifB (lt 0 n114) (
                    asI .i64 (gv ws0 3) fun n115 =>
                    nn n12 (
                      eqv Tryd.prog 4 (.bool (eq (and .i64 (shr .i64 n115 n12) 1) 1)) (.bool (eq n110 (sub .i64 n109 1))) fun q25 =>
                      ifB (not q25) (
                        out .ret [(.bool false), (.int .i64 0), gv ws1 2, gv ws1 3] h16) (
                        asI .i64 (gv ws1 3) fun n116 =>
                        out .normal [gv ws1 0, gv ws1 1, gv ws1 2, (.int .i64 (add .i64 n116 1))] h16))) (
                    asI .i64 (gv ws1 3) fun n117 =>
                    out .normal [gv ws1 0, gv ws1 1, gv ws1 2, (.int .i64 (add .i64 n117 1))] h16)))) (
              asI .i64 (gv ws0 4) fun n118 =>
              ifB (lt 0 n118) (
                asI .i64 (gv ws0 3) fun n119 =>
                nn n12 (
                  eqv Tryd.prog 4 (.bool (eq (and .i64 (shr .i64 n119 n12) 1) 1)) (.bool (eq n110 (sub .i64 n109 1))) fun q26 =>
                  ifB (not q26) (
                    out .ret [(.bool false), (.int .i64 0), gv ws1 2, gv ws1 3] h16) (
                    asI .i64 (gv ws1 3) fun n120 =>
                    out .normal [gv ws1 0, gv ws1 1, gv ws1 2, (.int .i64 (add .i64 n120 1))] h16))) (
                asI .i64 (gv ws1 3) fun n121 =>
                out .normal [gv ws1 0, gv ws1 1, gv ws1 2, (.int .i64 (add .i64 n121 1))] h16))))))) (
    out (.exit 2) [gv ws1 0, gv ws1 1, gv ws1 2, gv ws1 3] h4)

noncomputable def f33_l3 (_rec : Rec) (_k : Nat) (v6 : Value) (n122 : Int) (ws3 : List Value) (h18 : H) : Option (Ex × List Value × H) :=
  asI .i64 (gv ws3 1) fun n123 =>
  ifB (lt n123 n122) (
    asK (gv ws3 1) fun n124 =>
    six v6 n124 1 fun b14 b15 =>
    ld Tryd.prog h18 3 b14 b15 fun v35 =>
    asI .i64 v35 fun n125 =>
    nn n125 (
      asI .i64 (gv ws3 0) fun n126 =>
      asI .i64 (gv ws3 1) fun n127 =>
      out .normal [(.int .i64 (or .i64 n126 (shl .i64 1 n125))), (.int .i64 (add .i64 n127 1))] h18)) (
    out (.exit 4) [gv ws3 0, gv ws3 1] h18)

noncomputable def f33_l4 (rec : Rec) (_k : Nat) (v3 : Value) (ws0 : List Value) (v6 : Value) (n129 : Int) (ws5 : List Value) (h20 : H) : Option (Ex × List Value × H) :=
  asI .i64 (gv ws5 3) fun n130 =>
  ifB (lt n130 n129) (
    asK (gv ws5 3) fun n131 =>
    six v6 n131 1 fun b16 b17 =>
    ld Tryd.prog h20 3 b16 b17 fun v36 =>
    asI .i64 v36 fun n132 =>
    calls rec h20 68 [v3, (.int .i64 n132)] fun v37 h21 =>
    asB v37 fun q27 =>
    ifB (not q27) (
      out .ret [(.bool false), (.int .i64 0), gv ws5 2, gv ws5 3] h21) (
      asI .i64 (gv ws5 3) fun n133 =>
      ifB (lt 0 n133) (
        asI .i64 (gv ws5 3) fun n134 =>
        six v6 (sub .i64 n134 1) 1 fun b18 b19 =>
        ld Tryd.prog h21 3 b18 b19 fun v38 =>
        asI .i64 v38 fun n135 =>
        calls rec h21 71 [gv ws5 2, (.int .i64 n135), (.int .i64 n132)] fun v39 h22 =>
        asB v39 fun q28 =>
        ifB (not q28) (
          out .ret [(.bool false), (.int .i64 0), gv ws5 2, gv ws5 3] h22) (
          asI .i64 (gv ws5 3) fun n136 =>
          ifB (lt 0 n136) (
            asI .i64 (gv ws5 3) fun n137 =>
            six v6 (sub .i64 n137 1) 1 fun b20 b21 =>
            ld Tryd.prog h22 3 b20 b21 fun v40 =>
            asI .i64 v40 fun n138 =>
            bld Tryd.prog 83 [(0, (.int .i64 n138)), (1, (.int .i64 n132))] fun v41 =>
            calls rec h22 76 [gv ws5 2, v41] fun v42 h23 =>
            asI .i64 (gv ws5 3) fun n139 =>
            ifB (eq n139 0) (
              sli Tryd.prog h23 66 v6 none (some (gv ws5 3)) none fun v43 =>
              calls rec h23 80 [v43, (.int .i64 n132)] fun v44 h24 =>
              asB v44 fun q29 =>
              ifB q29 (
                asI .i64 (gv ws0 4) fun n140 =>
                ifB (lt 0 n140) (
                  out .ret [(.bool false), (.int .i64 0), v42, gv ws5 3] h24) (
                  len v6 fun n141 =>
                  asI .i64 (gv ws5 3) fun n142 =>
                  ifB (lt n142 (sub .i64 n141 1)) (
                    out .ret [(.bool false), (.int .i64 0), v42, gv ws5 3] h24) (
                    asI .i64 (gv ws0 4) fun n143 =>
                    ifB (lt 0 n143) (
                      asI .i64 (gv ws0 3) fun n144 =>
                      nn n132 (
                        eqv Tryd.prog 4 (.bool (eq (and .i64 (shr .i64 n144 n132) 1) 1)) (.bool true) fun q30 =>
                        ifB (not q30) (
                          out .ret [(.bool false), (.int .i64 0), v42, gv ws5 3] h24) (
                          asI .i64 (gv ws5 3) fun n145 =>
                          out .normal [gv ws5 0, gv ws5 1, v42, (.int .i64 (add .i64 n145 1))] h24))) (
                      asI .i64 (gv ws5 3) fun n146 =>
                      out .normal [gv ws5 0, gv ws5 1, v42, (.int .i64 (add .i64 n146 1))] h24)))) (
                asI .i64 (gv ws0 4) fun n147 =>
                ifB (lt 0 n147) (
                  asI .i64 (gv ws0 3) fun n148 =>
                  nn n132 (
                    eqv Tryd.prog 4 (.bool (eq (and .i64 (shr .i64 n148 n132) 1) 1)) (.bool true) fun q31 =>
                    ifB (not q31) (
                      out .ret [(.bool false), (.int .i64 0), v42, gv ws5 3] h24) (
                      asI .i64 (gv ws5 3) fun n149 =>
                      out .normal [gv ws5 0, gv ws5 1, v42, (.int .i64 (add .i64 n149 1))] h24))) (
                  asI .i64 (gv ws5 3) fun n150 =>
                  out .normal [gv ws5 0, gv ws5 1, v42, (.int .i64 (add .i64 n150 1))] h24))) (
              len v6 fun n151 =>
              asI .i64 (gv ws5 3) fun n152 =>
              sli Tryd.prog h23 66 v6 none (some (gv ws5 3)) none fun v45 =>
              calls rec h23 80 [v45, (.int .i64 n132)] fun v46 h25 =>
              asB v46 fun q32 =>
              ifB q32 (
                asI .i64 (gv ws0 4) fun n153 =>
                ifB (lt 0 n153) (
                  out .ret [(.bool false), (.int .i64 0), v42, gv ws5 3] h25) (
                  len v6 fun n154 =>
                  asI .i64 (gv ws5 3) fun n155 =>
                  ifB (lt n155 (sub .i64 n154 1)) (
                    out .ret [(.bool false), (.int .i64 0), v42, gv ws5 3] h25) (
                    asI .i64 (gv ws0 4) fun n156 =>
                    ifB (lt 0 n156) (
                      asI .i64 (gv ws0 3) fun n157 =>
                      nn n132 (
                        eqv Tryd.prog 4 (.bool (eq (and .i64 (shr .i64 n157 n132) 1) 1)) (.bool (eq n152 (sub .i64 n151 1))) fun q33 =>
                        ifB (not q33) (
                          out .ret [(.bool false), (.int .i64 0), v42, gv ws5 3] h25) (
                          asI .i64 (gv ws5 3) fun n158 =>
                          out .normal [gv ws5 0, gv ws5 1, v42, (.int .i64 (add .i64 n158 1))] h25))) (
                      asI .i64 (gv ws5 3) fun n159 =>
                      out .normal [gv ws5 0, gv ws5 1, v42, (.int .i64 (add .i64 n159 1))] h25)))) (
                asI .i64 (gv ws0 4) fun n160 =>
                ifB (lt 0 n160) (
                  asI .i64 (gv ws0 3) fun n161 =>
                  nn n132 (
                    eqv Tryd.prog 4 (.bool (eq (and .i64 (shr .i64 n161 n132) 1) 1)) (.bool (eq n152 (sub .i64 n151 1))) fun q34 =>
                    ifB (not q34) (
                      out .ret [(.bool false), (.int .i64 0), v42, gv ws5 3] h25) (
                      asI .i64 (gv ws5 3) fun n162 =>
                      out .normal [gv ws5 0, gv ws5 1, v42, (.int .i64 (add .i64 n162 1))] h25))) (
                  asI .i64 (gv ws5 3) fun n163 =>
                  out .normal [gv ws5 0, gv ws5 1, v42, (.int .i64 (add .i64 n163 1))] h25)))) (
            asI .i64 (gv ws5 3) fun n164 =>
            ifB (eq n164 0) (
              sli Tryd.prog h22 66 v6 none (some (gv ws5 3)) none fun v47 =>
              calls rec h22 80 [v47, (.int .i64 n132)] fun v48 h26 =>
              asB v48 fun q35 =>
              ifB q35 (
                asI .i64 (gv ws0 4) fun n165 =>
                ifB (lt 0 n165) (
                  out .ret [(.bool false), (.int .i64 0), gv ws5 2, gv ws5 3] h26) (
                  len v6 fun n166 =>
                  asI .i64 (gv ws5 3) fun n167 =>
                  ifB (lt n167 (sub .i64 n166 1)) (
                    out .ret [(.bool false), (.int .i64 0), gv ws5 2, gv ws5 3] h26) (
                    asI .i64 (gv ws0 4) fun n168 =>
                    ifB (lt 0 n168) (
                      asI .i64 (gv ws0 3) fun n169 =>
                      nn n132 (
                        eqv Tryd.prog 4 (.bool (eq (and .i64 (shr .i64 n169 n132) 1) 1)) (.bool true) fun q36 =>
                        ifB (not q36) (
                          out .ret [(.bool false), (.int .i64 0), gv ws5 2, gv ws5 3] h26) (
                          asI .i64 (gv ws5 3) fun n170 =>
                          out .normal [gv ws5 0, gv ws5 1, gv ws5 2, (.int .i64 (add .i64 n170 1))] h26))) (
                      asI .i64 (gv ws5 3) fun n171 =>
                      out .normal [gv ws5 0, gv ws5 1, gv ws5 2, (.int .i64 (add .i64 n171 1))] h26)))) (
                asI .i64 (gv ws0 4) fun n172 =>
                ifB (lt 0 n172) (
                  asI .i64 (gv ws0 3) fun n173 =>
                  nn n132 (
                    eqv Tryd.prog 4 (.bool (eq (and .i64 (shr .i64 n173 n132) 1) 1)) (.bool true) fun q37 =>
                    ifB (not q37) (
                      out .ret [(.bool false), (.int .i64 0), gv ws5 2, gv ws5 3] h26) (
                      asI .i64 (gv ws5 3) fun n174 =>
                      out .normal [gv ws5 0, gv ws5 1, gv ws5 2, (.int .i64 (add .i64 n174 1))] h26))) (
                  asI .i64 (gv ws5 3) fun n175 =>
                  out .normal [gv ws5 0, gv ws5 1, gv ws5 2, (.int .i64 (add .i64 n175 1))] h26))) (
              len v6 fun n176 =>
              asI .i64 (gv ws5 3) fun n177 =>
              sli Tryd.prog h22 66 v6 none (some (gv ws5 3)) none fun v49 =>
              calls rec h22 80 [v49, (.int .i64 n132)] fun v50 h27 =>
              asB v50 fun q38 =>
              ifB q38 (
                asI .i64 (gv ws0 4) fun n178 =>
                ifB (lt 0 n178) (
                  out .ret [(.bool false), (.int .i64 0), gv ws5 2, gv ws5 3] h27) (
                  len v6 fun n179 =>
                  asI .i64 (gv ws5 3) fun n180 =>
                  ifB (lt n180 (sub .i64 n179 1)) (
                    out .ret [(.bool false), (.int .i64 0), gv ws5 2, gv ws5 3] h27) (
                    asI .i64 (gv ws0 4) fun n181 =>
                    ifB (lt 0 n181) (
                      asI .i64 (gv ws0 3) fun n182 =>
                      nn n132 (
                        eqv Tryd.prog 4 (.bool (eq (and .i64 (shr .i64 n182 n132) 1) 1)) (.bool (eq n177 (sub .i64 n176 1))) fun q39 =>
                        ifB (not q39) (
                          out .ret [(.bool false), (.int .i64 0), gv ws5 2, gv ws5 3] h27) (
                          asI .i64 (gv ws5 3) fun n183 =>
                          out .normal [gv ws5 0, gv ws5 1, gv ws5 2, (.int .i64 (add .i64 n183 1))] h27))) (
                      asI .i64 (gv ws5 3) fun n184 =>
                      out .normal [gv ws5 0, gv ws5 1, gv ws5 2, (.int .i64 (add .i64 n184 1))] h27)))) (
                asI .i64 (gv ws0 4) fun n185 =>
                ifB (lt 0 n185) (
                  asI .i64 (gv ws0 3) fun n186 =>
                  nn n132 (
                    eqv Tryd.prog 4 (.bool (eq (and .i64 (shr .i64 n186 n132) 1) 1)) (.bool (eq n177 (sub .i64 n176 1))) fun q40 =>
                    ifB (not q40) (
                      out .ret [(.bool false), (.int .i64 0), gv ws5 2, gv ws5 3] h27) (
                      asI .i64 (gv ws5 3) fun n187 =>
                      out .normal [gv ws5 0, gv ws5 1, gv ws5 2, (.int .i64 (add .i64 n187 1))] h27))) (
                  asI .i64 (gv ws5 3) fun n188 =>
                  out .normal [gv ws5 0, gv ws5 1, gv ws5 2, (.int .i64 (add .i64 n188 1))] h27)))))) (
        asI .i64 (gv ws5 3) fun n189 =>
        ifB (lt 0 n189) (
          asI .i64 (gv ws5 3) fun n190 =>
          six v6 (sub .i64 n190 1) 1 fun b22 b23 =>
          ld Tryd.prog h21 3 b22 b23 fun v51 =>
          asI .i64 v51 fun n191 =>
          bld Tryd.prog 83 [(0, (.int .i64 n191)), (1, (.int .i64 n132))] fun v52 =>
          calls rec h21 76 [gv ws5 2, v52] fun v53 h28 =>
          asI .i64 (gv ws5 3) fun n192 =>
          ifB (eq n192 0) (
            sli Tryd.prog h28 66 v6 none (some (gv ws5 3)) none fun v54 =>
            calls rec h28 80 [v54, (.int .i64 n132)] fun v55 h29 =>
            asB v55 fun q41 =>
            ifB q41 (
              asI .i64 (gv ws0 4) fun n193 =>
              ifB (lt 0 n193) (
                out .ret [(.bool false), (.int .i64 0), v53, gv ws5 3] h29) (
                len v6 fun n194 =>
                asI .i64 (gv ws5 3) fun n195 =>
                ifB (lt n195 (sub .i64 n194 1)) (
                  out .ret [(.bool false), (.int .i64 0), v53, gv ws5 3] h29) (
                  asI .i64 (gv ws0 4) fun n196 =>
                  ifB (lt 0 n196) (
                    asI .i64 (gv ws0 3) fun n197 =>
                    nn n132 (
                      eqv Tryd.prog 4 (.bool (eq (and .i64 (shr .i64 n197 n132) 1) 1)) (.bool true) fun q42 =>
                      ifB (not q42) (
                        out .ret [(.bool false), (.int .i64 0), v53, gv ws5 3] h29) (
                        asI .i64 (gv ws5 3) fun n198 =>
                        out .normal [gv ws5 0, gv ws5 1, v53, (.int .i64 (add .i64 n198 1))] h29))) (
                    asI .i64 (gv ws5 3) fun n199 =>
                    out .normal [gv ws5 0, gv ws5 1, v53, (.int .i64 (add .i64 n199 1))] h29)))) (
              asI .i64 (gv ws0 4) fun n200 =>
              ifB (lt 0 n200) (
                asI .i64 (gv ws0 3) fun n201 =>
                nn n132 (
                  eqv Tryd.prog 4 (.bool (eq (and .i64 (shr .i64 n201 n132) 1) 1)) (.bool true) fun q43 =>
                  ifB (not q43) (
                    out .ret [(.bool false), (.int .i64 0), v53, gv ws5 3] h29) (
                    asI .i64 (gv ws5 3) fun n202 =>
                    out .normal [gv ws5 0, gv ws5 1, v53, (.int .i64 (add .i64 n202 1))] h29))) (
                asI .i64 (gv ws5 3) fun n203 =>
                out .normal [gv ws5 0, gv ws5 1, v53, (.int .i64 (add .i64 n203 1))] h29))) (
            len v6 fun n204 =>
            asI .i64 (gv ws5 3) fun n205 =>
            sli Tryd.prog h28 66 v6 none (some (gv ws5 3)) none fun v56 =>
            calls rec h28 80 [v56, (.int .i64 n132)] fun v57 h30 =>
            asB v57 fun q44 =>
            ifB q44 (
              asI .i64 (gv ws0 4) fun n206 =>
              ifB (lt 0 n206) (
                out .ret [(.bool false), (.int .i64 0), v53, gv ws5 3] h30) (
                len v6 fun n207 =>
                asI .i64 (gv ws5 3) fun n208 =>
                ifB (lt n208 (sub .i64 n207 1)) (
                  out .ret [(.bool false), (.int .i64 0), v53, gv ws5 3] h30) (
                  asI .i64 (gv ws0 4) fun n209 =>
                  ifB (lt 0 n209) (
                    asI .i64 (gv ws0 3) fun n210 =>
                    nn n132 (
                      eqv Tryd.prog 4 (.bool (eq (and .i64 (shr .i64 n210 n132) 1) 1)) (.bool (eq n205 (sub .i64 n204 1))) fun q45 =>
                      ifB (not q45) (
                        out .ret [(.bool false), (.int .i64 0), v53, gv ws5 3] h30) (
                        asI .i64 (gv ws5 3) fun n211 =>
                        out .normal [gv ws5 0, gv ws5 1, v53, (.int .i64 (add .i64 n211 1))] h30))) (
                    asI .i64 (gv ws5 3) fun n212 =>
                    out .normal [gv ws5 0, gv ws5 1, v53, (.int .i64 (add .i64 n212 1))] h30)))) (
              asI .i64 (gv ws0 4) fun n213 =>
              ifB (lt 0 n213) (
                asI .i64 (gv ws0 3) fun n214 =>
                nn n132 (
                  eqv Tryd.prog 4 (.bool (eq (and .i64 (shr .i64 n214 n132) 1) 1)) (.bool (eq n205 (sub .i64 n204 1))) fun q46 =>
                  ifB (not q46) (
                    out .ret [(.bool false), (.int .i64 0), v53, gv ws5 3] h30) (
                    asI .i64 (gv ws5 3) fun n215 =>
                    out .normal [gv ws5 0, gv ws5 1, v53, (.int .i64 (add .i64 n215 1))] h30))) (
                asI .i64 (gv ws5 3) fun n216 =>
                out .normal [gv ws5 0, gv ws5 1, v53, (.int .i64 (add .i64 n216 1))] h30)))) (
          asI .i64 (gv ws5 3) fun n217 =>
          ifB (eq n217 0) (
            sli Tryd.prog h21 66 v6 none (some (gv ws5 3)) none fun v58 =>
            calls rec h21 80 [v58, (.int .i64 n132)] fun v59 h31 =>
            asB v59 fun q47 =>
            ifB q47 (
              asI .i64 (gv ws0 4) fun n218 =>
              ifB (lt 0 n218) (
                out .ret [(.bool false), (.int .i64 0), gv ws5 2, gv ws5 3] h31) (
                len v6 fun n219 =>
                asI .i64 (gv ws5 3) fun n220 =>
                ifB (lt n220 (sub .i64 n219 1)) (
                  out .ret [(.bool false), (.int .i64 0), gv ws5 2, gv ws5 3] h31) (
                  asI .i64 (gv ws0 4) fun n221 =>
                  ifB (lt 0 n221) (
                    asI .i64 (gv ws0 3) fun n222 =>
                    nn n132 (
                      eqv Tryd.prog 4 (.bool (eq (and .i64 (shr .i64 n222 n132) 1) 1)) (.bool true) fun q48 =>
                      ifB (not q48) (
                        out .ret [(.bool false), (.int .i64 0), gv ws5 2, gv ws5 3] h31) (
                        asI .i64 (gv ws5 3) fun n223 =>
                        out .normal [gv ws5 0, gv ws5 1, gv ws5 2, (.int .i64 (add .i64 n223 1))] h31))) (
                    asI .i64 (gv ws5 3) fun n224 =>
                    out .normal [gv ws5 0, gv ws5 1, gv ws5 2, (.int .i64 (add .i64 n224 1))] h31)))) (
              asI .i64 (gv ws0 4) fun n225 =>
              ifB (lt 0 n225) (
                asI .i64 (gv ws0 3) fun n226 =>
                nn n132 (
                  eqv Tryd.prog 4 (.bool (eq (and .i64 (shr .i64 n226 n132) 1) 1)) (.bool true) fun q49 =>
                  ifB (not q49) (
                    out .ret [(.bool false), (.int .i64 0), gv ws5 2, gv ws5 3] h31) (
                    asI .i64 (gv ws5 3) fun n227 =>
                    out .normal [gv ws5 0, gv ws5 1, gv ws5 2, (.int .i64 (add .i64 n227 1))] h31))) (
                asI .i64 (gv ws5 3) fun n228 =>
                out .normal [gv ws5 0, gv ws5 1, gv ws5 2, (.int .i64 (add .i64 n228 1))] h31))) (
            len v6 fun n229 =>
            asI .i64 (gv ws5 3) fun n230 =>
            sli Tryd.prog h21 66 v6 none (some (gv ws5 3)) none fun v60 =>
            calls rec h21 80 [v60, (.int .i64 n132)] fun v61 h32 =>
            asB v61 fun q50 =>
            ifB q50 (
              asI .i64 (gv ws0 4) fun n231 =>
              ifB (lt 0 n231) (
                out .ret [(.bool false), (.int .i64 0), gv ws5 2, gv ws5 3] h32) (
                len v6 fun n232 =>
                asI .i64 (gv ws5 3) fun n233 =>
                ifB (lt n233 (sub .i64 n232 1)) (
                  out .ret [(.bool false), (.int .i64 0), gv ws5 2, gv ws5 3] h32) (
                  asI .i64 (gv ws0 4) fun n234 =>
                  ifB (lt 0 n234) (
                    asI .i64 (gv ws0 3) fun n235 =>
                    nn n132 (
                      eqv Tryd.prog 4 (.bool (eq (and .i64 (shr .i64 n235 n132) 1) 1)) (.bool (eq n230 (sub .i64 n229 1))) fun q51 =>
                      ifB (not q51) (
                        out .ret [(.bool false), (.int .i64 0), gv ws5 2, gv ws5 3] h32) (
                        asI .i64 (gv ws5 3) fun n236 =>
                        out .normal [gv ws5 0, gv ws5 1, gv ws5 2, (.int .i64 (add .i64 n236 1))] h32))) (
                    asI .i64 (gv ws5 3) fun n237 =>
                    out .normal [gv ws5 0, gv ws5 1, gv ws5 2, (.int .i64 (add .i64 n237 1))] h32)))) (
              asI .i64 (gv ws0 4) fun n238 =>
              ifB (lt 0 n238) (
                asI .i64 (gv ws0 3) fun n239 =>
                nn n132 (
                  eqv Tryd.prog 4 (.bool (eq (and .i64 (shr .i64 n239 n132) 1) 1)) (.bool (eq n230 (sub .i64 n229 1))) fun q52 =>
                  ifB (not q52) (
                    out .ret [(.bool false), (.int .i64 0), gv ws5 2, gv ws5 3] h32) (
                    asI .i64 (gv ws5 3) fun n240 =>
                    out .normal [gv ws5 0, gv ws5 1, gv ws5 2, (.int .i64 (add .i64 n240 1))] h32))) (
                asI .i64 (gv ws5 3) fun n241 =>
                out .normal [gv ws5 0, gv ws5 1, gv ws5 2, (.int .i64 (add .i64 n241 1))] h32))))))) (
    out (.exit 2) [gv ws5 0, gv ws5 1, gv ws5 2, gv ws5 3] h20)

noncomputable def f33_l5 (_rec : Rec) (_k : Nat) (v6 : Value) (n242 : Int) (ws7 : List Value) (h34 : H) : Option (Ex × List Value × H) :=
  asI .i64 (gv ws7 1) fun n243 =>
  ifB (lt n243 n242) (
    asK (gv ws7 1) fun n244 =>
    six v6 n244 1 fun b24 b25 =>
    ld Tryd.prog h34 3 b24 b25 fun v62 =>
    asI .i64 v62 fun n245 =>
    nn n245 (
      asI .i64 (gv ws7 0) fun n246 =>
      asI .i64 (gv ws7 1) fun n247 =>
      out .normal [(.int .i64 (or .i64 n246 (shl .i64 1 n245))), (.int .i64 (add .i64 n247 1))] h34)) (
    out (.exit 4) [gv ws7 0, gv ws7 1] h34)

noncomputable def f33_l1 (rec : Rec) (k : Nat) (v1 : Value) (v3 : Value) (n0 : Int) (ws0 : List Value) (h3 : H) : Option (Ex × List Value × H) :=
  asI .i64 (gv ws0 4) fun n1 =>
  ifB (lt n1 n0) (
    asK (gv ws0 4) fun n2 =>
    six v1 n2 1 fun b0 b1 =>
    ld Tryd.prog h3 66 b0 b1 fun v6 =>
    len v6 fun n3 =>
    ifB (lt n3 2) (
      out .ret [(.bool false), (.int .i64 0), gv ws0 2, gv ws0 3, gv ws0 4] h3) (
      asI .i64 (gv ws0 4) fun n4 =>
      ifB (eq n4 0) (
        len v6 fun n5 =>
        ifB (lt n5 4) (
          out .ret [(.bool false), (.int .i64 0), gv ws0 2, gv ws0 3, gv ws0 4] h3) (
          six v6 0 1 fun b2 b3 =>
          ld Tryd.prog h3 3 b2 b3 fun v7 =>
          asI .i64 v7 fun n6 =>
          len v6 fun n7 =>
          six v6 (sub .i64 n7 1) 1 fun b4 b5 =>
          ld Tryd.prog h3 3 b4 b5 fun v8 =>
          asI .i64 v8 fun n8 =>
          ifB (not (eq n6 n8)) (
            out .ret [(.bool false), (.int .i64 0), gv ws0 2, gv ws0 3, gv ws0 4] h3) (
            len v6 fun n9 =>
            lp k (f33_l2 rec k v3 ws0 v6 n9) [gv ws0 0, gv ws0 1, gv ws0 2, (.int .i64 0)] h3 fun e0 ws2 h17 =>
            onE e0 2 (
              len v6 fun n122 =>
              lp k (f33_l3 rec k v6 n122) [gv ws0 3, (.int .i64 0)] h17 fun e1 ws4 h19 =>
              onE e1 4 (
                asI .i64 (gv ws0 4) fun n128 =>
                out .normal [gv ws2 0, gv ws2 1, gv ws2 2, gv ws4 0, (.int .i64 (add .i64 n128 1))] h19) (
                none)) (
              onR e0 (
                out .ret [gv ws2 0, gv ws2 1, gv ws2 2, gv ws0 3, gv ws0 4] h17))))) (
        len v6 fun n129 =>
        lp k (f33_l4 rec k v3 ws0 v6 n129) [gv ws0 0, gv ws0 1, gv ws0 2, (.int .i64 0)] h3 fun e2 ws6 h33 =>
        onE e2 2 (
          len v6 fun n242 =>
          lp k (f33_l5 rec k v6 n242) [gv ws0 3, (.int .i64 0)] h33 fun e3 ws8 h35 =>
          onE e3 4 (
            asI .i64 (gv ws0 4) fun n248 =>
            out .normal [gv ws6 0, gv ws6 1, gv ws6 2, gv ws8 0, (.int .i64 (add .i64 n248 1))] h35) (
            none)) (
          onR e2 (
            out .ret [gv ws6 0, gv ws6 1, gv ws6 2, gv ws0 3, gv ws0 4] h33))))) (
    out (.exit 0) [gv ws0 0, gv ws0 1, gv ws0 2, gv ws0 3, gv ws0 4] h3)

noncomputable def f33 (rec : Rec) (k : Nat) (v0 : Value) (v1 : Value) (h0 : H) : Option (Value × H) :=
  calls rec h0 36 [v0] fun v2 h1 =>
  ext v2 0 fun v3 =>
  ext v2 1 fun v4 =>
  asB v4 fun q0 =>
  ifB (not q0) (
    some ((.tuple #[(.bool false), (.int .i64 2)]), h1)) (
    calls rec h1 74 [v3] fun v5 h2 =>
    len v1 fun n0 =>
    lp k (f33_l1 rec k v1 v3 n0) [(.bool false), (.int .i64 0), v5, (.int .i64 0), (.int .i64 0)] h2 fun e4 ws9 h36 =>
    onE e4 0 (
      calls rec h36 43 [v3] fun v63 h37 =>
      asI .i64 v63 fun n249 =>
      asI .i64 (gv ws9 3) fun n250 =>
      ifB (eq n250 n249) (
        calls rec h37 77 [gv ws9 2] fun v64 h38 =>
        len v64 fun n251 =>
        some ((.tuple #[(.bool (eq n251 0)), (.int .i64 0)]), h38)) (
        some ((.tuple #[(.bool false), (.int .i64 0)]), h37))) (
      onR e4 (
        some ((.tuple #[gv ws9 0, gv ws9 1]), h36))))

theorem e33 (rec : Rec) (k : Nat) (v0 : Value) (v1 : Value) (h : H) : bodyT Tryd.prog E0 SC (XC Tryd.prog rec k) 33 (Value × H) [.opq v0, .opq v1] h (fun v h => some (v, h)) = f33 rec k v0 v1 h := by kernel_rfl

theorem t33 {k : Nat} {v0 : Value} {v1 : Value} {h h1 : H} {v : Value} (hh : f33 rn k v0 v1 h = some (v, h1)) : rn 33 #[v0, v1] h = some (v, trunc Tryd.prog h h1 v) :=
  run_of_bodyT (args := [.opq v0, .opq v1]) rfl ((e33 _ _ _ _ _).trans hh)

theorem p33 {k : Nat} {v0 : Value} {v1 : Value} {h h1 : H} {v : Value} (hh : f33 rn k v0 v1 h = some (v, h1)) (hp : plainO v = true) (x : Ext h h1) : rn 33 #[v0, v1] h = some (v, h) := by rw [t33 hh, trunc_pure hp x]

end Go.AM

end

section

/- The staged forms of functions 32, and what calls of these answer. -/
namespace Go.AM
open Go.Proofs
noncomputable def f32_l1 (_rec : Rec) (_k : Nat) (v0 : Value) (n0 : Int) (n1 : Int) (ws0 : List Value) (h1 : H) : Option (Ex × List Value × H) :=
  asI .i64 (gv ws0 1) fun n2 =>
  ifB (lt n2 n1) (
    asK (gv ws0 1) fun n3 =>
    six v0 n3 1 fun b0 b1 =>
    ld Tryd.prog h1 3 b0 b1 fun v1 =>
    asI .i64 v1 fun n4 =>
    ifB (eq n0 n4) (
      out .ret [gv ws0 1, gv ws0 1] h1) (
      asI .i64 (gv ws0 1) fun n5 =>
      out .normal [gv ws0 0, (.int .i64 (add .i64 n5 1))] h1)) (
    out (.exit 0) [gv ws0 0, gv ws0 1] h1)

noncomputable def f32 (rec : Rec) (k : Nat) (v0 : Value) (n0 : Int) (h0 : H) : Option (Value × H) :=
  len v0 fun n1 =>
  lp k (f32_l1 rec k v0 n0 n1) [(.int .i64 0), (.int .i64 0)] h0 fun e0 ws1 h2 =>
  onE e0 0 (
    some ((.int .i64 (-1)), h2)) (
    onR e0 (
      some (gv ws1 0, h2)))

theorem e32 (rec : Rec) (k : Nat) (v0 : Value) (n0 : Int) (h : H) : bodyT Tryd.prog E0 SC (XC Tryd.prog rec k) 32 (Value × H) [.opq v0, .int .i64 n0] h (fun v h => some (v, h)) = f32 rec k v0 n0 h := by kernel_rfl

theorem t32 {k : Nat} {v0 : Value} {n0 : Int} {h h1 : H} {v : Value} (hh : f32 rn k v0 n0 h = some (v, h1)) : rn 32 #[v0, .int .i64 n0] h = some (v, trunc Tryd.prog h h1 v) :=
  run_of_bodyT (args := [.opq v0, .int .i64 n0]) rfl ((e32 _ _ _ _ _).trans hh)

theorem p32 {k : Nat} {v0 : Value} {n0 : Int} {h h1 : H} {v : Value} (hh : f32 rn k v0 n0 h = some (v, h1)) (hp : plainO v = true) (x : Ext h h1) : rn 32 #[v0, .int .i64 n0] h = some (v, h) := by rw [t32 hh, trunc_pure hp x]

end Go.AM

end

section

/- Renaming the nodes: the law. -/
namespace Go.AM
open Go.Proofs
variable {R : Type}
attribute [local simp] nx_eq nx_new nx_set blk_new blk_set asI_int asK_int asB_bool asP_ptr al_eq bx_eq len_slice onE_exit onE_ret onR_ret Value.cells d3 d22 d23 d83 d72 w3 w83 cell_new cell_set rd_new rd_set off eq lt le ifB gv out ext20 ext21
/-! ### Turning round -/
theorem rem_nat {a n : Nat} (_ : n ≠ 0) : rem .i64 (a : Int) (n : Int) = ((a % n : Nat) : Int) := rfl

end Go.AM

end

section

/- The staged forms of functions 34, 82, and what calls of these answer. -/
namespace Go.AM
open Go.Proofs
noncomputable def f34_l1 (_rec : Rec) (_k : Nat) (h8 : H) (h12 : H) (v13 : Value) (n2 : Int) (ws0 : List Value) (h19 : H) : Option (Ex × List Value × H) :=
  asI .i64 (gv ws0 1) fun n3 =>
  ifB (lt n3 n2) (
    asK (gv ws0 1) fun n4 =>
    six v13 n4 2 fun b0 b1 =>
    ld Tryd.prog h19 83 b0 b1 fun v14 =>
    al h19 83 [(.int .i64 0), (.int .i64 0)] fun h20 =>
    st Tryd.prog h20 83 (nx h19) 0 v14 fun h21 =>
    aix 2 0 (
      ld Tryd.prog h21 3 (nx h19) (at_ 0 0 1) fun v15 =>
      asI .i64 v15 fun n5 =>
      aix 2 1 (
        ld Tryd.prog h21 3 (nx h19) (at_ 0 1 1) fun v16 =>
        asI .i64 v16 fun n6 =>
        ld Tryd.prog h21 120 (nx h8) 0 fun v17 =>
        lok Tryd.prog h21 120 v17 (.int .i64 n5) false fun v18 =>
        asI .i64 v18 fun n7 =>
        ld Tryd.prog h21 120 (nx h8) 0 fun v19 =>
        lok Tryd.prog h21 120 v19 (.int .i64 n6) false fun v20 =>
        asI .i64 v20 fun n8 =>
        ifB (lt n8 n7) (
          ld Tryd.prog h21 120 (nx h12) 0 fun v21 =>
          lok Tryd.prog h21 120 v21 (.int .i64 n5) false fun v22 =>
          asI .i64 v22 fun n9 =>
          ifB (eq n9 n6) (
            bld Tryd.prog 124 [(0, (.int .i64 n6)), (1, (.int .i64 n5))] fun v23 =>
            bls Tryd.prog h21 68 1 [(0, v23)] fun v24 h22 =>
            app Tryd.prog h22 68 68 (gv ws0 0) v24 fun v25 h23 =>
            asI .i64 (gv ws0 1) fun n10 =>
            out .normal [v25, (.int .i64 (add .i64 n10 1))] h23) (
            bld Tryd.prog 124 [(0, (.int .i64 n5)), (1, (.int .i64 n6))] fun v26 =>
            bls Tryd.prog h21 68 1 [(0, v26)] fun v27 h24 =>
            app Tryd.prog h24 68 68 (gv ws0 0) v27 fun v28 h25 =>
            asI .i64 (gv ws0 1) fun n11 =>
            out .normal [v28, (.int .i64 (add .i64 n11 1))] h25)) (
          ld Tryd.prog h21 120 (nx h12) 0 fun v29 =>
          lok Tryd.prog h21 120 v29 (.int .i64 n6) false fun v30 =>
          asI .i64 v30 fun n12 =>
          ifB (eq n12 n5) (
            bld Tryd.prog 124 [(0, (.int .i64 n5)), (1, (.int .i64 n6))] fun v31 =>
            bls Tryd.prog h21 68 1 [(0, v31)] fun v32 h26 =>
            app Tryd.prog h26 68 68 (gv ws0 0) v32 fun v33 h27 =>
            asI .i64 (gv ws0 1) fun n13 =>
            out .normal [v33, (.int .i64 (add .i64 n13 1))] h27) (
            bld Tryd.prog 124 [(0, (.int .i64 n6)), (1, (.int .i64 n5))] fun v34 =>
            bls Tryd.prog h21 68 1 [(0, v34)] fun v35 h28 =>
            app Tryd.prog h28 68 68 (gv ws0 0) v35 fun v36 h29 =>
            asI .i64 (gv ws0 1) fun n14 =>
            out .normal [v36, (.int .i64 (add .i64 n14 1))] h29))))) (
    out (.exit 0) [gv ws0 0, gv ws0 1] h19)

noncomputable def f34 (rec : Rec) (k : Nat) (v0 : Value) (h0 : H) : Option (Value × H) :=
  calls rec h0 36 [v0] fun v1 h1 =>
  ext v1 0 fun v2 =>
  ext v1 1 fun v3 =>
  asB v3 fun q0 =>
  al h1 72 [(.slice none 0 0)] fun h2 =>
  st Tryd.prog h2 72 (nx h1) 0 v2 fun h3 =>
  ifB (not q0) (
    some ((.tuple #[(.slice none 0 0), (.int .i64 2)]), h3)) (
    ld Tryd.prog h3 72 (nx h1) 0 fun v4 =>
    ld Tryd.prog h3 72 (nx h1) 0 fun v5 =>
    calls rec h3 43 [v5] fun v6 h4 =>
    asI .i64 v6 fun n0 =>
    ck (freq (nx h1) (nx h3) (same h4 h3)) (
      calls rec h4 44 [v4, (.int .i64 n0)] fun v7 h5 =>
      asB v7 fun q1 =>
      ifB (not q1) (
        some ((.tuple #[(.slice none 0 0), (.int .i64 4)]), h5)) (
        ld Tryd.prog h5 72 (nx h1) 0 fun v8 =>
        calls rec h5 81 [v8] fun v9 h6 =>
        len v9 fun n1 =>
        ifB (lt 0 n1) (
          some ((.tuple #[(.slice none 0 0), (.int .i64 4)]), h6)) (
          mkm h6 fun h7 =>
          mup Tryd.prog h7 120 (.map (some (nx h6))) (.int .i64 0) (.int .i64 0) fun h8 =>
          al h8 120 [(.map none)] fun h9 =>
          st Tryd.prog h9 120 (nx h8) 0 (.map (some (nx h6))) fun h10 =>
          mkm h10 fun h11 =>
          mup Tryd.prog h11 120 (.map (some (nx h10))) (.int .i64 0) (.int .i64 (-1)) fun h12 =>
          al h12 120 [(.map none)] fun h13 =>
          st Tryd.prog h13 120 (nx h12) 0 (.map (some (nx h10))) fun h14 =>
          al h14 121 [.nilFunc] fun h15 =>
          st Tryd.prog h15 121 (nx h14) 0 (.func (.func 82) #[] #[(pt (nx h1) 0), (pt (nx h8) 0), (pt (nx h12) 0), (pt (nx h14) 0)]) fun h16 =>
          ld Tryd.prog h16 121 (nx h14) 0 fun v10 =>
          callsV rec h16 v10 [(.int .i64 0)] fun _ h17 =>
          ld Tryd.prog h17 72 (nx h1) 0 fun v12 =>
          calls rec h17 77 [v12] fun v13 h18 =>
          len v13 fun n2 =>
          lp k (f34_l1 rec k h8 h12 v13 n2) [(.slice none 0 0), (.int .i64 0)] h18 fun e0 ws1 h30 =>
          onE e0 0 (
            some ((.tuple #[gv ws1 0, (.int .i64 0)]), h30)) (
            none)))))

theorem e34 (rec : Rec) (k : Nat) (v0 : Value) (h : H) : bodyT Tryd.prog E0 SC (XC Tryd.prog rec k) 34 (Value × H) [.opq v0] h (fun v h => some (v, h)) = f34 rec k v0 h := by kernel_rfl

theorem t34 {k : Nat} {v0 : Value} {h h1 : H} {v : Value} (hh : f34 rn k v0 h = some (v, h1)) : rn 34 #[v0] h = some (v, trunc Tryd.prog h h1 v) :=
  run_of_bodyT (args := [.opq v0]) rfl ((e34 _ _ _ _).trans hh)

theorem x34 {k : Nat} {v0 : Value} {h h1 : H} {v : Value} (hh : f34 rn k v0 h = some (v, h1)) (hp : plainO v = false) : ∃ h2, rn 34 #[v0] h = some (v, h2) ∧ Sm h1 h2 ∧ (Ext h h1 → Exw h h2) := trunc_cell hp (t34 hh)

noncomputable def f82_l1 (rec : Rec) (_k : Nat) (n0 : Int) (v1 : Value) (v2 : Value) (v3 : Value) (v6 : Value) (n2 : Int) (ws0 : List Value) (h2 : H) : Option (Ex × List Value × H) :=
  asI .i64 (gv ws0 0) fun n3 =>
  ifB (lt n3 n2) (
    asK (gv ws0 0) fun n4 =>
    six v6 n4 1 fun b4 b5 =>
    ld Tryd.prog h2 3 b4 b5 fun v7 =>
    asI .i64 v7 fun n5 =>
    asP v1 fun b6 b7 =>
    ld Tryd.prog h2 120 b6 b7 fun v8 =>
    lok Tryd.prog h2 120 v8 (.int .i64 n5) true fun v9 =>
    ext v9 0 fun v10 =>
    asI .i64 v10 fun _ =>
    ext v9 1 fun v11 =>
    asB v11 fun q0 =>
    ifB (not q0) (
      asP v1 fun _ _ =>
      asP v1 fun b10 b11 =>
      ld Tryd.prog h2 120 b10 b11 fun v12 =>
      asP v2 fun b12 _ =>
      asP v2 fun b14 b15 =>
      ld Tryd.prog h2 120 b14 b15 fun v13 =>
      asP v1 fun _ _ =>
      asP v1 fun b18 b19 =>
      ld Tryd.prog h2 120 b18 b19 fun v14 =>
      mlen h2 v14 fun n7 =>
      mup Tryd.prog h2 120 v12 (.int .i64 n5) (.int .i64 n7) fun h3 =>
      ck (frew b12 v12 (nx h2)) (
        mup Tryd.prog h3 120 v13 (.int .i64 n5) (.int .i64 n0) fun h4 =>
        asP v3 fun b20 b21 =>
        ld Tryd.prog h4 121 b20 b21 fun v15 =>
        callsV rec h4 v15 [(.int .i64 n5)] fun _ h5 =>
        asI .i64 (gv ws0 0) fun n8 =>
        out .normal [(.int .i64 (add .i64 n8 1))] h5)) (
      asI .i64 (gv ws0 0) fun n9 =>
      out .normal [(.int .i64 (add .i64 n9 1))] h2)) (
    out (.exit 0) [gv ws0 0] h2)

noncomputable def f82 (rec : Rec) (k : Nat) (n0 : Int) (v0 : Value) (v1 : Value) (v2 : Value) (v3 : Value) (h0 : H) : Option (Value × H) :=
  asP v0 fun b0 b1 =>
  ld Tryd.prog h0 72 b0 b1 fun v4 =>
  six v4 n0 1 fun b2 b3 =>
  ld Tryd.prog h0 3 b2 b3 fun v5 =>
  asI .i64 v5 fun n1 =>
  calls rec h0 54 [(.int .i64 n1)] fun v6 h1 =>
  len v6 fun n2 =>
  lp k (f82_l1 rec k n0 v1 v2 v3 v6 n2) [(.int .i64 0)] h1 fun e0 _ h6 =>
  onE e0 0 (
    some (undef, h6)) (
    none)

theorem e82 (rec : Rec) (k : Nat) (n0 : Int) (v0 : Value) (v1 : Value) (v2 : Value) (v3 : Value) (h : H) : bodyT Tryd.prog E0 SC (XC Tryd.prog rec k) 82 (Value × H) [.int .i64 n0, .opq v0, .opq v1, .opq v2, .opq v3] h (fun v h => some (v, h)) = f82 rec k n0 v0 v1 v2 v3 h := by kernel_rfl

theorem t82 {k : Nat} {n0 : Int} {v0 : Value} {v1 : Value} {v2 : Value} {v3 : Value} {h h1 : H} {v : Value} (hh : f82 rn k n0 v0 v1 v2 v3 h = some (v, h1)) : rn 82 #[.int .i64 n0, v0, v1, v2, v3] h = some (v, trunc Tryd.prog h h1 v) :=
  run_of_bodyT (args := [.int .i64 n0, .opq v0, .opq v1, .opq v2, .opq v3]) rfl ((e82 _ _ _ _ _ _ _ _).trans hh)

end Go.AM

end

section

/- One-way streets: the two checks. -/
namespace Go.AM
open Go.Proofs
variable {R : Type}
attribute [local simp] nx_eq nx_new nx_set blk_new blk_set asI_int asK_int asB_bool asP_ptr al_eq bx_eq len_slice onE_exit onE_ret onR_ret Value.cells cell_new cell_set rd_new rd_set off eq lt le ifB gv out ext20 ext21
abbrev cellsQ (l : List (Int × Int)) : List (List Value) := l.map fun (q : Int × Int) => [iv q.1, iv q.2]

theorem kbld124 (a b : Int) (K : Value → Option R) : bld Tryd.prog 124 [(0, .int .i64 a), (1, .int .i64 b)] K = K (.agg #[.int .i64 a, .int .i64 b]) := bld_some (by kernel_rfl)

theorem bls68 (a b : Int) (h : H) : buildSlice Tryd.prog 68 1 [(0, .agg #[.int .i64 a, .int .i64 b])] h = some (.slice (some ⟨h.nx, 0, none⟩) 1 1, h.new (.row [iv a, iv b] 124 true)) := by kernel_rfl

theorem app68 : okApp Tryd.prog 68 124 2 = true := by kernel_rfl

/-! ### Plain: the arrows of streets -/
/-- Is a pair of numbers an edge, in one of its directions? -/
def mtE (e : Nat × Nat) (x : Int × Int) : Bool := (x.1 == (e.1 : Int) && x.2 == (e.2 : Int)) || (x.1 == (e.2 : Int) && x.2 == (e.1 : Int))

def addA (g : List Nat) (a b : Nat) : List Nat := g.set a (nb g a ||| 2 ^ b)

def okZ (E : List (Nat × Nat)) (L : List (Int × Int)) : Bool := (E.zip L).all fun p => mtE p.1 p.2

def aheadP (n : Nat) (L : List (Int × Int)) : List Nat := L.foldl (fun g x => addA g x.1.toNat x.2.toNat) (List.replicate n 0)

theorem addA_len (g : List Nat) (a b : Nat) : (addA g a b).length = g.length := by simp [addA]

theorem GrB.addA {g : List Nat} (hg : GrB g) {a b : Nat} (hb : b < g.length) : GrB (addA g a b) := by
  refine ⟨by rw [addA_len]; exact hg.len, fun x hx => ?_⟩
  rw [addA_len]
  rcases List.mem_or_eq_of_mem_set hx with h | rfl
  · exact hg.lt x h
  · exact Nat.or_lt_two_pow (hg.nb_lt a) (Nat.pow_lt_pow_right (by omega) hb)

theorem adj_zero (n a b : Nat) : adj (List.replicate n 0) a b = false := by
  unfold adj nb
  rw [List.getD_eq_getElem?_getD, List.getElem?_replicate]
  split <;> simp

theorem adj_addA {g : List Nat} {a b u v : Nat} (ha : a < g.length) : adj (addA g a b) u v = (adj g u v || decide (u = a ∧ v = b)) := by
  unfold adj AM.addA
  rw [nb_set ha]
  by_cases hu : u = a
  · subst hu
    rw [if_pos rfl, Nat.testBit_or, Nat.testBit_two_pow]
    congr 1
    simp [eq_comm]
  · rw [if_neg hu]; simp [hu]

theorem mtE_nat {e : Nat × Nat} {x : Int × Int} (h : mtE e x = true) : ∃ a c : Nat, x = ((a : Int), (c : Int)) ∧ ((a = e.1 ∧ c = e.2) ∨ (a = e.2 ∧ c = e.1)) := by
  unfold mtE at h
  simp only [Bool.or_eq_true, Bool.and_eq_true, beq_iff_eq] at h
  rcases h with ⟨h1, h2⟩ | ⟨h1, h2⟩
  · exact ⟨e.1, e.2, Prod.ext h1 h2, .inl ⟨rfl, rfl⟩⟩
  · exact ⟨e.2, e.1, Prod.ext h1 h2, .inr ⟨rfl, rfl⟩⟩

/-! ### A store -/
/-! ### The program's loop -/
theorem eqN {a b : Nat} : AM.eq (a : Int) (b : Int) = decide (a = b) := by
  by_cases h : a = b <;> simp [h] <;> omega

end Go.AM

end

section

/- One-way streets, plain: from one node to all and back is the same as from each to each. -/
namespace Go.AM
open Go.Proofs
theorem fold_adj (f : Int × Int → Nat × Nat) {u v : Nat} : ∀ (L : List (Int × Int)) (g : List Nat), (∀ x ∈ L, (f x).1 < g.length) →
    (adj (L.foldl (fun g x => addA g (f x).1 (f x).2) g) u v = true ↔ adj g u v = true ∨ ∃ x ∈ L, f x = (u, v)) := by
  intro L
  induction L with
  | nil => intro g _; simp
  | cons x L ih =>
    intro g hx
    have hx1 := hx x (List.mem_cons_self ..)
    rw [List.foldl_cons, ih _ (fun y hy => by rw [addA_len]; exact hx y (List.mem_cons_of_mem _ hy)), adj_addA hx1]
    simp only [Bool.or_eq_true, decide_eq_true_eq, List.mem_cons]
    constructor
    · rintro ((h | ⟨h1, h2⟩) | ⟨y, hy, h⟩)
      · exact .inl h
      · exact .inr ⟨x, .inl rfl, by rw [h1, h2]⟩
      · exact .inr ⟨y, .inr hy, h⟩
    · rintro (h | ⟨y, rfl | hy, h⟩)
      · exact .inl (.inl h)
      · exact .inl (.inr ⟨by rw [h], by rw [h]⟩)
      · exact .inr ⟨y, hy, h⟩

theorem okZ_get {E : List (Nat × Nat)} {L : List (Int × Int)} (hl : L.length = E.length) (h : okZ E L = true) {i : Nat} {x : Int × Int} (hx : L[i]? = some x) : ∃ e, E[i]? = some e ∧ mtE e x = true := by
  have hi := (List.getElem?_eq_some_iff.1 hx).1
  have he := List.getElem?_eq_getElem (show i < E.length by omega)
  refine ⟨_, he, ?_⟩
  unfold okZ at h
  rw [List.all_eq_true] at h
  exact h (E[i], x) (List.mem_of_getElem? (i := i) (List.getElem?_zip_eq_some.2 ⟨he, hx⟩))

theorem okZ_nat {g : List Nat} {L : List (Int × Int)} (hl : L.length = (edgesP g).length) (h : okZ (edgesP g) L = true) {x : Int × Int} (hx : x ∈ L) : ∃ a c : Nat, x = ((a : Int), (c : Int)) ∧ a < g.length ∧ c < g.length := by
  obtain ⟨i, hi, rfl⟩ := List.getElem_of_mem hx
  obtain ⟨e, he, hm⟩ := okZ_get hl h (List.getElem?_eq_getElem hi)
  obtain ⟨h1, h2, _⟩ := mem_edges.1 (List.mem_of_getElem? he)
  obtain ⟨a, c, h3, h4⟩ := mtE_nat hm
  exact ⟨a, c, h3, by omega, by omega⟩

theorem adj_ahead {g : List Nat} {L : List (Int × Int)} (hl : L.length = (edgesP g).length) (h : okZ (edgesP g) L = true) {u v : Nat} : adj (aheadP g.length L) u v = true ↔ ((u : Int), (v : Int)) ∈ L := by
  have := fold_adj (fun x => (x.1.toNat, x.2.toNat)) (u := u) (v := v) L (List.replicate g.length 0) (fun x hx => by obtain ⟨a, c, rfl, h1, _⟩ := okZ_nat hl h hx; simpa using h1)
  unfold aheadP
  rw [this, adj_zero]
  constructor
  · rintro (h | ⟨x, hx, h3⟩)
    · cases h
    · obtain ⟨a, c, rfl, h1, _⟩ := okZ_nat hl h hx
      simp only [Int.toNat_natCast, Prod.mk.injEq] at h3
      rw [← h3.1, ← h3.2]; exact hx
  · exact fun hx => .inr ⟨_, hx, by simp⟩

theorem all_bit0 {g : List Nat} (hg : GrN g) : (allN g).testBit 0 = true := by rw [allN_bit]; exact decide_eq_true hg.pos

end Go.AM

end

section

/- A search tree: what holds while it grows. Plain. -/
namespace Go.AM
open Go.Proofs
abbrev TL := List (Nat × Int)

def nodesT (T : TL) : List Nat := T.map Prod.fst

/-- Below in the tree. -/
inductive Dn (T : TL) (a : Nat) : Nat → Prop
  | base : Dn T a a
  | step {p u : Nat} : Dn T a p → (u, (p : Int)) ∈ T → Dn T a u

theorem Dn.mono {T T' : TL} {a b : Nat} (h : Dn T a b) (hs : ∀ x ∈ T, x ∈ T') : Dn T' a b := by
  induction h with
  | base => exact .base
  | step _ h2 ih => exact ih.step (hs _ h2)

theorem Dn.trans {T : TL} {a b c : Nat} (h : Dn T a b) (h2 : Dn T b c) : Dn T a c := by
  induction h2 with
  | base => exact h
  | step _ h3 ih => exact ih.step h3

/-- The neighbours of a node came ahead of it or stand below it. -/
def Star (g : List Nat) (T : TL) (x : Nat) : Prop := ∃ T1 T2 p, T = T1 ++ (x, p) :: T2 ∧ ∀ y, adj g x y = true → y ∈ nodesT T1 ∨ Dn T x y

theorem Star.app {g : List Nat} {T : TL} {x : Nat} (h : Star g T x) (X : TL) : Star g (T ++ X) x := by
  obtain ⟨T1, T2, p, rfl, h2⟩ := h
  refine ⟨T1, T2 ++ X, p, by simp, fun y hy => ?_⟩
  rcases h2 y hy with h3 | h3
  · exact .inl h3
  · exact .inr (h3.mono fun z hz => List.mem_append_left _ hz)

structure Wf (g : List Nat) (T : TL) : Prop where
  nodup : (nodesT T).Nodup
  lt : ∀ x ∈ nodesT T, x < g.length
  par : ∀ T1 u q T2, T = T1 ++ (u, q) :: T2 → (T1 = [] ∧ u = 0 ∧ q = -1) ∨ ∃ p : Nat, q = (p : Int) ∧ p ∈ nodesT T1 ∧ adj g p u = true

theorem Wf.len {g : List Nat} {T : TL} (h : Wf g T) : T.length ≤ g.length := by
  have h1 : (nodesT T).length ≤ (List.range g.length).length := len_le (F := fun x => x) h.nodup (fun x hx => List.mem_range.2 (h.lt x hx)) (fun _ _ _ _ e => e)
  simpa [nodesT] using h1

/-- A node more. -/
theorem Wf.snoc {g : List Nat} (hg : GrB g) {T : TL} (h : Wf g T) {u v : Nat} (hv : v ∈ nodesT T) (hu : u ∉ nodesT T) (ha : adj g v u = true) : Wf g (T ++ [(u, (v : Int))]) := by
  have hn : nodesT (T ++ [(u, (v : Int))]) = nodesT T ++ [u] := by simp [nodesT]
  refine ⟨?_, ?_, ?_⟩
  · rw [hn, List.nodup_append]
    refine ⟨h.nodup, by simp, fun a ha' b hb => ?_⟩
    rw [List.mem_singleton] at hb
    rintro rfl
    rw [hb] at ha'
    exact hu ha'
  · intro x hx
    rw [hn, List.mem_append, List.mem_singleton] at hx
    rcases hx with hx | rfl
    · exact h.lt x hx
    · exact (hg.adj_lt ha).2
  · intro T1 u' q T2 he
    rcases List.eq_nil_or_concat T2 with rfl | ⟨T3, y, rfl⟩
    · have := List.append_inj' he rfl
      obtain ⟨rfl, h2⟩ := this
      simp only [List.cons.injEq, Prod.mk.injEq, and_true] at h2
      obtain ⟨rfl, rfl⟩ := h2
      exact .inr ⟨v, rfl, hv, ha⟩
    · rw [List.concat_eq_append, ← List.cons_append, ← List.append_assoc] at he
      exact h.par T1 u' q T3 (List.append_inj' he rfl).1

structure Vis (g : List Nat) (T : TL) (v : Nat) (X : TL) : Prop where
  wf : Wf g (T ++ X)
  dn : ∀ x ∈ nodesT X, Dn (T ++ X) v x
  star : ∀ x, x = v ∨ x ∈ nodesT X → Star g (T ++ X) x

structure Lp (g : List Nat) (T : TL) (v : Nat) (X : TL) (i : Nat) : Prop where
  wf : Wf g (T ++ X)
  dn : ∀ x ∈ nodesT X, Dn (T ++ X) v x
  star : ∀ x ∈ nodesT X, Star g (T ++ X) x
  done : ∀ y ∈ (elts (nb g v)).take i, y ∈ nodesT (T ++ X)

theorem nodesT_app (T X : TL) : nodesT (T ++ X) = nodesT T ++ nodesT X := List.map_append ..

theorem lp0 {g : List Nat} {T : TL} {v : Nat} (h : Wf g T) : Lp g T v [] 0 := ⟨by simpa using h, by simp [nodesT], by simp [nodesT], by simp⟩

theorem Lp.skip {g : List Nat} {T X : TL} {v i u : Nat} (h : Lp g T v X i) (hu : (elts (nb g v))[i]? = some u) (hm : u ∈ nodesT (T ++ X)) : Lp g T v X (i + 1) := by
  refine ⟨h.wf, h.dn, h.star, fun y hy => ?_⟩
  rw [List.take_add_one, hu, List.mem_append] at hy
  rcases hy with hy | hy
  · exact h.done y hy
  · simp at hy; rw [hy]; exact hm

theorem Lp.next {g : List Nat} {T X Y : TL} {v i u : Nat} (h : Lp g T v X i) (hu : (elts (nb g v))[i]? = some u) (hv : Vis g (T ++ X ++ [(u, (v : Int))]) u Y) : Lp g T v (X ++ (u, (v : Int)) :: Y) (i + 1) := by
  have he : T ++ X ++ [(u, (v : Int))] ++ Y = T ++ (X ++ (u, (v : Int)) :: Y) := by simp
  have hv1 := hv.wf
  have hv2 := hv.dn
  have hv3 := hv.star
  rw [he] at hv1 hv2 hv3
  have hsub : ∀ x ∈ T ++ X, x ∈ T ++ (X ++ (u, (v : Int)) :: Y) := fun x hx => by
    rw [← List.append_assoc]; exact List.mem_append_left _ hx
  have hn : nodesT (X ++ (u, (v : Int)) :: Y) = nodesT X ++ u :: nodesT Y := by simp [nodesT]
  have hu' : Dn (T ++ (X ++ (u, (v : Int)) :: Y)) v u := .step .base (by simp)
  refine ⟨hv1, fun x hx => ?_, fun x hx => ?_, fun y hy => ?_⟩
  · rw [hn, List.mem_append, List.mem_cons] at hx
    rcases hx with hx | rfl | hx
    · exact (h.dn x hx).mono hsub
    · exact hu'
    · exact hu'.trans (hv2 x hx)
  · rw [hn, List.mem_append, List.mem_cons] at hx
    rcases hx with hx | rfl | hx
    · rw [← List.append_assoc]; exact (h.star x hx).app _
    · exact hv3 x (.inl rfl)
    · exact hv3 x (.inr hx)
  · rw [← List.append_assoc, nodesT_app, List.mem_append]
    rw [List.take_add_one, hu, List.mem_append] at hy
    rcases hy with hy | hy
    · exact .inl (h.done y hy)
    · simp at hy; subst hy; exact .inr (by simp [nodesT])

theorem Lp.fin {g : List Nat} (hg : GrN g) {T1 X : TL} {v : Nat} {p : Int} (h : Lp g (T1 ++ [(v, p)]) v X (elts (nb g v)).length) : Vis g (T1 ++ [(v, p)]) v X := by
  refine ⟨h.wf, h.dn, fun x hx => ?_⟩
  rcases hx with rfl | hx
  · refine ⟨T1, X, p, by simp, fun y hy => ?_⟩
    have hm := h.done y (by
      rw [List.take_length]
      exact (mem_elts (Nat.lt_of_lt_of_le (hg.nb_lt _) hg.pow)).2 hy)
    rw [nodesT_app, nodesT_app, List.mem_append, List.mem_append] at hm
    rcases hm with (hm | hm) | hm
    · exact .inl hm
    · simp only [nodesT, List.map_cons, List.map_nil, List.mem_singleton] at hm
      subst hm
      rw [hg.irr] at hy; cases hy
    · exact .inr (h.dn y hm)
  · exact h.star x hx

theorem wf0 {g : List Nat} (hg : GrN g) : Wf g [(0, -1)] := by
  refine ⟨by simp [nodesT], by simp [nodesT]; exact hg.pos, fun T1 u q T2 he => ?_⟩
  cases T1 with
  | nil => simp at he; exact .inl ⟨rfl, he.1.1.symm, he.1.2.symm⟩
  | cons a T1 => simp at he

end Go.AM

end

section

/- Streets down a search tree, and up all others: strong where no edge is a bridge. And strong streets only there. Plain. -/
namespace Go.AM
open Go.Proofs
/-! ### A node's place and its parent -/
def numP : TL → Nat → Nat
  | [], _ => 0
  | y :: T, x => if y.1 = x then 0 else numP T x + 1

def parP : TL → Nat → Int
  | [], _ => 0
  | y :: T, x => if y.1 = x then y.2 else parP T x

theorem numP_at {T1 T2 : TL} {x : Nat} {p : Int} (h : x ∉ nodesT T1) : numP (T1 ++ (x, p) :: T2) x = T1.length := by
  induction T1 with
  | nil => simp [numP]
  | cons y T1 ih =>
    simp only [nodesT, List.map_cons, List.mem_cons, not_or] at h
    simp only [List.cons_append, numP, List.length_cons]
    rw [if_neg (fun e => h.1 e.symm), ih h.2]

theorem parP_at {T1 T2 : TL} {x : Nat} {p : Int} (h : x ∉ nodesT T1) : parP (T1 ++ (x, p) :: T2) x = p := by
  induction T1 with
  | nil => simp [parP]
  | cons y T1 ih =>
    simp only [nodesT, List.map_cons, List.mem_cons, not_or] at h
    simp only [List.cons_append, parP]
    rw [if_neg (fun e => h.1 e.symm), ih h.2]

theorem numP_ahead {T1 T2 : TL} {y : Nat} (h : y ∈ nodesT T1) : numP (T1 ++ T2) y < T1.length := by
  induction T1 with
  | nil => simp [nodesT] at h
  | cons z T1 ih =>
    simp only [List.cons_append, numP, List.length_cons]
    split
    · omega
    · rename_i hz
      simp only [nodesT, List.map_cons, List.mem_cons] at h
      rcases h with h | h
      · exact absurd h.symm hz
      · have := ih h; omega

theorem split_at {T : TL} {x : Nat} {q : Int} (h : (x, q) ∈ T) (hn : (nodesT T).Nodup) : ∃ T1 T2, T = T1 ++ (x, q) :: T2 ∧ x ∉ nodesT T1 := by
  obtain ⟨T1, T2, rfl⟩ := List.append_of_mem h
  refine ⟨T1, T2, rfl, fun hm => ?_⟩
  rw [nodesT_app, List.nodup_append] at hn
  exact hn.2.2 x hm x (by simp [nodesT]) rfl

theorem split_node {T : TL} {x : Nat} (h : x ∈ nodesT T) (hn : (nodesT T).Nodup) : ∃ T1 q T2, T = T1 ++ (x, q) :: T2 ∧ x ∉ nodesT T1 := by
  obtain ⟨⟨y, q⟩, hy, rfl⟩ := List.mem_map.1 h
  obtain ⟨T1, T2, h1, h2⟩ := split_at hy hn
  exact ⟨T1, q, T2, h1, h2⟩

section
variable {g : List Nat} {T : TL}
theorem parP_of (hw : Wf g T) {x : Nat} {q : Int} (h : (x, q) ∈ T) : parP T x = q := by
  obtain ⟨T1, T2, rfl, h2⟩ := split_at h hw.nodup
  exact parP_at h2

theorem num_parent (hw : Wf g T) {x p : Nat} (h : (x, (p : Int)) ∈ T) : numP T p < numP T x ∧ adj g p x = true := by
  obtain ⟨T1, T2, rfl, h2⟩ := split_at h hw.nodup
  rcases hw.par T1 x p T2 rfl with ⟨_, _, h3⟩ | ⟨p', h3, h4, h5⟩
  · omega
  · have : p' = p := by omega
    subst this
    rw [numP_at h2]
    exact ⟨numP_ahead h4, h5⟩

theorem Dn.num (hw : Wf g T) {a b : Nat} (h : Dn T a b) : a = b ∨ numP T a < numP T b := by
  induction h with
  | base => exact .inl rfl
  | step _ h2 ih =>
    have := (num_parent hw h2).1
    rcases ih with rfl | h3
    · exact .inr this
    · exact .inr (by omega)

theorem Dn.chain (hw : Wf g T) {u y x : Nat} (h : Dn T u x) (h' : Dn T y x) : Dn T u y ∨ Dn T y u := by
  induction h with
  | base => exact .inr h'
  | step h1 h2 ih =>
    cases h' with
    | base => exact .inl (h1.step h2)
    | step h3 h4 =>
      have e1 := parP_of hw h2
      have e2 := parP_of hw h4
      rw [e1] at e2
      have := Int.natCast_inj.1 e2
      subst this
      exact ih h3

/-! ### The streets -/
def orE (T : TL) (e : Nat × Nat) : Nat × Nat :=
  let s := if numP T e.2 < numP T e.1 then (e.2, e.1) else e
  if parP T s.2 = (s.1 : Int) then s else (s.2, s.1)

def castP (s : Nat × Nat) : Int × Int := ((s.1 : Int), (s.2 : Int))

def streetsP (g : List Nat) (T : TL) : List (Int × Int) := (edgesP g).map fun e => castP (orE T e)

theorem orE_or (T : TL) (e : Nat × Nat) : orE T e = e ∨ orE T e = (e.2, e.1) := by
  unfold orE
  by_cases h1 : numP T e.2 < numP T e.1
  · simp only [h1, if_true]
    split
    · exact .inr rfl
    · exact .inl rfl
  · simp only [h1, if_false]
    split
    · exact .inl rfl
    · exact .inr rfl

theorem streets_len (g : List Nat) (T : TL) : (streetsP g T).length = (edgesP g).length := by simp [streetsP]

theorem streets_ok (g : List Nat) (T : TL) : okZ (edgesP g) (streetsP g T) = true := by
  unfold okZ streetsP
  rw [List.all_eq_true]
  intro p hp
  rw [List.zip_map_right, List.mem_map] at hp
  obtain ⟨⟨a, b⟩, hq, rfl⟩ := hp
  have hab : a = b := by
    obtain ⟨i, hi⟩ := List.mem_iff_getElem?.1 hq
    rw [List.getElem?_zip_eq_some] at hi
    have := hi.1.symm.trans hi.2
    exact Option.some.inj this
  subst hab
  simp only [Prod.map, id_eq]
  unfold mtE castP
  rcases orE_or T a with h | h <;> rw [h] <;> simp

/-- Which way an edge goes. -/
theorem mem_streets (hg : GrN g) {a b : Nat} (h : adj g a b = true) (hlt : numP T a < numP T b) : (if parP T b = (a : Int) then castP (a, b) else castP (b, a)) ∈ streetsP g T := by
  have hne : a ≠ b := by rintro rfl; omega
  obtain ⟨h1, h2⟩ := hg.toGrB.adj_lt h
  unfold streetsP
  rw [List.mem_map]
  by_cases hab : a < b
  · refine ⟨(a, b), mem_edges.2 ⟨hab, h2, h⟩, ?_⟩
    unfold orE
    have h' : ¬ numP T b < numP T a := by omega
    simp only [h', if_false]
    by_cases hp : parP T b = (a : Int)
    · rw [if_pos hp, if_pos hp]
    · rw [if_neg hp, if_neg hp]
  · refine ⟨(b, a), mem_edges.2 ⟨by simp only; omega, h1, by simp only; rw [hg.sym]; exact h⟩, ?_⟩
    unfold orE
    simp only [hlt, if_true]
    by_cases hp : parP T b = (a : Int)
    · rw [if_pos hp, if_pos hp]
    · rw [if_neg hp, if_neg hp]

theorem exit_of {G : List Nat} {W : Nat} {S : Nat → Prop} {u p : Nat} (h : Rch G W u p) (hu : S u) (hp : ¬ S p) : ∃ x y, S x ∧ ¬ S y ∧ adj G x y = true := by
  induction h with
  | base => exact absurd hu hp
  | @step a b h1 h2 h3 ih =>
    by_cases ha : S a
    · exact ⟨a, b, ha, hp, h2⟩
    · exact ih ha

/-- A search tree of the whole graph. -/
structure Tree (g : List Nat) (T : TL) : Prop where
  wf : Wf g T
  dn : ∀ x ∈ nodesT T, Dn T 0 x
  star : ∀ x ∈ nodesT T, Star g T x
  zero : 0 ∈ nodesT T

theorem Vis.tree {X : TL} (h : Vis g [(0, -1)] 0 X) : Tree g ([(0, -1)] ++ X) := by
  refine ⟨h.wf, fun x hx => ?_, fun x hx => ?_, by simp [nodesT]⟩
  · rw [nodesT_app, List.mem_append] at hx
    rcases hx with hx | hx
    · simp [nodesT] at hx; subst hx; exact .base
    · exact h.dn x hx
  · rw [nodesT_app, List.mem_append] at hx
    rcases hx with hx | hx
    · simp [nodesT] at hx; exact h.star x (.inl hx)
    · exact h.star x (.inr hx)

theorem Star.sees (hw : Wf g T) {x y : Nat} (h : Star g T x) (ha : adj g x y = true) : numP T y < numP T x ∨ Dn T x y := by
  obtain ⟨T1, T2, p, rfl, h2⟩ := h
  rcases h2 y ha with h3 | h3
  · left
    rw [numP_at]
    · exact numP_ahead h3
    · intro hm
      have := hw.nodup
      rw [nodesT_app, List.nodup_append] at this
      exact this.2.2 x hm x (by simp [nodesT]) rfl
  · exact .inr h3

theorem Dn.node {a b : Nat} (h : Dn T a b) (ha : a ∈ nodesT T) : b ∈ nodesT T := by
  cases h with
  | base => exact ha
  | step _ h2 => exact List.mem_map.2 ⟨_, h2, rfl⟩

theorem Star.node {x y : Nat} (h : Star g T x) (ha : adj g x y = true) : y ∈ nodesT T := by
  obtain ⟨T1, T2, p, rfl, h2⟩ := h
  rcases h2 y ha with h3 | h3
  · rw [nodesT_app]; exact List.mem_append_left _ h3
  · exact h3.node (by simp [nodesT])

theorem Tree.all (hg : GrN g) (ht : Tree g T) (hc : Conn g (allN g)) {x : Nat} (hx : x < g.length) : x ∈ nodesT T := by
  have h : Rch g (allN g) 0 x := hc 0 x (all_bit0 hg) (by rw [allN_bit]; exact decide_eq_true hx)
  induction h with
  | base => exact ht.zero
  | step _ h2 h3 ih => exact (ht.star _ (ih (hg.toGrB.adj_lt h2).1)).node h2

theorem no_bridge (hg : GrN g) (hb : bridgesP g = []) {u p : Nat} (ha : adj g u p = true) : ∃ G, Rch G (allN g) u p ∧ ∀ x y, adj G x y = true → adj g x y = true ∧ ¬ (x = u ∧ y = p) ∧ ¬ (x = p ∧ y = u) := by
  obtain ⟨h1, h2⟩ := hg.toGrB.adj_lt ha
  have hne : u ≠ p := by rintro rfl; rw [hg.irr] at ha; cases ha
  have key : ∀ a b, a < b → b < g.length → adj g a b = true → Rch (delE g a b) (allN g) a b := by
    intro a b hab hbn hadj
    have hr : roundQ g a b = true := by
      cases hq : roundQ g a b with
      | true => rfl
      | false =>
        have : (a, b) ∈ bridgesP g := List.mem_filter.2 ⟨mem_edges.2 ⟨hab, hbn, hadj⟩, by simp [hq]⟩
        rw [hb] at this; cases this
    exact (round_iff hg (by omega)).1 hr
  rcases Nat.lt_or_gt_of_ne hne with hlt | hlt
  · refine ⟨_, key u p hlt h2 ha, fun x y hxy => ?_⟩
    rw [adj_delE h1 h2 hne] at hxy
    simp only [Bool.and_eq_true, Bool.not_eq_true', Bool.or_eq_false_iff, decide_eq_false_iff_not] at hxy
    exact ⟨hxy.1, hxy.2.1, hxy.2.2⟩
  · have hs : ∀ a b, adj (delE g p u) a b = adj (delE g p u) b a := by
      intro a b
      rw [adj_delE h2 h1 (fun e => hne e.symm), adj_delE h2 h1 (fun e => hne e.symm), hg.sym a b]
      congr 2
      rw [Bool.or_comm]
      congr 1 <;> simp [and_comm]
    refine ⟨_, (key p u hlt h1 (by rw [hg.sym]; exact ha)).sym hs (by rw [allN_bit]; exact decide_eq_true h2), fun x y hxy => ?_⟩
    rw [adj_delE h2 h1 (fun e => hne e.symm)] at hxy
    simp only [Bool.and_eq_true, Bool.not_eq_true', Bool.or_eq_false_iff, decide_eq_false_iff_not] at hxy
    exact ⟨hxy.1, hxy.2.2, hxy.2.1⟩

theorem arrow_of (hg : GrN g) {a b : Nat} (h : castP (a, b) ∈ streetsP g T) : adj (aheadP g.length (streetsP g T)) a b = true :=
  (adj_ahead (streets_len g T) (streets_ok g T)).2 h

theorem Dn.reach (hg : GrN g) (hw : Wf g T) {a b : Nat} (h : Dn T a b) : Rch (aheadP g.length (streetsP g T)) (allN g) a b := by
  induction h with
  | base => exact .base
  | @step p u h1 h2 ih =>
    obtain ⟨h3, h4⟩ := num_parent hw h2
    have := mem_streets (T := T) hg h4 h3
    rw [if_pos (parP_of hw h2)] at this
    exact ih.step (arrow_of hg this) (by rw [allN_bit]; exact decide_eq_true (hg.toGrB.adj_lt h4).2)

/-- From each node but the first there is a way to an earlier one. -/
theorem Tree.up (hg : GrN g) (ht : Tree g T) (hb : bridgesP g = []) {u : Nat} (hu : u ∈ nodesT T) (h0 : u ≠ 0) : ∃ y ∈ nodesT T, numP T y < numP T u ∧ Rch (aheadP g.length (streetsP g T)) (allN g) u y := by
  have hw := ht.wf
  obtain ⟨T1, q, T2, hT, hu1⟩ := split_node hu hw.nodup
  obtain ⟨p, rfl, hp1, hp2⟩ : ∃ p : Nat, q = (p : Int) ∧ p ∈ nodesT T1 ∧ adj g p u = true := by
    rcases hw.par T1 u q T2 hT with ⟨_, h, _⟩ | h
    · exact absurd h h0
    · exact h
  have hup : (u, (p : Int)) ∈ T := by rw [hT]; simp
  have hnum := (num_parent hw hup).1
  obtain ⟨G, hG, hG2⟩ := no_bridge hg hb (show adj g u p = true by rw [hg.sym]; exact hp2)
  have hnp : ¬ Dn T u p := fun h => by
    rcases h.num hw with e | e
    · subst e; omega
    · omega
  obtain ⟨x, y, hx, hy, hxy⟩ := exit_of (S := Dn T u) hG .base hnp
  obtain ⟨hadj, hne1, hne2⟩ := hG2 x y hxy
  have hxn := hx.node hu
  have hyn := (ht.star x hxn).node hadj
  have hlt : numP T y < numP T x := by
    rcases (ht.star x hxn).sees hw hadj with h | h
    · exact h
    · exact absurd (hx.trans h) hy
  have hyx : Dn T y x := by
    rcases (ht.star y hyn).sees hw (by rw [hg.sym]; exact hadj) with h | h
    · omega
    · exact h
  have hyu : numP T y < numP T u := by
    rcases hx.chain hw hyx with h | h
    · exact absurd h hy
    · rcases h.num hw with e | e
      · subst e; exact absurd .base hy
      · exact e
  refine ⟨y, hyn, hyu, (hx.reach hg hw).step (b := y) ?_ (by rw [allN_bit]; exact decide_eq_true (hw.lt y hyn))⟩
  have hpar : parP T x ≠ (y : Int) := by
    intro he
    obtain ⟨T1', q', T2', hT', hx1⟩ := split_node hxn hw.nodup
    have hq' : (x, q') ∈ T := by rw [hT']; simp
    rw [parP_of hw hq'] at he
    subst he
    cases hx with
    | base =>
      have e1 := parP_of hw hq'
      rw [parP_of hw hup] at e1
      have := Int.natCast_inj.1 e1
      exact hne1 ⟨rfl, this.symm⟩
    | step h1 h2 =>
      have e1 := parP_of hw hq'
      rw [parP_of hw h2] at e1
      have := Int.natCast_inj.1 e1
      subst this
      exact hy h1
  have := mem_streets (T := T) hg (show adj g y x = true by rw [hg.sym]; exact hadj) hlt
  rw [if_neg hpar] at this
  exact arrow_of hg this

end
/-! ### Strong streets only without bridges -/
end Go.AM

end

section

/- A shortest way: what holds while the search runs. Plain. -/
namespace Go.AM
open Go.Proofs
/-- What the search has seen, in order, each with the node ahead of it. -/
structure BW (g : List Nat) (a to W : Nat) (T : TL) : Prop where
  nodup : (nodesT T).Nodup
  root : ∃ T', T = (a, -1) :: T'
  lt : ∀ x ∈ nodesT T, x < g.length
  par : ∀ T1 u q T2, T = T1 ++ (u, q) :: T2 → T1 = [] ∨ ∃ p : Nat, q = (p : Int) ∧ p ∈ nodesT T1 ∧ adj g p u = true ∧ W.testBit u = true ∧ to.testBit p = false

/-- From a node up to the root. -/
inductive Up (T : TL) : Nat → List Nat → Prop
  | root {v : Nat} : (v, -1) ∈ T → Up T v [v]
  | step {v p : Nat} {l : List Nat} : (v, (p : Int)) ∈ T → Up T p l → Up T v (v :: l)

section
variable {g : List Nat} {a to W : Nat} {T : TL}
theorem BW.snoc (hg : GrB g) (h : BW g a to W T) {u v : Nat} (hv : v ∈ nodesT T) (hu : u ∉ nodesT T) (ha : adj g v u = true) (hW : W.testBit u = true) (ht : to.testBit v = false) : BW g a to W (T ++ [(u, (v : Int))]) := by
  have hn : nodesT (T ++ [(u, (v : Int))]) = nodesT T ++ [u] := by simp [nodesT]
  refine ⟨?_, ?_, ?_, ?_⟩
  · rw [hn, List.nodup_append]
    refine ⟨h.nodup, by simp, fun x hx y hy => ?_⟩
    rw [List.mem_singleton] at hy
    rintro rfl
    rw [hy] at hx
    exact hu hx
  · obtain ⟨T', rfl⟩ := h.root
    exact ⟨T' ++ [(u, (v : Int))], rfl⟩
  · intro x hx
    rw [hn, List.mem_append, List.mem_singleton] at hx
    rcases hx with hx | rfl
    · exact h.lt x hx
    · exact (hg.adj_lt ha).2
  · intro T1 u' q T2 he
    rcases List.eq_nil_or_concat T2 with rfl | ⟨T3, y, rfl⟩
    · obtain ⟨rfl, h2⟩ := List.append_inj' he rfl
      simp only [List.cons.injEq, Prod.mk.injEq, and_true] at h2
      obtain ⟨rfl, rfl⟩ := h2
      exact .inr ⟨v, rfl, hv, ha, hW, ht⟩
    · rw [List.concat_eq_append, ← List.cons_append, ← List.append_assoc] at he
      exact h.par T1 u' q T3 (List.append_inj' he rfl).1

theorem bw0 (hg : GrB g) (ha : a < g.length) : BW g a to W [(a, -1)] := by
  refine ⟨by simp [nodesT], ⟨[], rfl⟩, by simp [nodesT]; exact ha, fun T1 u q T2 he => ?_⟩
  cases T1 with
  | nil => exact .inl rfl
  | cons b T1 => simp at he

theorem BW.parP (h : BW g a to W T) {x : Nat} {q : Int} (hx : (x, q) ∈ T) : parP T x = q := by
  obtain ⟨T1, T2, rfl, h2⟩ := split_at hx h.nodup
  exact parP_at h2

/-- A node is the root, or has its parent earlier. -/
theorem BW.node (h : BW g a to W T) {v : Nat} (hv : v ∈ nodesT T) : (v = a ∧ (v, -1) ∈ T) ∨ ∃ p : Nat, (v, (p : Int)) ∈ T ∧ p ∈ nodesT T ∧ numP T p < numP T v ∧ adj g p v = true ∧ W.testBit v = true ∧ to.testBit p = false := by
  obtain ⟨T1, q, T2, rfl, h2⟩ := split_node hv h.nodup
  rcases h.par T1 v q T2 rfl with rfl | ⟨p, rfl, h3, h4, h5, h6⟩
  · obtain ⟨T', hT⟩ := h.root
    simp only [List.nil_append, List.cons.injEq, Prod.mk.injEq] at hT
    obtain ⟨⟨rfl, rfl⟩, _⟩ := hT
    exact .inl ⟨rfl, by simp⟩
  · refine .inr ⟨p, by simp, ?_, ?_, h4, h5, h6⟩
    · rw [nodesT_app]; exact List.mem_append_left _ h3
    · rw [numP_at h2]; exact numP_ahead h3

theorem BW.up (h : BW g a to W T) : ∀ (d v : Nat), v ∈ nodesT T → numP T v < d → ∃ l, Up T v l := by
  intro d
  induction d with
  | zero => intro v _ hd; omega
  | succ d ih =>
    intro v hv hd
    rcases h.node hv with ⟨_, h1⟩ | ⟨p, h1, h2, h3, _⟩
    · exact ⟨[v], .root h1⟩
    · obtain ⟨l, hl⟩ := ih p h2 (by omega)
      exact ⟨v :: l, .step h1 hl⟩

/-- A way from a node (the list's last one) to another (its first one): read backward. -/
structure WayB (g : List Nat) (a W to : Nat) (l : List Nat) : Prop where
  last : l.getLast? = some a
  nodup : l.Nodup
  lt : ∀ x ∈ l, x < g.length
  chain : ∀ i, i + 1 < l.length → adj g (nb l (i + 1)) (nb l i) = true
  inW : ∀ x ∈ l.dropLast, W.testBit x = true
  noTo : ∀ x ∈ l.tail, to.testBit x = false

theorem Up.way (h : BW g a to W T) {v : Nat} {l : List Nat} (hu : Up T v l) : WayB g a W to l ∧ l.head? = some v ∧ ∀ x ∈ l, x ∈ nodesT T ∧ numP T x ≤ numP T v := by
  induction hu with
  | @root v hv =>
    have hvn : v ∈ nodesT T := List.mem_map.2 ⟨_, hv, rfl⟩
    rcases h.node hvn with ⟨h1, _⟩ | ⟨p, h1, _⟩
    · subst h1
      refine ⟨⟨rfl, by simp, ?_, ?_, by simp, by simp⟩, rfl, ?_⟩
      · intro x hx; rw [List.mem_singleton] at hx; rw [hx]; exact h.lt v hvn
      · intro i hi; simp at hi
      · intro x hx; rw [List.mem_singleton] at hx; rw [hx]; exact ⟨hvn, Nat.le_refl _⟩
    · have e1 := h.parP hv
      rw [h.parP h1] at e1
      omega
  | @step v p l hv hl ih =>
    obtain ⟨w, hd, hle⟩ := ih
    have hvn : v ∈ nodesT T := List.mem_map.2 ⟨_, hv, rfl⟩
    rcases h.node hvn with ⟨_, h1⟩ | ⟨p', h1, h2, h3, h4, h5, h6⟩
    · have e1 := h.parP hv
      rw [h.parP h1] at e1
      omega
    · have e1 := h.parP hv
      rw [h.parP h1] at e1
      have := Int.natCast_inj.1 e1
      subst this
      have hne : l ≠ [] := by rintro rfl; simp at hd
      obtain ⟨y, l', rfl⟩ : ∃ y l', l = y :: l' := by
        cases l with
        | nil => exact absurd rfl hne
        | cons y l' => exact ⟨y, l', rfl⟩
      simp only [List.head?_cons, Option.some.injEq] at hd
      subst hd
      refine ⟨⟨?_, ?_, ?_, ?_, ?_, ?_⟩, rfl, ?_⟩
      · rw [List.getLast?_cons_cons]; exact w.last
      · rw [List.nodup_cons]
        refine ⟨fun hm => ?_, w.nodup⟩
        have := (hle v hm).2
        omega
      · intro x hx
        rw [List.mem_cons] at hx
        rcases hx with rfl | hx
        · exact h.lt _ hvn
        · exact w.lt x hx
      · intro i hi
        cases i with
        | zero => exact h4
        | succ i =>
          have := w.chain i (by simpa using hi)
          exact this
      · intro x hx
        rw [List.dropLast_cons_of_ne_nil (by simp), List.mem_cons] at hx
        rcases hx with rfl | hx
        · exact h5
        · exact w.inW x hx
      · intro x hx
        simp only [List.tail_cons, List.mem_cons] at hx
        rcases hx with rfl | hx
        · exact h6
        · exact w.noTo x hx
      · intro x hx
        rw [List.mem_cons] at hx
        rcases hx with rfl | hx
        · exact ⟨hvn, Nat.le_refl _⟩
        · have := hle x hx
          exact ⟨this.1, by omega⟩

/-- Where all that was seen has been gone on from, nothing else is reached. -/
theorem BW.closed (h : BW g a to W T) (hc : ∀ v ∈ nodesT T, ∀ u, adj g v u = true → W.testBit u = true → u ∈ nodesT T) {u : Nat} (hr : Rch g W a u) : u ∈ nodesT T := by
  induction hr with
  | base =>
    obtain ⟨T', rfl⟩ := h.root
    simp [nodesT]
  | step _ h2 h3 ih => exact hc _ ih _ h2 h3

end
end Go.AM

end

section

/- The staged forms of functions 30, 75, 78, 80, 105, 102, and what calls of these answer. -/
namespace Go.AM
open Go.Proofs
noncomputable def f30_l2 (rec : Rec) (_k : Nat) (v2 : Value) (h3 : H) (h5 : H) (h7 : H) (v21 : Value) (n6 : Int) (ws1 : List Value) (h21 : H) : Option (Ex × List Value × H) :=
  asI .i64 (gv ws1 0) fun n7 =>
  ifB (lt n7 n6) (
    asK (gv ws1 0) fun n8 =>
    six v21 n8 1 fun b2 b3 =>
    ld Tryd.prog h21 3 b2 b3 fun v22 =>
    asI .i64 v22 fun n9 =>
    ld Tryd.prog h21 72 (nx h3) 0 fun v23 =>
    six v23 n9 1 fun b4 b5 =>
    ld Tryd.prog h21 3 b4 b5 fun v24 =>
    asI .i64 v24 fun n10 =>
    ifB (eq n10 0) (
      asI .i64 (gv ws1 0) fun n11 =>
      out .normal [(.int .i64 (add .i64 n11 1))] h21) (
      ld Tryd.prog h21 72 (nx h3) 0 fun v25 =>
      six v25 n9 1 fun b6 b7 =>
      ld Tryd.prog h21 3 b6 b7 fun v26 =>
      asI .i64 v26 fun n12 =>
      calls rec h21 79 [(.int .u64 (wr .u64 n12))] fun v27 h22 =>
      asI .i64 v27 fun n13 =>
      ld Tryd.prog h22 3 (nx h5) 0 fun v28 =>
      asI .i64 v28 fun n14 =>
      nn n9 (
        calls rec h22 43 [v2] fun v29 h23 =>
        asI .i64 v29 fun n15 =>
        ck (freq (nx h5) (nx h22) (same h23 h22)) (
          ld Tryd.prog h23 3 (nx h5) 0 fun v30 =>
          asI .i64 v30 fun n16 =>
          ck (freq (nx h5) (nx h22) (same h23 h22)) (
            calls rec h23 78 [v2, (.int .i64 n13), (.int .i64 (andNot .i64 n14 (shl .i64 1 n9))), (.int .i64 (andNot .i64 n15 n16))] fun v31 h24 =>
            bls Tryd.prog h24 66 1 [(0, (.int .i64 n9))] fun v32 h25 =>
            ck (freq (nx h5) (nx h24) (same h25 h24)) (
              ck (freq (nx h5) (nx h24) (same h25 h24)) (
                app Tryd.prog h25 66 22 v32 v31 fun v33 h26 =>
                calls rec h26 75 [v33, (pt (nx h5) 0), (pt (nx h3) 0), (pt (nx h7) 0)] fun _ h27 =>
                out (.exit 2) [gv ws1 0] h27))))))) (
    out (.exit 2) [gv ws1 0] h21)

noncomputable def f30_l1 (rec : Rec) (k : Nat) (v2 : Value) (h3 : H) (h5 : H) (h7 : H) (_ws0 : List Value) (h18 : H) : Option (Ex × List Value × H) :=
  ld Tryd.prog h18 72 (nx h3) 0 fun v18 =>
  calls rec h18 77 [v18] fun v19 h19 =>
  len v19 fun n4 =>
  ifB (lt 0 n4) (
    ld Tryd.prog h19 3 (nx h5) 0 fun v20 =>
    asI .i64 v20 fun n5 =>
    calls rec h19 54 [(.int .i64 n5)] fun v21 h20 =>
    len v21 fun n6 =>
    lp k (f30_l2 rec k v2 h3 h5 h7 v21 n6) [(.int .i64 0)] h20 fun e0 _ h28 =>
    onE e0 2 (
      out .normal [] h28) (
      none)) (
    out (.exit 0) [] h19)

noncomputable def f30 (rec : Rec) (k : Nat) (v0 : Value) (h0 : H) : Option (Value × H) :=
  calls rec h0 36 [v0] fun v1 h1 =>
  ext v1 0 fun v2 =>
  ext v1 1 fun v3 =>
  asB v3 fun q0 =>
  ifB (not q0) (
    some ((.tuple #[(.slice none 0 0), (.int .i64 2)]), h1)) (
    calls rec h1 73 [v2] fun v4 h2 =>
    asB v4 fun q1 =>
    ifB (not q1) (
      some ((.tuple #[(.slice none 0 0), (.int .i64 5)]), h2)) (
      calls rec h2 74 [v2] fun v5 h3 =>
      al h3 72 [(.slice none 0 0)] fun h4 =>
      st Tryd.prog h4 72 (nx h3) 0 v5 fun h5 =>
      al h5 3 [(.int .i64 0)] fun h6 =>
      st Tryd.prog h6 3 (nx h5) 0 (.int .i64 0) fun h7 =>
      al h7 61 [(.slice none 0 0)] fun h8 =>
      calls rec h8 77 [v2] fun v6 h9 =>
      six v6 0 2 fun b0 b1 =>
      ld Tryd.prog h9 83 b0 b1 fun v7 =>
      al h9 83 [(.int .i64 0), (.int .i64 0)] fun h10 =>
      st Tryd.prog h10 83 (nx h9) 0 v7 fun h11 =>
      ld Tryd.prog h11 83 (nx h9) 0 fun v8 =>
      calls rec h11 76 [v2, v8] fun v9 h12 =>
      aix 2 0 (
        ld Tryd.prog h12 3 (nx h9) (at_ 0 0 1) fun v10 =>
        asI .i64 v10 fun n0 =>
        ck (freq (nx h9) (nx h11) (same h12 h11)) (
          aix 2 1 (
            ld Tryd.prog h12 3 (nx h9) (at_ 0 1 1) fun v11 =>
            asI .i64 v11 fun n1 =>
            ck (freq (nx h9) (nx h11) (same h12 h11)) (
              nn n1 (
                calls rec h12 43 [v2] fun v12 h13 =>
                asI .i64 v12 fun n2 =>
                ck (freq (nx h9) (nx h12) (same h13 h12)) (
                  ck (freq (nx h9) (nx h12) (same h13 h12)) (
                    calls rec h13 78 [v9, (.int .i64 n0), (.int .i64 (shl .i64 1 n1)), (.int .i64 n2)] fun v13 h14 =>
                    aix 2 0 (
                      ld Tryd.prog h14 3 (nx h9) (at_ 0 0 1) fun v14 =>
                      asI .i64 v14 fun n3 =>
                      ck (freq (nx h9) (nx h13) (same h14 h13)) (
                        ck (freq (nx h9) (nx h12) (same h13 h12)) (
                          ck (freq (nx h9) (nx h11) (same h12 h11)) (
                            bls Tryd.prog h14 66 1 [(0, (.int .i64 n3))] fun v15 h15 =>
                            ck (freq (nx h9) (nx h14) (same h15 h14)) (
                              ck (freq (nx h9) (nx h14) (same h15 h14)) (
                                ck (freq (nx h9) (nx h14) (same h15 h14)) (
                                  app Tryd.prog h15 66 66 v13 v15 fun v16 h16 =>
                                  calls rec h16 75 [v16, (pt (nx h5) 0), (pt (nx h3) 0), (pt (nx h7) 0)] fun _ h17 =>
                                  lp k (f30_l1 rec k v2 h3 h5 h7) [] h17 fun e1 _ h29 =>
                                  onE e1 0 (
                                    ld Tryd.prog h29 61 (nx h7) 0 fun v35 =>
                                    some ((.tuple #[v35, (.int .i64 0)]), h29)) (
                                    none)))))))))))))))))

theorem e30 (rec : Rec) (k : Nat) (v0 : Value) (h : H) : bodyT Tryd.prog E0 SC (XC Tryd.prog rec k) 30 (Value × H) [.opq v0] h (fun v h => some (v, h)) = f30 rec k v0 h := by kernel_rfl

theorem t30 {k : Nat} {v0 : Value} {h h1 : H} {v : Value} (hh : f30 rn k v0 h = some (v, h1)) : rn 30 #[v0] h = some (v, trunc Tryd.prog h h1 v) :=
  run_of_bodyT (args := [.opq v0]) rfl ((e30 _ _ _ _).trans hh)

theorem x30 {k : Nat} {v0 : Value} {h h1 : H} {v : Value} (hh : f30 rn k v0 h = some (v, h1)) (hp : plainO v = false) : ∃ h2, rn 30 #[v0] h = some (v, h2) ∧ Sm h1 h2 ∧ (Ext h h1 → Exw h h2) := trunc_cell hp (t30 hh)

theorem y30 {k : Nat} {v0 : Value} {h : H} {v : Value} (hh : f30 rn k v0 h = some (v, h)) : rn 30 #[v0] h = some (v, h) := by rw [t30 hh, trunc_self]

noncomputable def f75_l1 (rec : Rec) (_k : Nat) (v0 : Value) (v1 : Value) (v2 : Value) (n0 : Int) (ws0 : List Value) (h1 : H) : Option (Ex × List Value × H) :=
  asI .i64 (gv ws0 0) fun n1 =>
  ifB (lt n1 n0) (
    asK (gv ws0 0) fun n2 =>
    six v0 n2 1 fun b0 b1 =>
    ld Tryd.prog h1 3 b0 b1 fun v4 =>
    asI .i64 v4 fun n3 =>
    asP v1 fun _ _ =>
    asP v1 fun b4 b5 =>
    ld Tryd.prog h1 3 b4 b5 fun v5 =>
    asI .i64 v5 fun n4 =>
    nn n3 (
      asP v1 fun _ _ =>
      asP v1 fun b8 b9 =>
      st Tryd.prog h1 3 b8 b9 (.int .i64 (or .i64 n4 (shl .i64 1 n3))) fun h2 =>
      asI .i64 (gv ws0 0) fun n5 =>
      ifB (lt 0 n5) (
        asP v2 fun _ _ =>
        asP v2 fun b12 b13 =>
        ld Tryd.prog h2 72 b12 b13 fun v6 =>
        asI .i64 (gv ws0 0) fun n6 =>
        six v0 (sub .i64 n6 1) 1 fun b14 b15 =>
        ld Tryd.prog h2 3 b14 b15 fun v7 =>
        asI .i64 v7 fun n7 =>
        bld Tryd.prog 83 [(0, (.int .i64 n7)), (1, (.int .i64 n3))] fun v8 =>
        calls rec h2 76 [v6, v8] fun v9 h3 =>
        asP v2 fun _ _ =>
        asP v2 fun b18 b19 =>
        st Tryd.prog h3 72 b18 b19 v9 fun h4 =>
        asI .i64 (gv ws0 0) fun n8 =>
        out .normal [(.int .i64 (add .i64 n8 1))] h4) (
        asI .i64 (gv ws0 0) fun n9 =>
        out .normal [(.int .i64 (add .i64 n9 1))] h2))) (
    out (.exit 0) [gv ws0 0] h1)

noncomputable def f75 (rec : Rec) (k : Nat) (v0 : Value) (v1 : Value) (v2 : Value) (v3 : Value) (h0 : H) : Option (Value × H) :=
  len v0 fun n0 =>
  lp k (f75_l1 rec k v0 v1 v2 n0) [(.int .i64 0)] h0 fun e0 _ h5 =>
  onE e0 0 (
    asP v3 fun b20 b21 =>
    ld Tryd.prog h5 61 b20 b21 fun v10 =>
    bls Tryd.prog h5 61 1 [(0, v0)] fun v11 h6 =>
    app Tryd.prog h6 61 61 v10 v11 fun v12 h7 =>
    asP v3 fun b22 b23 =>
    st Tryd.prog h7 61 b22 b23 v12 fun h8 =>
    some (undef, h8)) (
    none)

theorem e75 (rec : Rec) (k : Nat) (v0 : Value) (v1 : Value) (v2 : Value) (v3 : Value) (h : H) : bodyT Tryd.prog E0 SC (XC Tryd.prog rec k) 75 (Value × H) [.opq v0, .opq v1, .opq v2, .opq v3] h (fun v h => some (v, h)) = f75 rec k v0 v1 v2 v3 h := by kernel_rfl

theorem t75 {k : Nat} {v0 : Value} {v1 : Value} {v2 : Value} {v3 : Value} {h h1 : H} {v : Value} (hh : f75 rn k v0 v1 v2 v3 h = some (v, h1)) : rn 75 #[v0, v1, v2, v3] h = some (v, trunc Tryd.prog h h1 v) :=
  run_of_bodyT (args := [.opq v0, .opq v1, .opq v2, .opq v3]) rfl ((e75 _ _ _ _ _ _ _).trans hh)

noncomputable def f78_l2 (_rec : Rec) (_k : Nat) (h0 : H) (ws1 : List Value) (h5 : H) : Option (Ex × List Value × H) :=
  asI .i64 (gv ws1 1) fun n5 =>
  ifB (le 0 n5) (
    bls Tryd.prog h5 22 1 [(0, gv ws1 1)] fun v3 h6 =>
    app Tryd.prog h6 22 22 (gv ws1 0) v3 fun v4 h7 =>
    lok Tryd.prog h7 120 (.map (some (nx h0))) (gv ws1 1) false fun v5 =>
    asI .i64 v5 fun n6 =>
    out .normal [v4, (.int .i64 n6)] h7) (
    out (.exit 2) [gv ws1 0, gv ws1 1] h5)

noncomputable def f78_l3 (_rec : Rec) (_k : Nat) (h0 : H) (n4 : Int) (v8 : Value) (n8 : Int) (ws3 : List Value) (h11 : H) : Option (Ex × List Value × H) :=
  asI .i64 (gv ws3 1) fun n9 =>
  ifB (lt n9 n8) (
    asK (gv ws3 1) fun n10 =>
    six v8 n10 1 fun b4 b5 =>
    ld Tryd.prog h11 3 b4 b5 fun v9 =>
    asI .i64 v9 fun n11 =>
    lok Tryd.prog h11 120 (.map (some (nx h0))) (.int .i64 n11) true fun v10 =>
    ext v10 0 fun v11 =>
    asI .i64 v11 fun _ =>
    ext v10 1 fun v12 =>
    asB v12 fun q0 =>
    ifB (not q0) (
      mup Tryd.prog h11 120 (.map (some (nx h0))) (.int .i64 n11) (.int .i64 n4) fun h12 =>
      bls Tryd.prog h12 22 1 [(0, (.int .i64 n11))] fun v13 h13 =>
      app Tryd.prog h13 22 22 (gv ws3 0) v13 fun v14 h14 =>
      asI .i64 (gv ws3 1) fun n13 =>
      out .normal [v14, (.int .i64 (add .i64 n13 1))] h14) (
      asI .i64 (gv ws3 1) fun n14 =>
      out .normal [gv ws3 0, (.int .i64 (add .i64 n14 1))] h11)) (
    out (.exit 4) [gv ws3 0, gv ws3 1] h11)

noncomputable def f78_l1 (rec : Rec) (k : Nat) (v0 : Value) (n1 : Int) (n2 : Int) (h0 : H) (ws0 : List Value) (h4 : H) : Option (Ex × List Value × H) :=
  len (gv ws0 1) fun n3 =>
  ifB (lt 0 n3) (
    six (gv ws0 1) 0 1 fun b0 b1 =>
    ld Tryd.prog h4 3 b0 b1 fun v2 =>
    asI .i64 v2 fun n4 =>
    nn n4 (
      ifB (eq (and .i64 (shr .i64 n1 n4) 1) 1) (
        lp k (f78_l2 rec k h0) [(.slice none 0 0), (.int .i64 n4)] h4 fun e0 ws2 h8 =>
        onE e0 2 (
          calls rec h8 102 [gv ws2 0] fun _ h9 =>
          out .ret [gv ws2 0, gv ws0 1] h9) (
          none)) (
        six v0 n4 1 fun b2 b3 =>
        ld Tryd.prog h4 3 b2 b3 fun v7 =>
        asI .i64 v7 fun n7 =>
        calls rec h4 54 [(.int .i64 (and .i64 n7 (or .i64 n2 n1)))] fun v8 h10 =>
        len v8 fun n8 =>
        lp k (f78_l3 rec k h0 n4 v8 n8) [gv ws0 1, (.int .i64 0)] h10 fun e1 ws4 h15 =>
        onE e1 4 (
          sli Tryd.prog h15 22 (gv ws4 0) (some (.int .i64 1)) none none fun v15 =>
          out .normal [gv ws0 0, v15] h15) (
          none)))) (
    out (.exit 0) [gv ws0 0, gv ws0 1] h4)

noncomputable def f78 (rec : Rec) (k : Nat) (v0 : Value) (n0 : Int) (n1 : Int) (n2 : Int) (h0 : H) : Option (Value × H) :=
  mkm h0 fun h1 =>
  mup Tryd.prog h1 120 (.map (some (nx h0))) (.int .i64 n0) (.int .i64 (-1)) fun h2 =>
  bls Tryd.prog h2 22 1 [(0, (.int .i64 n0))] fun v1 h3 =>
  lp k (f78_l1 rec k v0 n1 n2 h0) [(.slice none 0 0), v1] h3 fun e2 ws5 h16 =>
  onE e2 0 (
    some ((.slice none 0 0), h16)) (
    onR e2 (
      some (gv ws5 0, h16)))

theorem e78 (rec : Rec) (k : Nat) (v0 : Value) (n0 : Int) (n1 : Int) (n2 : Int) (h : H) : bodyT Tryd.prog E0 SC (XC Tryd.prog rec k) 78 (Value × H) [.opq v0, .int .i64 n0, .int .i64 n1, .int .i64 n2] h (fun v h => some (v, h)) = f78 rec k v0 n0 n1 n2 h := by kernel_rfl

theorem t78 {k : Nat} {v0 : Value} {n0 : Int} {n1 : Int} {n2 : Int} {h h1 : H} {v : Value} (hh : f78 rn k v0 n0 n1 n2 h = some (v, h1)) : rn 78 #[v0, .int .i64 n0, .int .i64 n1, .int .i64 n2] h = some (v, trunc Tryd.prog h h1 v) :=
  run_of_bodyT (args := [.opq v0, .int .i64 n0, .int .i64 n1, .int .i64 n2]) rfl ((e78 _ _ _ _ _ _ _).trans hh)

theorem x78 {k : Nat} {v0 : Value} {n0 : Int} {n1 : Int} {n2 : Int} {h h1 : H} {v : Value} (hh : f78 rn k v0 n0 n1 n2 h = some (v, h1)) (hp : plainO v = false) : ∃ h2, rn 78 #[v0, .int .i64 n0, .int .i64 n1, .int .i64 n2] h = some (v, h2) ∧ Sm h1 h2 ∧ (Ext h h1 → Exw h h2) := trunc_cell hp (t78 hh)

noncomputable def f80 (rec : Rec) (_k : Nat) (v0 : Value) (n0 : Int) (h0 : H) : Option (Value × H) :=
  calls rec h0 105 [v0, (.int .i64 n0)] fun v1 h1 =>
  asI .i64 v1 fun n1 =>
  some ((.bool (le 0 n1)), h1)

theorem e80 (rec : Rec) (k : Nat) (v0 : Value) (n0 : Int) (h : H) : bodyT Tryd.prog E0 SC (XC Tryd.prog rec k) 80 (Value × H) [.opq v0, .int .i64 n0] h (fun v h => some (v, h)) = f80 rec k v0 n0 h := by kernel_rfl

theorem t80 {k : Nat} {v0 : Value} {n0 : Int} {h h1 : H} {v : Value} (hh : f80 rn k v0 n0 h = some (v, h1)) : rn 80 #[v0, .int .i64 n0] h = some (v, trunc Tryd.prog h h1 v) :=
  run_of_bodyT (args := [.opq v0, .int .i64 n0]) rfl ((e80 _ _ _ _ _).trans hh)

theorem p80 {k : Nat} {v0 : Value} {n0 : Int} {h h1 : H} {v : Value} (hh : f80 rn k v0 n0 h = some (v, h1)) (hp : plainO v = true) (x : Ext h h1) : rn 80 #[v0, .int .i64 n0] h = some (v, h) := by rw [t80 hh, trunc_pure hp x]

noncomputable def f105_l1 (_rec : Rec) (_k : Nat) (v0 : Value) (n0 : Int) (n1 : Int) (ws0 : List Value) (h1 : H) : Option (Ex × List Value × H) :=
  asI .i64 (gv ws0 1) fun n2 =>
  ifB (lt n2 n1) (
    asK (gv ws0 1) fun n3 =>
    six v0 n3 1 fun b0 b1 =>
    ld Tryd.prog h1 3 b0 b1 fun v1 =>
    asI .i64 v1 fun n4 =>
    ifB (eq n0 n4) (
      out .ret [gv ws0 1, gv ws0 1] h1) (
      asI .i64 (gv ws0 1) fun n5 =>
      out .normal [gv ws0 0, (.int .i64 (add .i64 n5 1))] h1)) (
    out (.exit 0) [gv ws0 0, gv ws0 1] h1)

noncomputable def f105 (rec : Rec) (k : Nat) (v0 : Value) (n0 : Int) (h0 : H) : Option (Value × H) :=
  len v0 fun n1 =>
  lp k (f105_l1 rec k v0 n0 n1) [(.int .i64 0), (.int .i64 0)] h0 fun e0 ws1 h2 =>
  onE e0 0 (
    some ((.int .i64 (-1)), h2)) (
    onR e0 (
      some (gv ws1 0, h2)))

theorem e105 (rec : Rec) (k : Nat) (v0 : Value) (n0 : Int) (h : H) : bodyT Tryd.prog E0 SC (XC Tryd.prog rec k) 105 (Value × H) [.opq v0, .int .i64 n0] h (fun v h => some (v, h)) = f105 rec k v0 n0 h := by kernel_rfl

theorem t105 {k : Nat} {v0 : Value} {n0 : Int} {h h1 : H} {v : Value} (hh : f105 rn k v0 n0 h = some (v, h1)) : rn 105 #[v0, .int .i64 n0] h = some (v, trunc Tryd.prog h h1 v) :=
  run_of_bodyT (args := [.opq v0, .int .i64 n0]) rfl ((e105 _ _ _ _ _).trans hh)

theorem p105 {k : Nat} {v0 : Value} {n0 : Int} {h h1 : H} {v : Value} (hh : f105 rn k v0 n0 h = some (v, h1)) (hp : plainO v = true) (x : Ext h h1) : rn 105 #[v0, .int .i64 n0] h = some (v, h) := by rw [t105 hh, trunc_pure hp x]

noncomputable def f102_l1 (_rec : Rec) (_k : Nat) (v0 : Value) (ws0 : List Value) (h1 : H) : Option (Ex × List Value × H) :=
  asI .i64 (gv ws0 0) fun n1 =>
  asI .i64 (gv ws0 1) fun n2 =>
  ifB (lt n1 n2) (
    asK (gv ws0 1) fun n3 =>
    six v0 n3 1 fun b0 b1 =>
    ld Tryd.prog h1 3 b0 b1 fun v1 =>
    asI .i64 v1 fun n4 =>
    asK (gv ws0 0) fun n5 =>
    six v0 n5 1 fun b2 b3 =>
    ld Tryd.prog h1 3 b2 b3 fun v2 =>
    asI .i64 v2 fun n6 =>
    asK (gv ws0 0) fun n7 =>
    six v0 n7 1 fun b4 b5 =>
    st Tryd.prog h1 3 b4 b5 (.int .i64 n4) fun h2 =>
    asK (gv ws0 1) fun n8 =>
    six v0 n8 1 fun b6 b7 =>
    st Tryd.prog h2 3 b6 b7 (.int .i64 n6) fun h3 =>
    asI .i64 (gv ws0 0) fun n9 =>
    asI .i64 (gv ws0 1) fun n10 =>
    out .normal [(.int .i64 (add .i64 n9 1)), (.int .i64 (sub .i64 n10 1))] h3) (
    out (.exit 0) [gv ws0 0, gv ws0 1] h1)

noncomputable def f102 (rec : Rec) (k : Nat) (v0 : Value) (h0 : H) : Option (Value × H) :=
  len v0 fun n0 =>
  lp k (f102_l1 rec k v0) [(.int .i64 0), (.int .i64 (sub .i64 n0 1))] h0 fun e0 _ h4 =>
  onE e0 0 (
    some (undef, h4)) (
    none)

theorem e102 (rec : Rec) (k : Nat) (v0 : Value) (h : H) : bodyT Tryd.prog E0 SC (XC Tryd.prog rec k) 102 (Value × H) [.opq v0] h (fun v h => some (v, h)) = f102 rec k v0 h := by kernel_rfl

theorem t102 {k : Nat} {v0 : Value} {h h1 : H} {v : Value} (hh : f102 rn k v0 h = some (v, h1)) : rn 102 #[v0] h = some (v, trunc Tryd.prog h h1 v) :=
  run_of_bodyT (args := [.opq v0]) rfl ((e102 _ _ _ _).trans hh)

end Go.AM

end

section

/- Reverse. -/
namespace Go.AM
open Go.Proofs
variable {R : Type}
attribute [local simp] nx_eq nx_new nx_set blk_new blk_set asI_int asK_int asB_bool asP_ptr al_eq bx_eq len_slice onE_exit onE_ret onR_ret Value.cells cell_new cell_set rd_new rd_set off eq lt le ifB gv out ext20 ext21
theorem nb_in {m : List Nat} {k : Nat} (h : k < m.length) : nb m k = m[k] := by
  unfold nb
  rw [List.getD_eq_getElem?_getD, List.getElem?_eq_getElem h]; rfl

/-- The numbers of a slice that owns its row are turned round. -/
theorem s102 {v : Value} {l : List Nat} {h : H} {lo : Nat} (hap : AqR lo h 3 1 v (cellsN l)) (h0 : l ≠ []) (hm : l.length < 1000) :
    ∃ h', rn 102 #[v] h = some (undef, h') ∧ AqR lo h' 3 1 v (cellsN l.reverse) ∧ h'.nx = h.nx ∧ ∀ q, q < h.nx → blkOf v ≠ some q → h'.blk q = h.blk q := by
  have hn : ∀ {T : Type} (K : Int → Option T), len v K = K (l.length : Int) := fun K => by rw [hap.slR.len]; simp
  have hne : cellsN l ≠ [] := by simpa using h0
  have hl0 : 0 < l.length := by cases l with
    | nil => exact absurd rfl h0
    | cons => simp
  obtain ⟨b, c, rfl, hlo, hbn, hrow, hc⟩ : ∃ b c, v = .slice (some ⟨b, 0, none⟩) l.length c ∧ lo ≤ b ∧ b < h.nx ∧ h.blk b = some (.row (cellsN l).flatten 3 true) ∧ (c = U + l.length ∨ c = l.length) := by
    generalize hL : cellsN l = LL at hap
    cases hap with
    | nil => exact absurd hL hne
    | @at_ b c l' hlo hb hr hx hm2 hc =>
      have := congrArg List.length hL
      rw [List.length_map] at this
      rw [← this] at hc ⊢
      exact ⟨b, c, rfl, hlo, hb, hr, hc⟩
  have hia0 : IA h b (.slice (some ⟨b, 0, none⟩) l.length c) (l.map Int.ofNat) := by
    rw [← cellsN_eq] at hap
    obtain ⟨b', _, hb', hia⟩ := hap.ia (by simpa using h0)
    cases hb'
    exact hia
  obtain ⟨e, ws', h1, hlp, rfl, m, i1, i2, i3, hnx, hblk⟩ := lpGo_inv (F := f102_l1 rn 600 (.slice (some ⟨b, 0, none⟩) l.length c))
    (fun d ws g => ∃ (i : Nat) (m : List Nat), ws = [iv i, iv ((l.length : Int) - 1 - i)] ∧ 2 * i ≤ l.length ∧ d = l.length / 2 - i ∧ IA g b (.slice (some ⟨b, 0, none⟩) l.length c) (m.map Int.ofNat) ∧ m.length = l.length ∧ (∀ k, k < l.length → nb m k = if k < i ∨ l.length ≤ k + i then nb l (l.length - 1 - k) else nb l k) ∧ g.nx = h.nx ∧ ∀ q, q ≠ b → g.blk q = h.blk q)
    (fun e ws g => e = .exit 0 ∧ ∃ (m : List Nat), IA g b (.slice (some ⟨b, 0, none⟩) l.length c) (m.map Int.ofNat) ∧ m.length = l.length ∧ (∀ k, k < l.length → nb m k = nb l (l.length - 1 - k)) ∧ g.nx = h.nx ∧ ∀ q, q ≠ b → g.blk q = h.blk q)
    (by
      rintro d ws g ⟨i, m, rfl, h2i, hd, hia, hml, hk, hnx, hblk⟩
      by_cases hlt : 2 * i + 1 < l.length
      · obtain ⟨j, hj⟩ : ∃ j : Nat, j + i + 1 = l.length := ⟨l.length - 1 - i, by omega⟩
        have hjI : (l.length : Int) - 1 - i = (j : Int) := by omega
        have hadd : add .i64 (i : Int) 1 = ((i + 1 : Nat) : Int) := by rw [add64 (by omega) (by omega)]; omega
        have hsub : AM.sub .i64 (j : Int) 1 = (l.length : Int) - 1 - ((i + 1 : Nat) : Int) := by rw [sub64 (by omega) (by omega)]; omega
        have h1 := hia.set i ((nb m j : Nat) : Int)
        rw [set_nat] at h1
        have h2 := h1.set j ((nb m i : Nat) : Int)
        rw [set_nat] at h2
        refine ⟨.normal, [iv ((i + 1 : Nat) : Int), iv ((l.length : Int) - 1 - ((i + 1 : Nat) : Int))], _, ?_, .inl ⟨rfl, d - 1, by omega, i + 1, (m.set i (nb m j)).set j (nb m i), rfl, by omega, by omega, h2, by simp [hml], fun k hkl => ?_, hnx, fun q hq => by rw [blk_set_ne _ _ _ hq, blk_set_ne _ _ _ hq]; exact hblk q hq⟩⟩
        · unfold f102_l1
          rw [hjI, show AM.gv [iv i, iv j] 0 = iv i from rfl, show AM.gv [iv i, iv j] 1 = iv j from rfl, asI_int, asI_int, lt_t (by omega), ifB_true, asK_int]
          simp only [d3, w3]
          rw [hia.get (by omega) (x := (nb m j : Nat)) (by rw [Int.toNat_natCast]; exact nb_get (by omega)), asI_int, asK_int,
            hia.get (by omega) (x := (nb m i : Nat)) (by rw [Int.toNat_natCast]; exact nb_get (by omega)), asI_int, asK_int, hia.put (by omega) (by simp; omega), Int.toNat_natCast, hia.wrc (i := i) (by simp; omega), set_nat, Option.bind_some, asK_int,
            h1.put (by omega) (by simp; omega), Int.toNat_natCast, h1.wrc (i := j) (by simp; omega), set_nat, Option.bind_some, asI_int, asI_int, hadd, hsub]
          rfl
        · rw [nb_set (by simp; omega), nb_set (by omega)]
          have q1 := hk i (by omega)
          have q2 := hk j (by omega)
          rw [if_neg (by omega)] at q1 q2
          have q3 := hk k hkl
          by_cases hkj : k = j
          · subst hkj
            rw [if_pos rfl, if_pos (by omega), q1]
            congr 1; omega
          · rw [if_neg hkj]
            by_cases hki : k = i
            · subst hki
              rw [if_pos rfl, if_pos (by omega), q2]
              congr 1; omega
            · rw [if_neg hki, q3]
              by_cases hc : k < i ∨ l.length ≤ k + i
              · rw [if_pos hc, if_pos (by omega)]
              · rw [if_neg hc, if_neg (by omega)]
      · refine ⟨.exit 0, [iv i, iv ((l.length : Int) - 1 - i)], g, ?_, .inr ⟨by simp, rfl, m, hia, hml, fun k hkl => ?_, hnx, hblk⟩⟩
        · unfold f102_l1
          rw [show AM.gv [iv i, iv ((l.length : Int) - 1 - i)] 0 = iv i from rfl, show AM.gv [iv i, iv ((l.length : Int) - 1 - i)] 1 = iv ((l.length : Int) - 1 - i) from rfl, asI_int, asI_int, show AM.lt (i : Int) ((l.length : Int) - 1 - i) = false by simp [AM.lt]; omega, ifB_false]
          rfl
        · rw [hk k hkl]
          split
          · rfl
          · congr 1; omega)
    (l.length / 2) 600 (by omega) (ws := [iv 0, iv ((l.length : Int) - 1)]) (h := h) ⟨0, l, by simp, by omega, by omega, hia0, rfl, fun k hkl => by rw [if_neg (by omega)], rfl, fun _ _ => rfl⟩
  have hmr : m = l.reverse := by
    apply List.ext_getElem
    · simp [i2]
    · intro k hk1 hk2
      have := i3 k (by omega)
      rw [nb_in hk1, nb_in (by omega)] at this
      rw [this, List.getElem_reverse]
  subst hmr
  have e102 := t102 (k := 600) (v0 := .slice (some ⟨b, 0, none⟩) l.length c) (h := h) (h1 := h1) (v := undef) (by
    unfold f102
    rw [hn, sub64 (by omega) (by omega)]
    refine (lp_eq hlp).trans ?_
    rfl)
  obtain ⟨q1, q2, q3⟩ := trunc_blk (P := Tryd.prog) (v := undef) (h := h) (h1 := h1) (by omega)
  refine ⟨_, e102, ?_, by omega, fun q hq hqb => ?_⟩
  · have hr : (trunc Tryd.prog h h1 undef).blk b = some (.row (cellsN l.reverse).flatten 3 true) := by
      rw [q3 b hbn, i1.row, ← cellsN_eq, cellsI, flat1]
    have := AqR.at_ (h := trunc Tryd.prog h h1 undef) (e := 3) (s := 1) (c := c) hlo (by omega) hr (fun x hx => by obtain ⟨e, _, rfl⟩ := List.mem_map.1 hx; rfl) (by simp; omega) (by simpa using hc)
    simpa using this
  · rw [q3 q hq, hblk q (fun e => hqb (by rw [e]; rfl))]

end Go.AM

end

section

/- A queue that begins as a literal of one number. -/
namespace Go.AM
open Go.Proofs
variable {R : Type}
inductive QV (lo : Nat) (h : H) : Value → List Nat → Prop
  | q {v : Value} {q : List Nat} : QqR lo h 3 1 v (cellsN q) → QV lo h v q
  | lit {x b : Nat} : lo ≤ b → b < h.nx → h.blk b = some (.row [iv (x : Int)] 3 true) → QV lo h (.slice (some ⟨b, 0, none⟩) 1 1) [x]
  | emp {o : Nat} {b c : Nat} : lo ≤ b → b < h.nx → QV lo h (.slice (some ⟨b, o, none⟩) 0 c) []

section
variable {lo : Nat} {h h' : H} {v : Value} {q : List Nat}
theorem QV.blkOf (a : QV lo h v q) {b : Nat} (hb : AM.blkOf v = some b) : lo ≤ b ∧ b < h.nx := by
  cases a with
  | q a => exact a.blkOf hb
  | lit h1 h2 => cases hb; exact ⟨h1, h2⟩
  | emp h1 h2 => cases hb; exact ⟨h1, h2⟩

theorem QV.keep (a : QV lo h v q) (hn : h.nx ≤ h'.nx) (hb : ∀ b, AM.blkOf v = some b → h'.blk b = h.blk b) : QV lo h' v q := by
  cases a with
  | q a => exact .q (a.keep hn hb)
  | lit h1 h2 h3 => exact .lit h1 (Nat.lt_of_lt_of_le h2 hn) ((hb _ rfl).trans h3)
  | emp h1 h2 => exact .emp h1 (Nat.lt_of_lt_of_le h2 hn)

theorem QV.len (a : QV lo h v q) (K : Int → Option R) : AM.len v K = K (q.length : Int) := by
  cases a with
  | q a => rw [a.slR.len]; simp
  | lit => rfl
  | emp => rfl

theorem QV.head {x : Nat} (a : QV lo h v (x :: q)) (K : Value → Option R) : (six v 0 1 fun b o => ld Tryd.prog h 3 b o K) = K (iv (x : Int)) := by
  cases a with
  | q a => exact a.slR.ld0 ag3 (by omega) (x := [iv (x : Int)]) (by simp) rfl K
  | lit h1 h2 h3 =>
    rename_i b
    rw [six_in (by omega) (by omega), d3, cell_of h3]
    rfl

theorem QV.push {x : Nat} (a : QV lo h v (x :: q)) (y : Nat) (hm : q.length < 1000) (hlo : lo ≤ h.nx) :
    ∃ v' h', (∀ {R : Type} (K : Value → H → Option R), (bls Tryd.prog h 22 1 [(0, iv (y : Int))] fun z h2 => AM.app Tryd.prog h2 22 22 v z K) = K v' h') ∧ QV lo h' v' (x :: q ++ [y]) ∧ h.nx ≤ h'.nx ∧
      (∀ b, b < h.nx → AM.blkOf v ≠ some b → h'.blk b = h.blk b) ∧ ∃ b', AM.blkOf v' = some b' ∧ h.nx ≤ b' := by
  cases a with
  | q a =>
    obtain ⟨v', h', e, a', n, k, b⟩ := a.push app22 app22 (bls22 (y : Int)) rfl rfl (by rw [List.length_map, List.length_cons]; omega) hlo
    refine ⟨v', h', e, .q ?_, n, k, b⟩
    have : cellsN (x :: q ++ [y]) = cellsN (x :: q) ++ [[iv (y : Int)]] := by simp
    rw [this]; exact a'
  | lit h1 h2 h3 =>
    rename_i b
    obtain ⟨i, z, p1, p2, p3, p4, p5, p6, p7⟩ := okApp_spec app22
    have x0 := Ext.new h (.row [iv (y : Int)] 3 true)
    have hsrc : srcCells 1 (.slice (some ⟨h.nx, 0, none⟩) 1 1) (h.new (.row [iv (y : Int)] 3 true)) = some [iv (y : Int)] := by
      simp only [srcCells, Nat.one_mul]
      rw [if_neg (by omega)]
      simp only [H.rd, blk_new_self]
      rfl
    have hlen : lenOf (.slice (some ⟨h.nx, 0, none⟩) 1 1) = some 1 := rfl
    have hrd : (h.new (.row [iv (y : Int)] 3 true)).rd b 0 1 = some [iv (x : Int)] := rd_all ((x0.blk _ h2).trans h3) rfl
    have hcap : capK 1 = 1 := rfl
    have h30 : (1 : Nat) < U := by decide
    refine ⟨.slice (some ⟨h.nx + 1, 0, none⟩) 2 (U + 2), (h.new (.row [iv (y : Int)] 3 true)).new (.row ([iv (x : Int)] ++ [iv (y : Int)]) 3 true), fun K => ?_, .q ?_, by simp only [nx_new]; omega, fun b' hb' _ => ?_, h.nx + 1, rfl, by omega⟩
    · rw [bls_some (bls22 (y : Int) h)]
      unfold AM.app append
      simp only [p1, p2, p3, hlen, p4, hsrc, Option.bind_some]
      rw [if_pos ⟨p5, p6, p7⟩]
      simp only [hcap]
      rw [if_neg (by omega), if_neg (by omega), if_pos (by omega), if_pos h30, if_neg (by omega), Nat.one_mul, hrd]
      rfl
    · exact QqR.at_ (lo := lo) (e := 3) (s := 1) (b := h.nx + 1) (l := cellsN [x, y]) (pre := []) (by omega) (by simp only [nx_new]; omega)
        (by rw [blk_new_at _ _ (by rw [nx_new])]; rfl) (by simp) (by simp)
    · rw [blk_new_ne _ _ (by rw [nx_new]; omega), blk_new_ne _ _ (by omega)]

theorem QV.tail {x : Nat} (a : QV lo h v (x :: q)) : ∃ v', (∀ {R : Type} (K : Value → Option R), sli Tryd.prog h 22 v (some (.int .i64 1)) none none K = K v') ∧ QV lo h v' q ∧ AM.blkOf v' = AM.blkOf v := by
  cases a with
  | q a =>
    obtain ⟨v', e, a', hb⟩ := QqR.tail (l := cellsN q) (x := [iv (x : Int)]) a under22 sz3
    exact ⟨v', e, .q a', hb⟩
  | lit h1 h2 h3 =>
    rename_i b
    refine ⟨.slice (some ⟨b, 0, none⟩) 0 0, fun K => ?_, .emp h1 h2, rfl⟩
    have hcap : capK 1 = 1 := rfl
    have h30 : (1 : Nat) < U := by decide
    simp only [sli, slice, under22, h3, sz3]
    rw [if_pos ⟨trivial, by rw [hcap]; omega, rfl⟩]
    simp [bound, hcap, h30]

end
end Go.AM

end

section

/- The walk of the search. -/
namespace Go.AM
open Go.Proofs
variable {R : Type}
attribute [local simp] nx_eq nx_new nx_set blk_new blk_set asI_int asK_int asB_bool asP_ptr al_eq bx_eq len_slice onE_exit onE_ret onR_ret Value.cells cell_new cell_set rd_new rd_set off eq lt le ifB gv out ext20 ext21
theorem under120 : Tryd.prog.underlying 120 = some (.map 3 3) := by kernel_rfl

theorem zero3' : zero? Tryd.prog 3 = some (iv 0) := by kernel_rfl

theorem under3i : Tryd.prog.underlying 3 = some (.int .i64) := by kernel_rfl

/-- What the two maps hold. -/
def kvN (T : TL) : List (Int × Value) := T.zipIdx.map fun x => ((x.1.1 : Int), iv (x.2 : Int))

def kvP (T : TL) : List (Int × Value) := T.map fun x => ((x.1 : Int), iv x.2)

theorem kvN_snoc (T : TL) (u : Nat) (p : Int) : kvN (T ++ [(u, p)]) = kvN T ++ [((u : Int), iv (T.length : Int))] := by
  unfold kvN
  rw [List.zipIdx_append, List.map_append]
  simp

theorem kvP_snoc (T : TL) (u : Nat) (p : Int) : kvP (T ++ [(u, p)]) = kvP T ++ [((u : Int), iv p)] := by
  unfold kvP
  rw [List.map_append]; rfl

theorem kvN_key {T : TL} {k : Nat} : (∀ p ∈ kvN T, p.1 ≠ (k : Int)) ↔ k ∉ nodesT T := by
  unfold kvN nodesT
  constructor
  · intro h hm
    obtain ⟨x, hx, rfl⟩ := List.mem_map.1 hm
    obtain ⟨i, hi, rfl⟩ := List.getElem_of_mem hx
    exact h (((T[i].1 : Nat) : Int), iv (i : Int)) (List.mem_map.2 ⟨(T[i], i), List.mem_of_getElem? (i := i) (by simp [List.getElem?_zipIdx, hi]), rfl⟩) rfl
  · rintro hm p hp he
    obtain ⟨⟨x, i⟩, hx, rfl⟩ := List.mem_map.1 hp
    refine hm (List.mem_map.2 ⟨x, ?_, Int.natCast_inj.1 he⟩)
    exact (List.mem_zipIdx' hx).2 ▸ List.getElem_mem _

theorem kvP_key {T : TL} {k : Nat} : (∀ p ∈ kvP T, p.1 ≠ (k : Int)) ↔ k ∉ nodesT T := by
  unfold kvP nodesT
  constructor
  · intro h hm
    obtain ⟨x, hx, rfl⟩ := List.mem_map.1 hm
    exact h ((x.1 : Int), iv x.2) (List.mem_map.2 ⟨x, hx, rfl⟩) rfl
  · rintro hm p hp he
    obtain ⟨x, hx, rfl⟩ := List.mem_map.1 hp
    exact hm (List.mem_map.2 ⟨x, hx, Int.natCast_inj.1 he⟩)

abbrev visF (bt bn bp bv : Nat) : Value := .func (.func 82) #[] #[pt bt 0, pt bn 0, pt bp 0, pt bv 0]

/-- How the search's state lies on the heap. -/
structure HT (g : List Nat) (T : TL) (bt bn bp bv mn mp : Nat) (tv : Value) (h : H) : Prop where
  t : h.blk bt = some (.row [tv] 72 true)
  n : h.blk bn = some (.row [.map (some mn)] 120 true)
  p : h.blk bp = some (.row [.map (some mp)] 120 true)
  v : h.blk bv = some (.row [visF bt bn bp bv] 121 true)
  s : SlR h 3 1 tv (cellsN g)
  hn : ∃ es c, h.blk mn = some (.mp es c) ∧ KvI (kvN T) es
  hp : ∃ es c, h.blk mp = some (.mp es c) ∧ KvI (kvP T) es
  ne : mn ≠ mp
  lt : mn < h.nx
  lp : mp < h.nx
  cl : bt < h.nx ∧ bn < h.nx ∧ bp < h.nx ∧ bv < h.nx

/-- Only the two maps have changed. -/
structure Fm (mn mp : Nat) (h h' : H) : Prop where
  nx : h.nx ≤ h'.nx
  blk : ∀ b, b < h.nx → b ≠ mn → b ≠ mp → h'.blk b = h.blk b

theorem Fm.refl (mn mp : Nat) (h : H) : Fm mn mp h h := ⟨Nat.le_refl _, fun _ _ _ _ => rfl⟩

theorem Fm.trans {mn mp : Nat} {a b c : H} (x : Fm mn mp a b) (y : Fm mn mp b c) : Fm mn mp a c := ⟨Nat.le_trans x.nx y.nx, fun q h1 h2 h3 => (y.blk q (Nat.lt_of_lt_of_le h1 x.nx) h2 h3).trans (x.blk q h1 h2 h3)⟩

theorem Fm.ext {mn mp : Nat} {a b : H} (x : Ext a b) : Fm mn mp a b := ⟨x.nx, fun q h1 _ _ => x.blk q h1⟩

theorem HT.sl {g : List Nat} {T : TL} {bt bn bp bv mn mp : Nat} {tv : Value} {h h' : H} (a : HT g T bt bn bp bv mn mp tv h) (f : Fm mn mp h h') {e : TypeId} {s : Nat} {v : Value} {l : List (List Value)} (hs : SlR h e s v l) : SlR h' e s v l := by
  refine hs.keepB f.nx fun b hb => ?_
  obtain ⟨h1, cs, own, h2⟩ := hs.blkR hb
  obtain ⟨es, c, h3, _⟩ := a.hn
  obtain ⟨es', c', h4, _⟩ := a.hp
  refine f.blk b h1 ?_ ?_ <;> rintro rfl
  · rw [h3] at h2; cases h2
  · rw [h4] at h2; cases h2

theorem HT.row {g : List Nat} {T : TL} {bt bn bp bv mn mp : Nat} {tv : Value} {h h' : H} (a : HT g T bt bn bp bv mn mp tv h) (f : Fm mn mp h h') {b : Nat} {cs : List Value} {e : TypeId} {o : Bool} (hb : h.blk b = some (.row cs e o)) (hlt : b < h.nx) : h'.blk b = some (.row cs e o) := by
  rw [f.blk b hlt ?_ ?_, hb]
  · rintro rfl
    obtain ⟨es, c, h3, _⟩ := a.hn
    rw [h3] at hb; cases hb
  · rintro rfl
    obtain ⟨es, c, h3, _⟩ := a.hp
    rw [h3] at hb; cases hb

section
variable {g : List Nat} {T : TL} {bt bn bp bv mn mp : Nat} {tv : Value} {h h' : H}
theorem HT.ext (a : HT g T bt bn bp bv mn mp tv h) (x : Ext h h') : HT g T bt bn bp bv mn mp tv h' := by
  obtain ⟨c1, c2, c3, c4⟩ := a.cl
  have hx := x.nx
  obtain ⟨es, c, h3, h5⟩ := a.hn
  obtain ⟨es', c', h4, h6⟩ := a.hp
  exact ⟨(x.blk _ c1).trans a.t, (x.blk _ c2).trans a.n, (x.blk _ c3).trans a.p, (x.blk _ c4).trans a.v, a.s.ext x, ⟨es, c, (x.blk _ a.lt).trans h3, h5⟩, ⟨es', c', (x.blk _ a.lp).trans h4, h6⟩, a.ne, Nat.lt_of_lt_of_le a.lt hx, Nat.lt_of_lt_of_le a.lp hx,
    Nat.lt_of_lt_of_le c1 hx, Nat.lt_of_lt_of_le c2 hx, Nat.lt_of_lt_of_le c3 hx, Nat.lt_of_lt_of_le c4 hx⟩

/-- Only what is below the old end counts. -/
theorem HT.trunc {T' : TL} {h1 h2 : H} (a : HT g T bt bn bp bv mn mp tv h1) (f : Fm mn mp h h1) (hn : mn < h.nx) (hp : mp < h.nx) (hc : bt < h.nx ∧ bn < h.nx ∧ bp < h.nx ∧ bv < h.nx) (hs : SlR h 3 1 tv (cellsN g)) (h0 : HT g T' bt bn bp bv mn mp tv h)
    (hx : h.nx ≤ h2.nx) (hk : ∀ b, b < h.nx → h2.blk b = h1.blk b) : HT g T bt bn bp bv mn mp tv h2 ∧ Fm mn mp h h2 := by
  obtain ⟨c1, c2, c3, c4⟩ := hc
  obtain ⟨es, c, h3, h5⟩ := a.hn
  obtain ⟨es', c', h4, h6⟩ := a.hp
  have f2 : Fm mn mp h h2 := ⟨hx, fun b hb q1 q2 => (hk b hb).trans (f.blk b hb q1 q2)⟩
  exact ⟨⟨(hk _ c1).trans a.t, (hk _ c2).trans a.n, (hk _ c3).trans a.p, (hk _ c4).trans a.v, h0.sl f2 hs, ⟨es, c, (hk _ hn).trans h3, h5⟩, ⟨es', c', (hk _ hp).trans h4, h6⟩, a.ne, Nat.lt_of_lt_of_le hn hx, Nat.lt_of_lt_of_le hp hx,
    Nat.lt_of_lt_of_le c1 hx, Nat.lt_of_lt_of_le c2 hx, Nat.lt_of_lt_of_le c3 hx, Nat.lt_of_lt_of_le c4 hx⟩, f2⟩

theorem HT.cellNe (a : HT g T bt bn bp bv mn mp tv h) : bn ≠ mn ∧ bp ≠ mn ∧ bv ≠ mn ∧ bv ≠ mp := by
  obtain ⟨es, c, h3, h5⟩ := a.hn
  obtain ⟨es', c', h4, h6⟩ := a.hp
  have h1 := a.n
  have h2 := a.v
  have h0 := a.p
  refine ⟨?_, ?_, ?_, ?_⟩ <;> rintro rfl
  · rw [h1] at h3; cases h3
  · rw [h0] at h3; cases h3
  · rw [h2] at h3; cases h3
  · rw [h2] at h4; cases h4

/-- A node is entered in both maps. -/
theorem HT.enter (a : HT g T bt bn bp bv mn mp tv h) {u v : Nat} (hu : u ∉ nodesT T) : ∃ h4, (∀ (K : H → Option R),
    (mlen h (.map (some mn)) fun n7 => mup Tryd.prog h 120 (.map (some mn)) (.int .i64 (u : Int)) (.int .i64 n7) fun h3 => ck (frew bp (.map (some mn)) (nx h)) (mup Tryd.prog h3 120 (.map (some mp)) (.int .i64 (u : Int)) (.int .i64 (v : Int)) K)) = K h4) ∧
    HT g (T ++ [(u, (v : Int))]) bt bn bp bv mn mp tv h4 ∧ Fm mn mp h h4 := by
  obtain ⟨es, c, h3, h5⟩ := a.hn
  obtain ⟨es', c', h4, h6⟩ := a.hp
  obtain ⟨n1, n2, n3, n4⟩ := a.cellNe
  have hl : es.length = T.length := by have := congrArg List.length h5; simpa [kvN] using this
  have k1 := (look_none (k := (u : Int)) (kvN T) 0).2 (kvN_key.2 hu)
  have k2 := (look_none (k := (u : Int)) (kvP T) 0).2 (kvP_key.2 hu)
  have hm : (h.set mn (.mp (es ++ [{ key := .int .i64 (u : Int), val := .int .i64 (T.length : Int), born := c }]) (c + 1))).blk mp = some (.mp es' c') := by rw [blk_set_ne _ _ _ (fun e => a.ne e.symm)]; exact h4
  have f : Fm mn mp h ((h.set mn (.mp (es ++ [{ key := .int .i64 (u : Int), val := .int .i64 (T.length : Int), born := c }]) (c + 1))).set mp (.mp (es' ++ [{ key := .int .i64 (u : Int), val := .int .i64 (v : Int), born := c' }]) (c' + 1))) :=
    ⟨Nat.le_refl _, fun b _ q1 q2 => by rw [blk_set_ne _ _ _ q2, blk_set_ne _ _ _ q1]⟩
  refine ⟨_, fun K => ?_, ?_, f⟩
  · have e1 : ∀ (K : Int → Option R), mlen h (.map (some mn)) K = K (T.length : Int) := fun K => by simp only [mlen, h3, hl]
    rw [e1, mup_new under120 under3i h3 h5 k1, show frew bp (.map (some mn)) (nx h) = true by
      have := a.cl.2.2.1; simp [frew, n2, this], ck_true, mup_new under120 under3i hm h6 k2]
  · obtain ⟨c1, c2, c3, c4⟩ := a.cl
    refine ⟨a.row f a.t c1, a.row f a.n c2, a.row f a.p c3, a.row f a.v c4, a.sl f a.s, ⟨_, _, (blk_set_ne _ _ _ a.ne).trans (blk_set_self _ _ _), ?_⟩, ⟨_, _, blk_set_self _ _ _, ?_⟩, a.ne, a.lt, a.lp, a.cl⟩
    · rw [kvN_snoc]; exact h5.snoc _ _
    · rw [kvP_snoc]; exact h6.snoc _ _

end
set_option maxHeartbeats 1000000 in
theorem s82 {g : List Nat} (hg : GrN g) {bt bn bp bv mn mp : Nat} {tv : Value} : ∀ (d : Nat) (T1 : TL) (v : Nat) (p : Int) (h : H), Wf g (T1 ++ [(v, p)]) → g.length ≤ T1.length + d → HT g (T1 ++ [(v, p)]) bt bn bp bv mn mp tv h →
    ∃ X h', rn 82 #[iv v, pt bt 0, pt bn 0, pt bp 0, pt bv 0] h = some (undef, h') ∧ HT g (T1 ++ [(v, p)] ++ X) bt bn bp bv mn mp tv h' ∧ Fm mn mp h h' ∧ Vis g (T1 ++ [(v, p)]) v X := by
  intro d
  induction d with
  | zero =>
    intro T1 v p h hw hl _
    have := hw.len
    simp at this
    omega
  | succ d ih =>
    intro T1 v p h hw hl ht
    have hlen := hg.len
    have hpow := hg.pow
    have hv : v < g.length := hw.lt v (by simp [nodesT])
    have hnb := hg.nb_lt v
    obtain ⟨v6, h1, e54, x1, hs6⟩ := s54 (S := nb g v) (by omega) h
    have c76 := fun (K : Value → H → Option (Value × H)) => calls_eq (K := K) (xs := [iv (nb g v : Nat)]) e54
    have ht1 := ht.ext x1.toExt
    have hel : (elts (nb g v)).length ≤ 10 := by unfold elts; exact Nat.le_trans (List.length_filter_le ..) (by simp)
    have hn6 : ∀ {T : Type} (K : Int → Option T), len v6 K = K ((elts (nb g v)).length : Int) := fun K => by rw [hs6.len]; simp
    generalize hT : T1 ++ [(v, p)] = T at *
    obtain ⟨e, ws', h2, hlp, rfl, X, ht2, f2, hX⟩ := lp_range (F := f82_l1 rn 20 v (pt bn 0) (pt bp 0) (pt bv 0) v6 (elts (nb g v)).length) (k := 20) (n := (elts (nb g v)).length)
      (fun i ws h2 => ws = [iv i] ∧ ∃ X, HT g (T ++ X) bt bn bp bv mn mp tv h2 ∧ Fm mn mp h1 h2 ∧ Lp g T v X i)
      (fun e ws h2 => e = .exit 0 ∧ ∃ X, HT g (T ++ X) bt bn bp bv mn mp tv h2 ∧ Fm mn mp h1 h2 ∧ Lp g T v X (elts (nb g v)).length)
      (by
        rintro i ws h2 hi ⟨rfl, X, ht2, f2, hX⟩
        have hu := List.getElem?_eq_getElem hi
        generalize (elts (nb g v))[i] = u at hu
        have hum := (mem_elts (by omega)).1 (List.mem_of_getElem? hu)
        have hadd : add .i64 (i : Int) 1 = ((i + 1 : Nat) : Int) := by rw [add64 (by omega) (by omega)]; omega
        have hs2 := ht1.sl f2 hs6
        obtain ⟨es, c, hm1, hm2⟩ := ht2.hn
        have e1 : ∀ (K : Value → Option (Ex × List Value × H)), (six v6 (i : Int) 1 fun b o => ld Tryd.prog h2 3 b o K) = K (iv (u : Int)) := fun K =>
          hs2.ld0 ag3 (by omega) (x := [iv (u : Int)]) (by simp [hu]) rfl K
        have cn : ∀ (K : Value → Option (Ex × List Value × H)), (ld Tryd.prog h2 120 bn 0 K) = K (.map (some mn)) := fun K => by rw [d120, cell_of ht2.n]; rfl
        have cp : ∀ (K : Value → Option (Ex × List Value × H)), (ld Tryd.prog h2 120 bp 0 K) = K (.map (some mp)) := fun K => by rw [d120, cell_of ht2.p]; rfl
        by_cases hin : u ∈ nodesT (T ++ X)
        · have hlook : ∃ r z, look (kvN (T ++ X)) (u : Int) 0 = some (r, iv z) := by
            cases hlk : look (kvN (T ++ X)) (u : Int) 0 with
            | none => exact absurd hin (kvN_key.1 ((look_none _ _).1 hlk))
            | some r =>
              obtain ⟨j, h5, h6⟩ := look_some _ _ _ hlk
              unfold kvN at h6
              rw [List.getElem?_map] at h6
              obtain ⟨y, _, hy⟩ := Option.map_eq_some_iff.1 h6
              exact ⟨r.1, y.2, by rw [(Prod.mk.inj hy).2]⟩
          obtain ⟨r, z, hlk⟩ := hlook
          refine ⟨.normal, [iv ((i + 1 : Nat) : Int)], h2, ?_, .inl ⟨rfl, rfl, X, ht2, f2, hX.skip hu hin⟩⟩
          unfold f82_l1
          rw [show AM.gv [iv i] 0 = iv i from rfl, asI_int, lt_t (by omega), ifB_true, asK_int, e1, asI_int, asP_ptr, cn, lok_int under120 under3i zero3' hm1 hm2, hlk]
          simp [hadd]
        · have hlk := (look_none (k := (u : Int)) (kvN (T ++ X)) 0).2 (kvN_key.2 hin)
          obtain ⟨h4, e4, ht4, f4⟩ := ht2.enter (R := Ex × List Value × H) (v := v) hin
          have hvT : v ∈ nodesT (T ++ X) := by rw [← hT]; simp [nodesT]
          have hw' : Wf g (T ++ X ++ [(u, (v : Int))]) := hX.wf.snoc hg.toGrB hvT hin hum
          obtain ⟨Y, h5, e5, ht5, f5, vY⟩ := ih (T ++ X) u (v : Int) h4 hw' (by rw [← hT]; simp; omega) ht4
          have c75 := fun (K : Value → H → Option (Ex × List Value × H)) => calls_eq (K := K) (xs := [iv u, pt bt 0, pt bn 0, pt bp 0, pt bv 0]) e5
          have cv : ∀ (K : Value → Option (Ex × List Value × H)), (ld Tryd.prog h4 121 bv 0 K) = K (visF bt bn bp bv) := fun K => by rw [d121, cell_of ht4.v]; rfl
          have hXY : T ++ X ++ [(u, (v : Int))] ++ Y = T ++ (X ++ (u, (v : Int)) :: Y) := by simp
          rw [hXY] at ht5
          refine ⟨.normal, [iv ((i + 1 : Nat) : Int)], h5, ?_, .inl ⟨rfl, rfl, X ++ (u, (v : Int)) :: Y, ht5, (f2.trans f4).trans f5, hX.next hu vY⟩⟩
          unfold f82_l1
          rw [show AM.gv [iv i] 0 = iv i from rfl, asI_int, lt_t (by omega), ifB_true, asK_int, e1, asI_int, asP_ptr, cn, lok_int under120 under3i zero3' hm1 hm2, hlk]
          simp only [ext20, ext21, asI_int, asB_bool, asP_ptr, cn, cp]
          rw [show (!false) = true from rfl, ifB_true, e4, cv, callsV_eq, show (#[] : Array Value).toList ++ [iv (u : Int)] ++ (#[pt bt 0, pt bn 0, pt bp 0, pt bv 0] : Array Value).toList = [iv u, pt bt 0, pt bn 0, pt bp 0, pt bv 0] from rfl, c75, hadd]
          rfl)
      (by
        rintro ws h2 ⟨rfl, X, ht2, f2, hX⟩
        exact ⟨.exit 0, [iv (elts (nb g v)).length], h2, by simp [f82_l1], by simp, rfl, X, ht2, f2, hX⟩)
      (ws := [iv 0]) (h := h1) (by omega) ⟨rfl, [], by simpa using ht1, .refl _ _ _, lp0 hw⟩
    have e82 := t82 (k := 20) (n0 := v) (v0 := pt bt 0) (v1 := pt bn 0) (v2 := pt bp 0) (v3 := pt bv 0) (h := h) (h1 := h2) (v := undef) (by
      unfold f82
      rw [asP_ptr, d72, cell_of ht.t, show ([tv] : List Value)[0]? = some tv from rfl, Option.bind_some]
      simp only [d3]
      rw [getN ht.s hv, asI_int, c76, hn6]
      refine (lp_eq hlp).trans ?_
      rfl)
    have f := (Fm.ext (mn := mn) (mp := mp) x1.toExt).trans f2
    obtain ⟨q1, q2, q3⟩ := trunc_blk (P := Tryd.prog) (v := undef) f.nx
    obtain ⟨ht3, f3⟩ := ht2.trunc f ht.lt ht.lp ht.cl ht.s ht q1 q3
    exact ⟨X, _, e82, ht3, f3, by subst hT; exact hX.fin hg⟩

end Go.AM

end

section

/- Orient. -/
namespace Go.AM
open Go.Proofs
variable {R : Type}
attribute [local simp] nx_eq nx_new nx_set blk_new blk_set asI_int asK_int asB_bool asP_ptr al_eq bx_eq len_slice onE_exit onE_ret onR_ret Value.cells cell_new cell_set rd_new rd_set off eq lt le ifB gv out ext20 ext21
theorem look_N {x : Nat} : ∀ {T : TL} (i k : Nat), x ∈ nodesT T → look ((T.zipIdx k).map fun y => ((y.1.1 : Int), iv (y.2 : Int))) (x : Int) i = some (i + numP T x, iv ((k + numP T x : Nat) : Int)) := by
  intro T
  induction T with
  | nil => intro i k h; simp [nodesT] at h
  | cons y T ih =>
    intro i k h
    rw [List.zipIdx_cons, List.map_cons]
    simp only [look, numP]
    by_cases hy : y.1 = x
    · subst hy; simp
    · rw [if_neg (fun e => hy (Int.natCast_inj.1 e).symm), if_neg hy]
      have h' : x ∈ nodesT T := by
        simp only [nodesT, List.map_cons, List.mem_cons] at h
        rcases h with h | h
        · exact absurd h.symm hy
        · exact h
      rw [ih (i + 1) (k + 1) h', show i + 1 + numP T x = i + (numP T x + 1) by omega, show k + 1 + numP T x = k + (numP T x + 1) by omega]

theorem look_P {x : Nat} : ∀ {T : TL} (i : Nat), x ∈ nodesT T → look (kvP T) (x : Int) i = some (i + numP T x, iv (parP T x)) := by
  intro T
  induction T with
  | nil => intro i h; simp [nodesT] at h
  | cons y T ih =>
    intro i h
    unfold kvP at *
    rw [List.map_cons]
    simp only [look, numP, parP]
    by_cases hy : y.1 = x
    · subst hy; simp
    · rw [if_neg (fun e => hy (Int.natCast_inj.1 e).symm), if_neg hy, if_neg hy]
      have h' : x ∈ nodesT T := by
        simp only [nodesT, List.map_cons, List.mem_cons] at h
        rcases h with h | h
        · exact absurd h.symm hy
        · exact h
      rw [ih (i + 1) h', show i + 1 + numP T x = i + (numP T x + 1) by omega]

/-- A new map with one entry, in a cell of its own. -/
theorem mk_map (h : H) (a : Int) : ∃ h8 h10 es c, (∀ (K : H → H → Option R), (mkm h fun h7 => mup Tryd.prog h7 120 (.map (some (nx h))) (.int .i64 0) (.int .i64 a) fun h8 => al h8 120 [.map none] fun h9 => st Tryd.prog h9 120 (nx h8) 0 (.map (some (nx h))) (K h8)) = K h8 h10) ∧
    h8.nx = h.nx + 1 ∧ h10.nx = h.nx + 2 ∧ h10.blk h.nx = some (.mp es c) ∧ KvI [((0 : Int), iv a)] es ∧ h10.blk (h.nx + 1) = some (.row [.map (some h.nx)] 120 true) ∧ Ext h h10 := by
  have hm : (h.new (.mp [] 0)).blk h.nx = some (.mp [] 0) := blk_new_self _ _
  have k0 : KvI ([] : List (Int × Value)) [] := rfl
  refine ⟨(h.new (.mp [] 0)).set h.nx (.mp ([] ++ [{ key := .int .i64 0, val := .int .i64 a, born := 0 }]) (0 + 1)),
    (((h.new (.mp [] 0)).set h.nx (.mp ([] ++ [{ key := .int .i64 0, val := .int .i64 a, born := 0 }]) (0 + 1))).new (.row [.map none] 120 true)).set (h.nx + 1) (.row [.map (some h.nx)] 120 true), _, 0 + 1, fun K => ?_, rfl, rfl, ?_, k0.snoc (.int .i64 a) 0, blk_set_self _ _ _, ?_⟩
  · simp only [mkm]
    rw [nx_eq, mup_new under120 under3i hm k0 rfl, al_eq, w120]
    simp only [wrc]
    rw [show (((h.new (.mp [] 0)).set h.nx (.mp ([] ++ [{ key := .int .i64 0, val := .int .i64 a, born := 0 }]) (0 + 1))).new (.row [.map none] 120 true)).blk (nx ((h.new (.mp [] 0)).set h.nx (.mp ([] ++ [{ key := .int .i64 0, val := .int .i64 a, born := 0 }]) (0 + 1)))) = some (.row [.map none] 120 true) from blk_new_self _ _]
    rfl
  · rw [blk_set_ne _ _ _ (by omega), blk_new_ne _ _ (by simp), blk_set_self]
  · refine ⟨by simp; omega, fun b hb => ?_⟩
    rw [blk_set_ne _ _ _ (by omega), blk_new_ne _ _ (by simp; omega), blk_set_ne _ _ _ (by omega), blk_new_ne _ _ (by omega)]

noncomputable def firmP (g : List Nat) : Bool := connS g (allN g) && decide (bridgesP g = [])

set_option maxHeartbeats 1000000 in
theorem or_loop {g : List Nat} {T : TL} {bt bn bp bv mn mp : Nat} {tv v13 : Value} {h8 h12 h18 : H} (hg : GrN g) (tree : Tree g T) (hc0 : Conn g (allN g)) (ht18 : HT g T bt bn bp bv mn mp tv h18) (q8 : h8.nx = bn) (q12 : h12.nx = bp)
    (hap0 : SlR h18 83 2 v13 (cellsP (edgesP g))) : ∃ sv' w h30, lpGo (f34_l1 rn 200 h8 h12 v13 (edgesP g).length) 200 [.slice none 0 0, iv 0] h18 = some (.exit 0, [sv', w], h30) ∧ Ext h18 h30 ∧ AqR h18.nx h30 124 2 sv' (cellsQ (streetsP g T)) := by
  have hlen := hg.len
  have hel := edges_len g hg.toGrB
  obtain ⟨ws', h30, hl, xg, hll, sv', hap', rfl⟩ := lp_for (F := f34_l1 rn 200 h8 h12 v13 (edgesP g).length) (k := 200) (l := edgesP g) (fun _ e acc => acc ++ [castP (orE T e)])
    (fun i acc ws g' => Ext h18 g' ∧ acc.length = i ∧ ∃ sv, AqR h18.nx g' 124 2 sv (cellsQ acc) ∧ ws = [sv, iv i]) 0 (ws := [.slice none 0 0, iv 0]) (h := h18) (s0 := [])
    ⟨.refl _, rfl, _, .nil, rfl⟩ (by omega)
    (by
      rintro acc ws g' ⟨_, _, sv, _, rfl⟩
      simp [f34_l1])
    (by
      rintro i e acc ws g' hx ⟨xg, hal, sv, hap, rfl⟩
      have hi := (List.getElem?_eq_some_iff.1 hx).1
      obtain ⟨hlt1, hlt2, hadj⟩ := mem_edges.1 (List.mem_of_getElem? hx)
      have hadd : add .i64 (i : Int) 1 = ((i + 1 : Nat) : Int) := by rw [add64 (by omega) (by omega)]; omega
      obtain ⟨g3, hg3⟩ : ∃ g3, g3 = (g'.new (.row [.int .i64 0, .int .i64 0] 83 true)).set g'.nx (.row [iv e.1, iv e.2] 83 true) := ⟨_, rfl⟩
      have hbg3 : g3.blk g'.nx = some (.row [iv e.1, iv e.2] 83 true) := by rw [hg3]; exact blk_set_self _ _ _
      have xg3 : Ext g' g3 := by rw [hg3]; exact ((Ext.refl g').new' _).set (Nat.le_refl _) _
      have w2 : ∀ (K : H → Option (Ex × List Value × H)), (wrc 2 (g'.new (.row [.int .i64 0, .int .i64 0] 83 true)) g'.nx 0 (.agg #[iv e.1, iv e.2])).bind K = K g3 := fun K => by
        rw [hg3]
        unfold wrc
        rw [blk_new_self]
        rfl
      have e1 : ∀ (K : Value → Option (Ex × List Value × H)), (six v13 (i : Int) 2 fun b o => ld Tryd.prog g' 83 b o K) = K (.agg #[iv e.1, iv e.2]) := fun K =>
        (hap0.ext xg).ldA ag83 sz83 (by omega) (x := [iv e.1, iv e.2]) (by simp [hx]) K
      have htg := ht18.ext (xg.trans xg3)
      obtain ⟨esn, cn, hbn, hkn⟩ := htg.hn
      obtain ⟨esp, cp, hbp, hkp⟩ := htg.hp
      have m1 := tree.all hg hc0 (x := e.1) (by omega)
      have m2 := tree.all hg hc0 hlt2
      have ln : ∀ x, x ∈ nodesT T → look (kvN T) (x : Int) 0 = some (numP T x, iv (numP T x : Nat)) := fun x hx => by
        have := look_N 0 0 hx
        rw [Nat.zero_add] at this
        exact this
      have lp : ∀ x, x ∈ nodesT T → look (kvP T) (x : Int) 0 = some (numP T x, iv (parP T x)) := fun x hx => by
        have := look_P 0 hx
        rw [Nat.zero_add] at this
        exact this
      have rn' : ∀ (K : Value → Option (Ex × List Value × H)), (ld Tryd.prog g3 120 bn 0 K) = K (.map (some mn)) := fun K => by rw [d120, cell_of htg.n]; rfl
      have rp' : ∀ (K : Value → Option (Ex × List Value × H)), (ld Tryd.prog g3 120 bp 0 K) = K (.map (some mp)) := fun K => by rw [d120, cell_of htg.p]; rfl
      have qn : ∀ x, x ∈ nodesT T → ∀ (K : Value → Option (Ex × List Value × H)), lok Tryd.prog g3 120 (.map (some mn)) (.int .i64 (x : Int)) false K = K (iv (numP T x : Nat)) := fun x hx K => by
        rw [lok_int0 under120 under3i zero3' hbn hkn, ln x hx]
      have qp : ∀ x, x ∈ nodesT T → ∀ (K : Value → Option (Ex × List Value × H)), lok Tryd.prog g3 120 (.map (some mp)) (.int .i64 (x : Int)) false K = K (iv (parP T x)) := fun x hx K => by
        rw [lok_int0 under120 under3i zero3' hbp hkp, lp x hx]
      have hlt : ∀ a b : Nat, AM.lt (a : Int) (b : Int) = decide (a < b) := fun a b => by simp [AM.lt]
      have start2 : f34_l1 rn 200 h8 h12 v13 (edgesP g).length [sv, iv i] g' = (bls Tryd.prog g3 68 1 [(0, .agg #[.int .i64 (castP (orE T e)).1, .int .i64 (castP (orE T e)).2])] fun y h2 => app Tryd.prog h2 68 68 sv y fun v25 h23 => AM.out .normal [v25, iv ((i + 1 : Nat) : Int)] h23) := by
        unfold f34_l1
        rw [show AM.gv [sv, iv i] 1 = iv i from rfl, show AM.gv [sv, iv i] 0 = sv from rfl, asI_int, lt_t (by omega), ifB_true, asK_int]
        rw [e1, al_eq, w83, nx_eq, w2]
        simp only [aix_in (show (0 : Int) ≤ 0 by omega) (show (0 : Int) < ((2 : Nat) : Int) by omega), aix_in (show (0 : Int) ≤ 1 by omega) (show (1 : Int) < ((2 : Nat) : Int) by omega), nx_eq, d3, at_, cell_of hbg3]
        rw [show ([iv (e.1 : Int), iv (e.2 : Int)] : List Value)[0 + (0 : Int).toNat * 1]? = some (iv e.1) from rfl]
        rw [show ([iv (e.1 : Int), iv (e.2 : Int)] : List Value)[0 + (1 : Int).toNat * 1]? = some (iv e.2) from rfl]
        simp only [Option.bind_some, asI_int, q8, q12, rn', rp', qn _ m1, qn _ m2, qp _ m1, qp _ m2, hlt, kbld124, hadd]
        unfold orE castP
        by_cases hnum : numP T e.2 < numP T e.1
        · simp only [hnum, decide_true, ifB_true, if_true]
          by_cases hpar : parP T e.1 = (e.2 : Int)
          · simp only [hpar, AM.eq, decide_true, ifB_true, if_true, beq_self_eq_true]
          · simp only [hpar, AM.eq, decide_false, ifB_false, if_false, beq_false_of_ne hpar]
        · simp only [hnum, decide_false, ifB_false, if_false]
          by_cases hpar : parP T e.2 = (e.1 : Int)
          · simp only [hpar, AM.eq, decide_true, ifB_true, if_true, beq_self_eq_true]
          · simp only [hpar, AM.eq, decide_false, ifB_false, if_false, beq_false_of_ne hpar]
      obtain ⟨sv', h2, e2, a2, n2, k2, b2, hb2, hb2'⟩ := (hap.ext xg3).push app68 app68 (bls68 (castP (orE T e)).1 (castP (orE T e)).2) rfl rfl (by rw [List.length_map]; omega) (xg.trans xg3).nx
      rw [start2, e2]
      refine ⟨_, _, rfl, ⟨by have := (xg.trans xg3).nx; omega, fun b hb => ?_⟩, by simp; omega, sv', ?_, rfl⟩
      · rw [k2 b (by have := (xg.trans xg3).nx; omega) (fun e => by have := ((hap.ext xg3).blkOf e).1; omega)]
        exact (xg.trans xg3).blk b hb
      · have : cellsQ (acc ++ [castP (orE T e)]) = cellsQ acc ++ [[iv (castP (orE T e)).1, iv (castP (orE T e)).2]] := by simp
        rw [this]; exact a2)
  have hfold : foldI (fun _ e acc => acc ++ [castP (orE T e)]) (edgesP g) 0 [] = streetsP g T := by
    have := foldI_filter (p := fun (_ : Nat × Nat) => true) (f := fun e => castP (orE T e)) (edgesP g) 0 []
    rw [List.filter_eq_self.2 (fun _ _ => rfl), List.nil_append] at this
    exact this
  rw [hfold] at hap'
  exact ⟨sv', _, h30, hl, xg, hap'⟩

end Go.AM

end

section

/- A shortest way: the loops. -/
namespace Go.AM
open Go.Proofs
variable {R : Type}
attribute [local simp] nx_eq nx_new nx_set blk_new blk_set asI_int asK_int asB_bool asP_ptr al_eq bx_eq len_slice onE_exit onE_ret onR_ret Value.cells cell_new cell_set rd_new rd_set off eq lt le ifB gv out ext20 ext21
/-- What the map of the search holds. -/
def HB (mn : Nat) (T : TL) (h : H) : Prop := ∃ es c, h.blk mn = some (.mp es c) ∧ KvI (kvP T) es

theorem HB.look {mn : Nat} {T : TL} {h : H} (a : HB mn T h) {x : Nat} {q : Int} (hx : (x, q) ∈ T) (hn : (nodesT T).Nodup) (K : Value → Option R) : lok Tryd.prog h 120 (.map (some mn)) (.int .i64 (x : Int)) false K = K (iv q) := by
  obtain ⟨es, c, h1, h2⟩ := a
  have hm : x ∈ nodesT T := List.mem_map.2 ⟨_, hx, rfl⟩
  have := look_P 0 hm
  rw [lok_int0 under120 under3i zero3' h1 h2, this]
  obtain ⟨T1, T2, rfl, h3⟩ := split_at hx hn
  simp only [parP_at h3]

theorem HB.ext {mn : Nat} {T : TL} {h h' : H} (a : HB mn T h) (hb : h'.blk mn = h.blk mn) : HB mn T h' := by
  obtain ⟨es, c, h1, h2⟩ := a
  exact ⟨es, c, hb.trans h1, h2⟩

/-- Up the tree, node by node. -/
theorem s78_l2 {mn lo k0 : Nat} {T : TL} {h0 : H} (hn0 : h0.nx = mn) (hnd : (nodesT T).Nodup) (hmlo : mn < lo) : ∀ {v : Nat} {l : List Nat}, Up T v l → ∀ (acc : List Nat) (sv : Value) (g : H) (k : Nat), HB mn T g → AqR lo g 3 1 sv (cellsN acc) → lo ≤ g.nx → l.length < k → acc.length + l.length < 1000 →
    ∃ sv' w g', lpGo (f78_l2 rn k0 h0) k [sv, iv (v : Int)] g = some (.exit 2, [sv', w], g') ∧ AqR lo g' 3 1 sv' (cellsN (acc ++ l)) ∧ g.nx ≤ g'.nx ∧ ∀ b, b < g.nx → blkOf sv ≠ some b → g'.blk b = g.blk b := by
  intro v l hu
  have step : ∀ (v : Nat) (q : Int) (acc : List Nat) (sv : Value) (g : H), (v, q) ∈ T → HB mn T g → AqR lo g 3 1 sv (cellsN acc) → lo ≤ g.nx → acc.length + 1 < 1000 →
      ∃ sv' g', f78_l2 rn k0 h0 [sv, iv (v : Int)] g = some (.normal, [sv', iv q], g') ∧ AqR lo g' 3 1 sv' (cellsN (acc ++ [v])) ∧ HB mn T g' ∧ g.nx ≤ g'.nx ∧ (∀ b, b < g.nx → blkOf sv ≠ some b → g'.blk b = g.blk b) ∧ ∃ b', blkOf sv' = some b' ∧ g.nx ≤ b' := by
    intro v q acc sv g hv hb ha hlo hm
    obtain ⟨sv', g', e, a', n', k', b', hb', hb''⟩ := ha.push app22 app22 (bls22 (v : Int)) rfl rfl (by rw [List.length_map]; omega) hlo
    have hmn : g'.blk mn = g.blk mn := k' _ (by omega) (fun e => by have := (ha.blkOf e).1; omega)
    have hb2 := hb.ext hmn
    refine ⟨sv', g', ?_, ?_, hb2, n', k', b', hb', hb''⟩
    · unfold f78_l2
      rw [show AM.gv [sv, iv (v : Int)] 1 = iv v from rfl, show AM.gv [sv, iv (v : Int)] 0 = sv from rfl, asI_int, show AM.le 0 (v : Int) = true by simp [AM.le], ifB_true, e, nx_eq, hn0, hb2.look hv hnd, asI_int]
      rfl
    · have : cellsN (acc ++ [v]) = cellsN acc ++ [[iv (v : Int)]] := by simp
      rw [this]; exact a'
  induction hu with
  | @root v hv =>
    intro acc sv g k hb ha hlo hk hm
    obtain ⟨sv', g', e, a', hb', n', k', _⟩ := step v (-1) acc sv g hv hb ha hlo (by simpa using hm)
    obtain ⟨k, rfl⟩ : ∃ k', k = k' + 1 + 1 := ⟨k - 2, by simp at hk; omega⟩
    refine ⟨sv', iv (-1), g', ?_, a', n', k'⟩
    rw [lpGo_next e]
    unfold lpGo
    simp [f78_l2]
  | @step v p l hv hl ih =>
    intro acc sv g k hb ha hlo hk hm
    simp only [List.length_cons] at hk hm
    obtain ⟨sv', g', e, a', hb', n', k', b', hbb, hbn⟩ := step v (p : Int) acc sv g hv hb ha hlo (by omega)
    obtain ⟨k, rfl⟩ : ∃ k', k = k' + 1 := ⟨k - 1, by omega⟩
    obtain ⟨sv2, w, g2, e2, a2, n2, k2⟩ := ih (acc ++ [v]) sv' g' k hb' a' (by omega) (by omega) (by simp; omega)
    refine ⟨sv2, w, g2, ?_, by simpa using a2, by omega, fun b hbl hne => ?_⟩
    · rw [lpGo_next e]; exact e2
    · rw [k2 b (by omega) (fun e => by rw [hbb] at e; cases e; omega), k' b hbl hne]

end Go.AM

end

section

/- A shortest way: a node's neighbours join the queue. -/
namespace Go.AM
open Go.Proofs
variable {R : Type}
attribute [local simp] nx_eq nx_new nx_set blk_new blk_set asI_int asK_int asB_bool asP_ptr al_eq bx_eq len_slice onE_exit onE_ret onR_ret Value.cells cell_new cell_set rd_new rd_set off eq lt le ifB gv out ext20 ext21
/-- The nodes of a set, in a slice that owns its row. -/
theorem s54A {S : Nat} (hS : S < 1024) (h : H) : ∃ v' h', rn 54 #[iv S] h = some (v', h') ∧ Exw h h' ∧ AqR h.nx h' 3 1 v' (cellsN (elts S)) := by
  obtain ⟨e, ws', h', hl, rfl, xg, v, w, hap, rfl⟩ := lpGo_inv (F := f54_l1 rn 2000)
    (fun d ws g => Ext h g ∧ ∃ (v : Value) (x : Nat) (L : List Nat), ws = [v, iv x] ∧ d = x ∧ x < 1024 ∧ L ++ elts x = elts S ∧ AqR h.nx g 3 1 v (cellsN L))
    (fun e ws g => e = .exit 0 ∧ Ext h g ∧ ∃ v w, AqR h.nx g 3 1 v (cellsN (elts S)) ∧ ws = [v, w])
    (by
      rintro d ws g ⟨xg, v, x, L, rfl, rfl, hx, hL, hap⟩
      by_cases hx0 : d = 0
      · subst hx0
        rw [elts_zero, List.append_nil] at hL
        subst hL
        exact ⟨.exit 0, [v, iv 0], _, by simp [f54_l1], .inr ⟨by simp, rfl, xg, v, iv 0, hap, rfl⟩⟩
      · have h0 : 0 < d := Nat.pos_of_ne_zero hx0
        obtain ⟨h1, h2⟩ := elts_next h0 hx
        have c89 := fun (K : Value → H → Option (Ex × List Value × H)) => calls_eq (K := K) (xs := [.int .u64 d]) (s79 h0 hx g)
        have hsub : sub .i64 (d : Int) 1 = ((d - 1 : Nat) : Int) := by rw [sub64 (by omega) (by omega)]; omega
        have hand : AM.and .i64 (d : Int) ((d - 1 : Nat) : Int) = ((d &&& (d - 1) : Nat) : Int) := and_nat (by omega) (by omega)
        have hLl : L.length ≤ 10 := by
          have h3 := congrArg List.length hL
          rw [List.length_append, elts_len S] at h3
          have := pop_le_n (Nat.le_refl 10) hS
          omega
        obtain ⟨v', g2, e2, a2, n2, k2, b2, hb2, hb2'⟩ := hap.push app22 app22 (bls22 (low d : Int)) rfl rfl (by simp; omega) xg.nx
        have ee : ∀ (K : Value → H → Option (Ex × List Value × H)), (bls Tryd.prog g 22 1 [(0, iv (low d : Nat))] fun y h2 => app Tryd.prog h2 22 22 v y K) = K v' g2 := fun K => e2 K
        refine ⟨.normal, [v', iv (d &&& (d - 1) : Nat)], g2, ?_, .inl ⟨rfl, d &&& (d - 1), h2, ⟨by have := xg.nx; omega, fun b hb => ?_⟩, v', d &&& (d - 1), L ++ [low d], rfl, rfl, by omega, ?_, ?_⟩⟩
        · unfold f54_l1
          rw [show AM.gv [v, iv d] 1 = iv d from rfl, show AM.gv [v, iv d] 0 = v from rfl, asI_int, show AM.eq (d : Int) 0 = false by simp; omega, show (!false) = true from rfl, ifB_true, asI_int, wr64u hx, c89, asI_int, ee, asI_int, asI_int, hsub, hand]
          rfl
        · rw [k2 b (by have := xg.nx; omega) (fun e => by have := (hap.blkOf e).1; omega)]
          exact xg.blk b hb
        · rw [← hL, h1]; simp
        · have : cellsN (L ++ [low d]) = cellsN L ++ [[iv (low d : Int)]] := by simp
          rw [this]; exact a2)
    S 2000 (by omega) ⟨.refl _, .slice none 0 0, S, [], rfl, rfl, hS, rfl, .nil⟩
  obtain ⟨h2, e2, m2, w2⟩ := x54 (k := 2000) (n0 := S) (h := h) (h1 := h') (v := v) (by
    unfold f54
    exact (lp_eq hl).trans rfl) (by obtain ⟨x, y, z, hz⟩ := hap.isSl; rw [hz]; rfl)
  exact ⟨v, h2, e2, w2 xg, hap.ext m2.ext⟩

/-- After some neighbours. -/
structure L3 (g : List Nat) (a to W mn lo v : Nat) (T0 : TL) (q0 : List Nat) (qv0 : Value) (g0 : H) (L : List Nat) (i : Nat) (ws : List Value) (h : H) : Prop where
  ex : ∃ (X : TL) (qv : Value), ws = [qv, iv (i : Int)] ∧ BW g a to W (T0 ++ X) ∧ HB mn (T0 ++ X) h ∧ QV lo h qv (v :: q0 ++ nodesT X) ∧ (∀ u ∈ L.take i, u ∈ nodesT (T0 ++ X)) ∧ X.length ≤ i ∧
    g0.nx ≤ h.nx ∧ (∀ b, b < g0.nx → b ≠ mn → blkOf qv0 ≠ some b → h.blk b = g0.blk b) ∧ (∀ b, blkOf qv = some b → blkOf qv0 = some b ∨ g0.nx ≤ b)

set_option maxHeartbeats 1000000 in
theorem s78_l3 {g : List Nat} (hg : GrB g) {a to W mn lo k0 v : Nat} {h0 : H} {L : List Nat} {v8 : Value} {T0 : TL} {q0 : List Nat} {qv0 : Value} {g0 : H} (hn0 : h0.nx = mn) (hmlo : mn < lo)
    (hL : ∀ u ∈ L, adj g v u = true ∧ W.testBit u = true) (hLl : L.length ≤ 10) (hv : v ∈ nodesT T0) (hvt : to.testBit v = false) (h8 : SlR g0 3 1 v8 (cellsN L)) (h8n : ∀ b, blkOf v8 = some b → lo ≤ b ∧ blkOf qv0 ≠ some b)
    (hbw : BW g a to W T0) (hb : HB mn T0 g0) (hq : QV lo g0 qv0 (v :: q0)) (hmn : mn < g0.nx) (hlo : lo ≤ g0.nx) (hql : q0.length ≤ 100) :
    ∃ ws' h', lpGo (f78_l3 rn k0 h0 v v8 L.length) 20 [qv0, iv 0] g0 = some (.exit 4, ws', h') ∧ L3 g a to W mn lo v T0 q0 qv0 g0 L L.length ws' h' := by
  obtain ⟨e, ws', h', hl, rfl, hr⟩ := lp_range (F := f78_l3 rn k0 h0 v v8 L.length) (k := 20) (n := L.length) (fun i ws h => L3 g a to W mn lo v T0 q0 qv0 g0 L i ws h) (fun e ws h => e = .exit 4 ∧ L3 g a to W mn lo v T0 q0 qv0 g0 L L.length ws h)
    (by
      rintro i ws h hi ⟨X, qv, rfl, bw, hbh, hqh, hin, hXi, hnx, hblk, hqb⟩
      have hu := List.getElem?_eq_getElem hi
      generalize L[i] = u at hu
      obtain ⟨hadj, hW⟩ := hL u (List.mem_of_getElem? hu)
      have hadd : add .i64 (i : Int) 1 = ((i + 1 : Nat) : Int) := by rw [add64 (by omega) (by omega)]; omega
      have h8h : SlR h 3 1 v8 (cellsN L) := h8.keepB hnx fun b hb8 => by
        obtain ⟨q1, _⟩ := h8.blkR hb8
        obtain ⟨q2, q3⟩ := h8n b hb8
        exact hblk b q1 (by omega) q3
      have e1 : ∀ (K : Value → Option (Ex × List Value × H)), (six v8 (i : Int) 1 fun b o => ld Tryd.prog h 3 b o K) = K (iv (u : Int)) := fun K =>
        h8h.ld0 ag3 (by omega) (x := [iv (u : Int)]) (by simp [hu]) rfl K
      obtain ⟨es, c, m1, m2⟩ := hbh
      by_cases hm : u ∈ nodesT (T0 ++ X)
      · have hlk := look_P 0 hm
        refine ⟨.normal, [qv, iv ((i + 1 : Nat) : Int)], h, ?_, .inl ⟨rfl, ⟨X, qv, rfl, bw, ⟨es, c, m1, m2⟩, hqh, fun y hy => ?_, by omega, hnx, hblk, hqb⟩⟩⟩
        · unfold f78_l3
          rw [show AM.gv [qv, iv i] 1 = iv i from rfl, show AM.gv [qv, iv i] 0 = qv from rfl, asI_int, lt_t (by omega), ifB_true, asK_int, e1, asI_int, nx_eq, hn0, lok_int under120 under3i zero3' m1 m2, hlk]
          simp [hadd]
        · rw [List.take_add_one, hu, List.mem_append] at hy
          rcases hy with hy | hy
          · exact hin y hy
          · simp at hy; rw [hy]; exact hm
      · have hlk := (look_none (k := (u : Int)) (kvP (T0 ++ X)) 0).2 (kvP_key.2 hm)
        obtain ⟨h1, hh1⟩ : ∃ h1, h1 = h.set mn (.mp (es ++ [{ key := .int .i64 (u : Int), val := .int .i64 (v : Int), born := c }]) (c + 1)) := ⟨_, rfl⟩
        have n1 : h1.nx = h.nx := by rw [hh1]; rfl
        have k1 : ∀ b, b ≠ mn → h1.blk b = h.blk b := fun b hb => by rw [hh1]; exact blk_set_ne _ _ _ hb
        have hb1 : HB mn (T0 ++ (X ++ [(u, (v : Int))])) h1 := by
          refine ⟨_, _, by rw [hh1]; exact blk_set_self _ _ _, ?_⟩
          rw [← List.append_assoc, kvP_snoc]
          exact m2.snoc _ _
        have hq1 : QV lo h1 qv (v :: q0 ++ nodesT X) := hqh.keep (by omega) fun b hb => k1 b (by have := (hqh.blkOf hb).1; omega)
        have hXl : (nodesT X).length = X.length := by simp [nodesT]
        obtain ⟨qv', h2, e2, hq2, n2, k2, b', hb', hbn⟩ := QV.push (q := q0 ++ nodesT X) hq1 u (by rw [List.length_append]; omega) (by omega)
        have hb2 : HB mn (T0 ++ (X ++ [(u, (v : Int))])) h2 := hb1.ext (k2 mn (by omega) (fun e => by have := (hq1.blkOf e).1; omega))
        have bw2 : BW g a to W (T0 ++ (X ++ [(u, (v : Int))])) := by
          rw [← List.append_assoc]
          exact bw.snoc hg (by rw [nodesT_app]; exact List.mem_append_left _ hv) hm hadj hW hvt
        refine ⟨.normal, [qv', iv ((i + 1 : Nat) : Int)], h2, ?_, .inl ⟨rfl, ⟨X ++ [(u, (v : Int))], qv', rfl, bw2, hb2, ?_, fun y hy => ?_, by simp; omega, by omega, fun b hbl hbm hbq => ?_, fun b hbb => ?_⟩⟩⟩
        · unfold f78_l3
          rw [show AM.gv [qv, iv i] 1 = iv i from rfl, show AM.gv [qv, iv i] 0 = qv from rfl, asI_int, lt_t (by omega), ifB_true, asK_int, e1, asI_int, nx_eq, hn0, lok_int under120 under3i zero3' m1 m2, hlk]
          simp only [ext20, ext21, asI_int, asB_bool]
          rw [show (!false) = true from rfl, ifB_true, mup_new under120 under3i m1 m2 hlk, ← hh1, e2, hadd]
          rfl
        · have : nodesT (X ++ [(u, (v : Int))]) = nodesT X ++ [u] := by simp [nodesT]
          rw [this, ← List.append_assoc]; exact hq2
        · rw [← List.append_assoc, nodesT_app, List.mem_append]
          rw [List.take_add_one, hu, List.mem_append] at hy
          rcases hy with hy | hy
          · exact .inl (hin y hy)
          · simp at hy; rw [hy]; exact .inr (by simp [nodesT])
        · rw [k2 b (by omega) (fun e => by
            rcases hqb b e with h3 | h3
            · exact hbq h3
            · omega), k1 b hbm]
          exact hblk b hbl hbm hbq
        · rw [hb'] at hbb
          cases hbb
          exact .inr (by omega))
    (by
      rintro ws h ⟨X, qv, rfl, rest⟩
      exact ⟨.exit 4, [qv, iv L.length], h, by simp [f78_l3], by simp, rfl, X, qv, rfl, rest⟩)
    (ws := [qv0, iv 0]) (h := g0) (by omega) ⟨[], qv0, rfl, by simpa using hbw, by simpa using hb, by simpa [nodesT] using hq, by simp, by simp, Nat.le_refl _, fun _ _ _ _ => rfl, fun b hb => .inl hb⟩
  exact ⟨ws', h', hl, hr⟩

end Go.AM

end

section

/- A shortest way: the whole. -/
namespace Go.AM
open Go.Proofs
variable {R : Type}
attribute [local simp] nx_eq nx_new nx_set blk_new blk_set asI_int asK_int asB_bool asP_ptr al_eq bx_eq len_slice onE_exit onE_ret onR_ret Value.cells cell_new cell_set rd_new rd_set off eq lt le ifB gv out ext20 ext21
theorem AqR.down {lo lo' : Nat} {h : H} {e : TypeId} {s : Nat} {v : Value} {l : List (List Value)} (a : AqR lo h e s v l) (hl : lo' ≤ lo) : AqR lo' h e s v l := by
  cases a with
  | nil => exact .nil
  | at_ h1 h2 h3 h4 h5 h6 => exact .at_ (Nat.le_trans hl h1) h2 h3 h4 h5 h6

theorem nodes_le {g : List Nat} {l : List Nat} (hn : l.Nodup) (hl : ∀ x ∈ l, x < g.length) : l.length ≤ g.length := by
  have := len_le (F := fun x => x) (l := l) (l' := List.range g.length) hn (fun x hx => List.mem_range.2 (hl x hx)) (fun _ _ _ _ e => e)
  simpa using this

set_option maxHeartbeats 1000000 in
theorem s78 {g : List Nat} {a to thr : Nat} {tv : Value} {h : H} (hg : GrB g) (hs : SlR h 3 1 tv (cellsN g)) (ha : a < g.length) (hto : to < 2 ^ g.length) (hthr : thr < 2 ^ g.length) :
    ∃ v' h', rn 78 #[tv, iv a, iv to, iv thr] h = some (v', h') ∧ Exw h h' ∧
      ((∃ l x, WayB g a (thr ||| to) to l ∧ l.head? = some x ∧ to.testBit x = true ∧ AqR h.nx h' 3 1 v' (cellsN l.reverse)) ∨ (v' = .slice none 0 0 ∧ ∀ u, to.testBit u = true → ¬ Rch g (thr ||| to) a u)) := by
  have hlen := hg.len
  have hpow := hg.pow
  have hW : thr ||| to < 1024 := Nat.or_lt_two_pow (n := 10) (by omega) (by omega)
  have hor : AM.or .i64 (thr : Int) (to : Int) = ((thr ||| to : Nat) : Int) := or_nat (by omega) (by omega)
  generalize hWd : thr ||| to = W at *
  have hm0 : (h.new (.mp [] 0)).blk h.nx = some (.mp [] 0) := blk_new_self _ _
  have k0 : KvI ([] : List (Int × Value)) [] := rfl
  obtain ⟨h2, hh2⟩ : ∃ h2, h2 = (h.new (.mp [] 0)).set h.nx (.mp ([] ++ [{ key := .int .i64 (a : Int), val := .int .i64 (-1), born := 0 }]) (0 + 1)) := ⟨_, rfl⟩
  have n2 : h2.nx = h.nx + 1 := by rw [hh2]; rfl
  obtain ⟨h3, hh3⟩ : ∃ h3, h3 = h2.new (.row [iv a] 3 true) := ⟨_, rfl⟩
  have n3 : h3.nx = h.nx + 2 := by rw [hh3, nx_new, n2]
  have x2 : Ext h h2 := by rw [hh2]; exact ((Ext.refl h).new' _).set (Nat.le_refl _) _
  have x3 : Ext h2 h3 := by rw [hh3]; exact Ext.new _ _
  have hb3 : HB h.nx [(a, -1)] h3 := by
    refine ⟨_, _, (x3.blk _ (by omega)).trans (by rw [hh2]; exact blk_set_self _ _ _), ?_⟩
    exact k0.snoc (.int .i64 (-1)) 0
  have hq3 : QV (h.nx + 1) h3 (.slice (some ⟨h2.nx, 0, none⟩) 1 1) [a] := .lit (by omega) (by omega) (by rw [hh3]; exact blk_new_self _ _)
  obtain ⟨e, ws', h9, hlp, hQ⟩ := lpGo_inv (F := f78_l1 rn 600 tv to thr h)
    (fun d ws g' => ∃ (T : TL) (pre q : List Nat) (qv : Value), ws = [.slice none 0 0, qv] ∧ QV (h.nx + 1) g' qv q ∧ HB h.nx T g' ∧ Ext h g' ∧ h.nx + 1 ≤ g'.nx ∧ BW g a to W T ∧ nodesT T = pre ++ q ∧ d + pre.length = g.length ∧
      ∀ v ∈ pre, to.testBit v = false ∧ ∀ u, adj g v u = true → W.testBit u = true → u ∈ nodesT T)
    (fun e ws g' => Ext h g' ∧ ((e = .exit 0 ∧ ∀ u, to.testBit u = true → ¬ Rch g W a u) ∨ (e = .ret ∧ ∃ v' w l x, ws = [v', w] ∧ WayB g a W to l ∧ l.head? = some x ∧ to.testBit x = true ∧ AqR h.nx g' 3 1 v' (cellsN l.reverse))))
    (by
      rintro d ws g' ⟨T, pre, q, qv, rfl, hq, hb, xg, hlo, bw, hTn, hd, hpre⟩
      have hTl := nodes_le bw.nodup bw.lt
      cases q with
      | nil =>
        refine ⟨.exit 0, [.slice none 0 0, qv], g', ?_, .inr ⟨by simp, xg, .inl ⟨rfl, fun u hu hr => ?_⟩⟩⟩
        · unfold f78_l1
          rw [show AM.gv [.slice none 0 0, qv] 1 = qv from rfl, show AM.gv [.slice none 0 0, qv] 0 = .slice none 0 0 from rfl, hq.len]
          simp
        · rw [List.append_nil] at hTn
          have := bw.closed (fun v hv u h1 h2 => (hpre v (by rw [← hTn]; exact hv)).2 u h1 h2) hr
          rw [hTn] at this
          rw [(hpre u this).1] at hu
          cases hu
      | cons v q =>
        have hvn : v ∈ nodesT T := by rw [hTn]; simp
        have hvl := bw.lt v hvn
        have hpl : pre.length + (q.length + 1) ≤ g.length := by rw [hTn] at hTl; simpa using hTl
        have hsg := hs.ext xg
        have hbit : AM.eq (AM.and .i64 (AM.shr .i64 (to : Int) (v : Int)) 1) 1 = to.testBit v := by
          rw [bit_nat (by omega) (by omega)]
          cases to.testBit v <;> rfl
        cases htv : to.testBit v with
        | true =>
          obtain ⟨l, hup⟩ := bw.up (numP T v + 1) v hvn (by omega)
          obtain ⟨way, hhd, _⟩ := hup.way bw
          have hll := nodes_le way.nodup way.lt
          have hl0 : l ≠ [] := by rintro rfl; simp at hhd
          obtain ⟨sv', w', g2, e2, a2, n2', k2⟩ := s78_l2 (k0 := 600) (h0 := h) rfl bw.nodup (Nat.lt_succ_self _) hup [] (.slice none 0 0) g' 600 hb .nil hlo (by omega) (by simp; omega)
          rw [List.nil_append] at a2
          obtain ⟨h10, e102, a10, n10, k24⟩ := s102 a2 hl0 (by omega)
          have hb2 : ∀ b, b < h.nx → h10.blk b = h.blk b := fun b hb => by
            rw [k24 b (by have := xg.nx; omega) (fun e => by have := (a2.blkOf e).1; omega), k2 b (by have := xg.nx; omega) (by simp [blkOf])]
            exact xg.blk b hb
          refine ⟨.ret, [sv', qv], h10, ?_, .inr ⟨by simp, ⟨by have := xg.nx; omega, hb2⟩, .inr ⟨rfl, sv', qv, l, v, rfl, way, hhd, htv, a10.down (by omega)⟩⟩⟩
          unfold f78_l1
          rw [show AM.gv [.slice none 0 0, qv] 1 = qv from rfl, show AM.gv [.slice none 0 0, qv] 0 = .slice none 0 0 from rfl, hq.len, lt_t (by simp only [List.length_cons]; omega), ifB_true, hq.head, asI_int, nn_ge (show (0 : Int) ≤ (v : Int) by omega), hbit, htv, ifB_true]
          refine (lp_eq e2).trans ?_
          rw [onE_exit, if_pos rfl, show AM.gv [sv', w'] 0 = sv' from rfl, calls_eq (xs := [sv']) e102]
          rfl
        | false =>
          have hS : nb g v &&& W < 1024 := Nat.lt_of_le_of_lt Nat.and_le_right hW
          obtain ⟨v8, g2, e54, x54, a8⟩ := s54A hS g'
          have hnb := Nat.lt_of_lt_of_le (hg.nb_lt v) hpow
          have hand : AM.and .i64 (nb g v : Int) (W : Int) = ((nb g v &&& W : Nat) : Int) := and_nat (by omega) (by omega)
          have hel : (elts (nb g v &&& W)).length ≤ 10 := by unfold elts; exact Nat.le_trans (List.length_filter_le ..) (by simp)
          have hn8 : ∀ {T : Type} (K : Int → Option T), len v8 K = K ((elts (nb g v &&& W)).length : Int) := fun K => by rw [a8.slR.len]; simp
          have hmem : ∀ u, u ∈ elts (nb g v &&& W) ↔ adj g v u = true ∧ W.testBit u = true := fun u => by rw [mem_elts hS, Nat.testBit_and, Bool.and_eq_true]; rfl
          have hqx : QV (h.nx + 1) g2 qv (v :: q) := hq.keep x54.nx fun b hb => x54.blk b (hq.blkOf hb).2
          have hx76 := x54.nx
          obtain ⟨ws2, h4, e4, X, qv', rfl, bw4, hb4, hq4, hin, hXl, hnx4, hk4, hqb4⟩ := s78_l3 (k0 := 600) (h0 := h) (lo := h.nx + 1) hg rfl (Nat.lt_succ_self _) (fun u hu => (hmem u).1 hu) hel hvn htv a8.slR
            (fun b hb => ⟨by have := (a8.blkOf hb).1; omega, fun e => by have := (hq.blkOf e).2; have := (a8.blkOf hb).1; omega⟩) bw (hb.ext (x54.blk _ (by omega))) hqx (by omega) (by omega) (by omega)
          obtain ⟨v15, e15, hq15, _⟩ := QV.tail (q := q ++ nodesT X) hq4
          have x4 : Ext h h4 := ⟨by have := xg.nx; omega, fun b hb => by
            rw [hk4 b (by have := xg.nx; omega) (by omega) (fun e => by have := (hq.blkOf e).1; omega), x54.blk b (by have := xg.nx; omega)]
            exact xg.blk b hb⟩
          refine ⟨.normal, [.slice none 0 0, v15], h4, ?_, .inl ⟨rfl, d - 1, by omega, T ++ X, pre ++ [v], q ++ nodesT X, v15, rfl, hq15, hb4, x4, by omega, bw4, by rw [nodesT_app, hTn]; simp, by simp; omega, fun y hy => ?_⟩⟩
          · unfold f78_l1
            rw [show AM.gv [.slice none 0 0, qv] 1 = qv from rfl, show AM.gv [.slice none 0 0, qv] 0 = .slice none 0 0 from rfl, hq.len, lt_t (by simp only [List.length_cons]; omega), ifB_true, hq.head, asI_int, nn_ge (show (0 : Int) ≤ (v : Int) by omega), hbit, htv, ifB_false]
            simp only [d3]
            rw [getN hsg hvl, asI_int, hor, hand, calls_eq (xs := [iv ((nb g v &&& W : Nat) : Int)]) e54, hn8]
            refine (lp_eq (lpGo_mono e4 (show 20 ≤ 600 by omega))).trans ?_
            rw [onE_exit, if_pos rfl, show AM.gv [qv', iv ((elts (nb g v &&& W)).length : Int)] 0 = qv' from rfl, e15]
            rfl
          · rw [List.mem_append, List.mem_singleton] at hy
            rcases hy with hy | rfl
            · refine ⟨(hpre y hy).1, fun u h1 h2 => ?_⟩
              rw [nodesT_app]; exact List.mem_append_left _ ((hpre y hy).2 u h1 h2)
            · refine ⟨htv, fun u h1 h2 => ?_⟩
              have := (hmem u).2 ⟨h1, h2⟩
              refine hin u ?_
              rw [List.take_length]; exact this)
    g.length 600 (by omega) (ws := [.slice none 0 0, .slice (some ⟨h2.nx, 0, none⟩) 1 1]) (h := h3) ⟨[(a, -1)], [], [a], _, rfl, hq3, hb3, x2.trans x3, by omega, bw0 hg ha, rfl, by simp, by simp⟩
  obtain ⟨x9, hor9⟩ := hQ
  have start : ∀ r, (onE e 0 (some ((.slice none 0 0), h9)) (onR e (some (AM.gv ws' 0, h9)))) = r → f78 rn 600 tv a to thr h = r := by
    intro r hr
    unfold f78
    simp only [mkm]
    rw [nx_eq, mup_new under120 under3i hm0 k0 rfl, ← hh2, bls_some (bls22 (a : Int) h2), ← hh3]
    exact (lp_eq hlp).trans hr
  rcases hor9 with ⟨rfl, hno⟩ | ⟨rfl, v', w, l, x, rfl, way, hhd, htx, a9⟩
  · obtain ⟨h10, e24, m10, w10⟩ := x78 (k := 600) (v0 := tv) (n0 := a) (n1 := to) (n2 := thr) (h := h) (h1 := h9) (v := .slice none 0 0) (start _ (by rw [onE_exit, if_pos rfl])) rfl
    exact ⟨_, h10, e24, w10 x9, .inr ⟨rfl, hno⟩⟩
  · obtain ⟨h10, e24, m10, w10⟩ := x78 (k := 600) (v0 := tv) (n0 := a) (n1 := to) (n2 := thr) (h := h) (h1 := h9) (v := v') (start _ (by rw [onE_ret, onR_ret]; rfl)) a9.slR.notR
    exact ⟨v', h10, e24, w10 x9, .inl ⟨l, x, way, hhd, htx, a9.ext m10.ext⟩⟩

end Go.AM

end

section

/- Numberings: where a beginning goes on. Plain. -/
namespace Go.AM
open Go.Proofs
/-- What is left behind a beginning. -/
def lf (g : List Nat) (B : Nat) : Nat := without (allN g) B

section
variable {g : List Nat} {t B : Nat}
end
end Go.AM

end

section

/- The staged forms of functions 73, and what calls of these answer. -/
namespace Go.AM
open Go.Proofs
noncomputable def f73 (rec : Rec) (_k : Nat) (v0 : Value) (h0 : H) : Option (Value × H) :=
  len v0 fun n0 =>
  ifB (le 3 n0) (
    calls rec h0 43 [v0] fun v1 h1 =>
    asI .i64 v1 fun n1 =>
    calls rec h1 44 [v0, (.int .i64 n1)] fun v2 h2 =>
    asB v2 fun q0 =>
    ifB q0 (
      calls rec h2 43 [v0] fun v3 h3 =>
      asI .i64 v3 fun n2 =>
      calls rec h3 42 [v0, (.int .i64 n2)] fun v4 h4 =>
      asI .i64 v4 fun n3 =>
      some ((.bool (eq n3 0)), h4)) (
      some ((.bool false), h2))) (
    some ((.bool false), h0))

theorem e73 (rec : Rec) (k : Nat) (v0 : Value) (h : H) : bodyT Tryd.prog E0 SC (XC Tryd.prog rec k) 73 (Value × H) [.opq v0] h (fun v h => some (v, h)) = f73 rec k v0 h := by kernel_rfl

theorem t73 {k : Nat} {v0 : Value} {h h1 : H} {v : Value} (hh : f73 rn k v0 h = some (v, h1)) : rn 73 #[v0] h = some (v, trunc Tryd.prog h h1 v) :=
  run_of_bodyT (args := [.opq v0]) rfl ((e73 _ _ _ _).trans hh)

theorem p73 {k : Nat} {v0 : Value} {h h1 : H} {v : Value} (hh : f73 rn k v0 h = some (v, h1)) (hp : plainO v = true) (x : Ext h h1) : rn 73 #[v0] h = some (v, h) := by rw [t73 hh, trunc_pure hp x]

end Go.AM

end

section

/- The search for a numbering, walked. -/
namespace Go.AM
open Go.Proofs
variable {R : Type}
attribute [local simp] nx_eq nx_new nx_set blk_new blk_set asI_int asK_int asB_bool asP_ptr al_eq bx_eq len_slice onE_exit onE_ret onR_ret Value.cells cell_new cell_set rd_new rd_set off eq lt le ifB gv out ext20 ext21
theorem or_calc2 {n B u : Nat} (hn : n ≤ 10) (hB : B < 2 ^ n) (hu : u < n) : AM.or .i64 (B : Int) (AM.shl .i64 1 (u : Int)) = ((B ||| 2 ^ u : Nat) : Int) := by
  have h2 : 2 ^ n ≤ 1024 := Nat.pow_le_pow_right (n := 2) (by omega) hn
  have h3 : 2 ^ u < 1024 := Nat.lt_of_lt_of_le (Nat.pow_lt_pow_right (by omega) hu) h2
  rw [shl1_nat (by omega), or_nat (by omega) (by omega)]

end Go.AM

end

section

/- Number: the program's and the document's. -/
namespace Go.AM
open Go.Proofs
variable {R : Type}
attribute [local simp] nx_eq nx_new nx_set blk_new blk_set asI_int asK_int asB_bool asP_ptr al_eq bx_eq len_slice onE_exit onE_ret onR_ret Value.cells cell_new cell_set rd_new rd_set off eq lt le ifB gv out ext20 ext21
noncomputable def doubleP (g : List Nat) : Bool := decide (3 ≤ g.length) && connS g (allN g) && decide (cutsP g (allN g) = 0)

theorem pop_all_tab : ((List.range 11).all fun n => decide (pop (2 ^ n - 1) = n) && (List.range n).all fun t => decide (pop (without (2 ^ n - 1) (2 ^ t)) = n - 1)) = true := by decide +kernel

theorem pop_all {n : Nat} (h : n ≤ 10) : pop (2 ^ n - 1) = n ∧ ∀ t, t < n → pop (without (2 ^ n - 1) (2 ^ t)) = n - 1 := by
  have := List.all_eq_true.1 pop_all_tab n (List.mem_range.2 (by omega))
  simp only [Bool.and_eq_true, decide_eq_true_eq, List.all_eq_true, List.mem_range] at this
  exact this

theorem double_bi {g : List Nat} (hg : GrN g) (h : doubleP g = true) : Bi g (allN g) := by
  unfold doubleP at h
  simp only [Bool.and_eq_true, decide_eq_true_eq] at h
  refine ((cand2_iff hg (allN_lt g)).1 ?_).2
  unfold cand2
  have := (pop_all hg.len).1
  rw [show pop (allN g) = g.length from this, h.1.2, h.2, decide_eq_true (by omega)]
  rfl

theorem s73 {tv : Value} {g : List Nat} {h : H} (hg : GrN g) (hs : SlR h 3 1 tv (cellsN g)) : rn 73 #[tv] h = some (.bool (doubleP g), h) := by
  have hn : ∀ {T : Type} (K : Int → Option T), len tv K = K (g.length : Int) := fun K => by rw [hs.len]; simp
  have c65 := fun (K : Value → H → Option (Value × H)) => calls_eq (K := K) (xs := [tv]) (s43 hg.toGrB hs)
  have c64 := fun (K : Value → H → Option (Value × H)) => calls_eq (K := K) (xs := [tv, iv (allN g : Nat)]) (s44 hg.toGrB hs (allN_lt g))
  have c70 := fun (K : Value → H → Option (Value × H)) => calls_eq (K := K) (xs := [tv, iv (allN g : Nat)]) (s42 hg.toGrB hs (allN_lt g))
  refine p73 (k := 0) (h1 := h) ?_ rfl (.refl _)
  unfold f73 doubleP
  rw [hn, show AM.le 3 (g.length : Int) = decide (3 ≤ g.length) by simp only [AM.le, decide_eq_decide]; omega]
  by_cases h3 : 3 ≤ g.length
  · rw [decide_eq_true h3, ifB_true, c65, asI_int, c64, asB_bool, Bool.true_and]
    cases connS g (allN g) with
    | true => rw [ifB_true, c65, asI_int, c70, asI_int, Bool.true_and, show AM.eq (cutsP g (allN g) : Int) 0 = decide (cutsP g (allN g) = 0) from eqN (b := 0)]
    | false => rw [ifB_false, Bool.false_and]
  · rw [decide_eq_false h3, ifB_false, Bool.false_and, Bool.false_and]

/-- Is a number a node? -/
def nodeB (g : List Nat) (z : Int) : Bool := decide (0 ≤ z) && decide (z < (g.length : Int))

theorem nodeB_nat {g : List Nat} {z : Int} (h : nodeB g z = true) : ∃ a : Nat, z = (a : Int) ∧ a < g.length := by
  unfold nodeB at h
  simp only [Bool.and_eq_true, decide_eq_true_eq] at h
  exact ⟨z.toNat, by omega, by omega⟩

theorem s68 {tv : Value} {g : List Nat} {z : Int} {h : H} (hs : SlR h 3 1 tv (cellsN g)) : rn 68 #[tv, iv z] h = some (.bool (nodeB g z), h) := by
  have hn : ∀ {T : Type} (K : Int → Option T), len tv K = K (g.length : Int) := fun K => by rw [hs.len]; simp
  refine p68 (k := 0) (h1 := h) ?_ rfl (.refl _)
  unfold f68 nodeB
  by_cases h0 : 0 ≤ z
  · rw [show AM.le 0 z = true by simp [AM.le, h0], ifB_true, hn, decide_eq_true h0, Bool.true_and]; rfl
  · rw [show AM.le 0 z = false by simp [AM.le]; omega, ifB_false, decide_eq_false h0, Bool.false_and]

theorem s71 {tv : Value} {g : List Nat} {a b : Nat} {h : H} (hg : GrB g) (hs : SlR h 3 1 tv (cellsN g)) (ha : a < g.length) (hb : b < g.length) : rn 71 #[tv, iv a, iv b] h = some (.bool (adj g a b), h) := by
  have hlen := hg.len
  refine p71 (k := 0) (h1 := h) ?_ rfl (.refl _)
  unfold f71
  simp only [d3]
  rw [getN hs ha, asI_int, nn_ge (show (0 : Int) ≤ (b : Int) by omega), adj_bit hg (by omega)]
  cases adj g a b <;> rfl

end Go.AM

end

section

/- CheckNumber and IsNumber. -/
namespace Go.AM
open Go.Proofs
variable {R : Type}
attribute [local simp] nx_eq nx_new nx_set blk_new blk_set asI_int asK_int asB_bool asP_ptr al_eq bx_eq len_slice onE_exit onE_ret onR_ret Value.cells cell_new cell_set rd_new rd_set off eq lt le ifB gv out ext20 ext21
/-! ### Plain -/
/-! ### A slice's beginning -/
/-! ### The program's loops -/
theorem getI {h : H} {v : Value} {l : List Int} (hs : SlR h 3 1 v (cellsI l)) {i : Nat} {x : Int} (hx : l[i]? = some x) (K : Value → Option R) : (six v (i : Int) 1 fun b o => ld Tryd.prog h 3 b o K) = K (iv x) := by
  simp only [d3]; exact getL hs hx K

end Go.AM

end

section

/- Slices of slices of numbers. -/
namespace Go.AM
open Go.Proofs
variable {R : Type}
attribute [local simp] nx_eq nx_new nx_set blk_new blk_set asI_int asK_int asB_bool asP_ptr al_eq bx_eq len_slice onE_exit onE_ret onR_ret Value.cells cell_new cell_set rd_new rd_set off eq lt le ifB gv out ext20 ext21
theorem app61 : okApp Tryd.prog 61 66 1 = true := by kernel_rfl

theorem bls61 {x y z} (h : H) : buildSlice Tryd.prog 61 1 [(0, .slice x y z)] h = some (.slice (some ⟨h.nx, 0, none⟩) 1 1, h.new (.row [.slice x y z] 66 true)) := by kernel_rfl

abbrev cellsV (vs : List Value) : List (List Value) := vs.map fun x => [x]

def AllSl (vs : List Value) : Prop := ∀ x ∈ vs, ∃ a n c, x = .slice a n c

/-! ### Slices that came in -/
def LSI (h : H) (vs : List Value) (LL : List (List Int)) : Prop := vs.length = LL.length ∧ ∀ (i : Nat) (x : Value) (m : List Int), vs[i]? = some x → LL[i]? = some m → SlR h 3 1 x (cellsI m)

theorem LSI.keep {h h' : H} {vs : List Value} {LL : List (List Int)} (a : LSI h vs LL) (hn : h.nx ≤ h'.nx) (hb : ∀ b cs o, b < h.nx → h.blk b = some (.row cs 3 o) → h'.blk b = h.blk b) : LSI h' vs LL :=
  ⟨a.1, fun i x m hx hm => (a.2 i x m hx hm).keepB hn fun b hbb => by
    obtain ⟨h1, cs, o, h2⟩ := (a.2 i x m hx hm).blkR hbb
    exact hb b cs o h1 h2⟩

theorem LSI.ext {h h' : H} {vs : List Value} {LL : List (List Int)} (a : LSI h vs LL) (x : Ext h h') : LSI h' vs LL := a.keep x.nx fun b _ _ hb _ => x.blk b hb

theorem LSI.snoc {h : H} {vs : List Value} {LL : List (List Int)} (a : LSI h vs LL) {x : Value} {m : List Int} (hx : SlR h 3 1 x (cellsI m)) : LSI h (vs ++ [x]) (LL ++ [m]) := by
  refine ⟨by simp [a.1], fun i y k hy hk => ?_⟩
  have h1 := a.1
  by_cases hi : i < vs.length
  · rw [List.getElem?_append_left hi] at hy
    rw [List.getElem?_append_left (by omega)] at hk
    exact a.2 i y k hy hk
  · have hi2 := (List.getElem?_eq_some_iff.1 hy).1
    simp at hi2
    have : i = vs.length := by omega
    subst this
    simp at hy
    rw [h1] at hk
    simp at hk
    subst hy hk
    exact hx

end Go.AM

end

section

/- An ear is added: the closure's loop. -/
namespace Go.AM
open Go.Proofs
variable {R : Type}
attribute [local simp] nx_eq nx_new nx_set blk_new blk_set asI_int asK_int asB_bool asP_ptr al_eq bx_eq len_slice onE_exit onE_ret onR_ret Value.cells cell_new cell_set rd_new rd_set off eq lt le ifB gv out ext20 ext21
/-- The edges that no ear has, and the nodes that one has. -/
structure HE (n : Nat) (gl : List Nat) (there bth blf : Nat) (h : H) : Prop where
  th : h.blk bth = some (.row [iv (there : Int)] 3 true)
  lf : ∃ lv, h.blk blf = some (.row [lv] 72 true) ∧ SlR h 3 1 lv (cellsN gl) ∧ blkOf lv ≠ some bth
  gb : GrB gl
  gn : gl.length = n
  tn : there < 2 ^ n
  l1 : bth < h.nx
  l2 : blf < h.nx

def stepE (m : List Nat) (i x : Nat) (s : List Nat × Nat) : List Nat × Nat := (if 0 < i then delE s.1 (nb m (i - 1)) x else s.1, s.2 ||| 2 ^ x)

set_option maxHeartbeats 1000000 in
theorem s75_l {n bth blf : Nat} {v0 : Value} {m gl : List Nat} {there : Nat} {h : H} (hm : ∀ x ∈ m, x < n) (hne : ∀ i, i + 1 < m.length → nb m i ≠ nb m (i + 1)) (hml : m.length ≤ 100) (h0 : SlR h 3 1 v0 (cellsN m)) (h0b : blkOf v0 ≠ some bth)
    (he : HE n gl there bth blf h) :
    ∃ w h', lpGo (f75_l1 rn 200 v0 (pt bth 0) (pt blf 0) m.length) 200 [iv 0] h = some (.exit 0, w, h') ∧ HE n (foldI (stepE m) m 0 (gl, there)).1 (foldI (stepE m) m 0 (gl, there)).2 bth blf h' ∧ h.nx ≤ h'.nx ∧ ∀ b, b < h.nx → b ≠ bth → b ≠ blf → h'.blk b = h.blk b := by
  obtain ⟨w, h', hl, _, he', hnx, hblk⟩ := lp_for (F := f75_l1 rn 200 v0 (pt bth 0) (pt blf 0) m.length) (k := 200) (l := m) (stepE m)
    (fun i s ws g => ws = [iv i] ∧ HE n s.1 s.2 bth blf g ∧ h.nx ≤ g.nx ∧ ∀ b, b < h.nx → b ≠ bth → b ≠ blf → g.blk b = h.blk b) 0 (ws := [iv 0]) (h := h) (s0 := (gl, there))
    ⟨rfl, he, Nat.le_refl _, fun _ _ _ _ => rfl⟩ (by omega)
    (by
      rintro s ws g ⟨rfl, _⟩
      simp [f75_l1])
    (by
      rintro i x ⟨gs, ts⟩ ws g hx ⟨rfl, hg, hnx, hblk⟩
      have hi := (List.getElem?_eq_some_iff.1 hx).1
      have hxn := hm x (List.mem_of_getElem? hx)
      have hadd : add .i64 (i : Int) 1 = ((i + 1 : Nat) : Int) := by rw [add64 (by omega) (by omega)]; omega
      dsimp only at hg
      obtain ⟨lv, l1, l2, l3⟩ := hg.lf
      have hlen := hg.gb.len
      have hgn : gs.length = n := hg.gn
      have hv0 : SlR g 3 1 v0 (cellsN m) := h0.keepB hnx fun b hb => by
        obtain ⟨z1, cs, o, z2⟩ := h0.blkR hb
        refine hblk b z1 (fun e => h0b (by rw [← e]; exact hb)) (fun e => ?_)
        obtain ⟨lv0, z3, _⟩ := he.lf
        rw [← e, z2] at z3
        cases z3
      have e1 : ∀ (K : Value → Option (Ex × List Value × H)), (six v0 (i : Int) 1 fun b o => ld Tryd.prog g 3 b o K) = K (iv (x : Int)) := fun K =>
        hv0.ld0 ag3 (by omega) (x := [iv (x : Int)]) (by simp [hx]) rfl K
      obtain ⟨g2, hg2⟩ : ∃ g2, g2 = g.set bth (.row [iv ((ts ||| 2 ^ x : Nat) : Int)] 3 true) := ⟨_, rfl⟩
      have hw : wrc 1 g bth 0 (.int .i64 ((ts ||| 2 ^ x : Nat) : Int)) = some g2 := by
        rw [hg2]; unfold wrc; rw [hg.th]; rfl
      have n2 : g2.nx = g.nx := by rw [hg2]; rfl
      have hbl : blf ≠ bth := by
        rintro rfl
        rw [hg.th] at l1; cases l1
      have k2 : ∀ b, b ≠ bth → g2.blk b = g.blk b := fun b hb => by rw [hg2]; exact blk_set_ne _ _ _ hb
      have hl2 : SlR g2 3 1 lv (cellsN gs) := l2.keepB (by omega) fun b hb => k2 b (fun e => l3 (by rw [← e]; exact hb))
      have hv2 : SlR g2 3 1 v0 (cellsN m) := hv0.keepB (by omega) fun b hb => k2 b (fun e => h0b (by rw [← e]; exact hb))
      have th2 : g2.blk bth = some (.row [iv ((ts ||| 2 ^ x : Nat) : Int)] 3 true) := by rw [hg2]; exact blk_set_self _ _ _
      have hor := or_calc2 hlen (by rw [hgn]; exact hg.tn) (by rw [hgn]; exact hxn)
      have htlt : ts ||| 2 ^ x < 2 ^ n := Nat.or_lt_two_pow hg.tn (Nat.pow_lt_pow_right (by omega) hxn)
      by_cases hi0 : 0 < i
      · obtain ⟨j, rfl⟩ : ∃ j, i = j + 1 := ⟨i - 1, by omega⟩
        have hsub : AM.sub .i64 ((j + 1 : Nat) : Int) 1 = (j : Int) := by rw [sub64 (by omega) (by omega)]; omega
        have hxe : nb m (j + 1) = x := by
          unfold nb
          rw [List.getD_eq_getElem?_getD, hx]; rfl
        have hjn : nb m j < n := by
          refine hm _ ?_
          unfold nb
          rw [List.getD_eq_getElem?_getD, List.getElem?_eq_getElem (by omega)]
          exact List.getElem_mem _
        have hab : nb m j ≠ x := by rw [← hxe]; exact hne j (by omega)
        obtain ⟨v9, g3, e76, x3, bb, hbb, hia⟩ := s76 (a := nb m j) (b := x) hg.gb (by omega) (by omega) hab hl2
        have e2 : ∀ (K : Value → Option (Ex × List Value × H)), (six v0 (j : Int) 1 fun b o => ld Tryd.prog g2 3 b o K) = K (iv (nb m j : Nat)) := fun K =>
          hv2.ld0 ag3 (by omega) (x := [iv (nb m j : Nat)]) (by rw [Int.toNat_natCast, List.getElem?_map]; unfold nb; rw [List.getD_eq_getElem?_getD, List.getElem?_eq_getElem (show j < m.length by omega)]; rfl) rfl K
        obtain ⟨c9, hv9, _⟩ := hia.val
        have x3n := x3.nx
        obtain ⟨g4, hg4⟩ : ∃ g4, g4 = g3.set blf (.row [v9] 72 true) := ⟨_, rfl⟩
        have hw3 : wrc 1 g3 blf 0 v9 = some g4 := by
          rw [hg4]; unfold wrc
          rw [x3.blk _ (by have := hg.l2; omega), k2 _ hbl, l1, hv9]; rfl
        have k4 : ∀ b, b ≠ blf → g4.blk b = g3.blk b := fun b hb => by rw [hg4]; exact blk_set_ne _ _ _ hb
        have n4 : g4.nx = g3.nx := by rw [hg4]; rfl
        have hbo : ∀ b, blkOf v9 = some b → b = bb := fun b hb => by rw [hv9] at hb; cases hb; rfl
        have hh1 := hg.l1
        have hh2 := hg.l2
        refine ⟨[iv ((j + 1 + 1 : Nat) : Int)], g4, ?_, rfl, ⟨?_, ⟨v9, ?_, ?_, ?_⟩, ?_, ?_, htlt, by omega, by omega⟩, by omega, fun b hb q1 q2 => ?_⟩
        · unfold f75_l1
          rw [show AM.gv [iv ((j + 1 : Nat) : Int)] 0 = iv ((j + 1 : Nat) : Int) from rfl, asI_int, lt_t (by omega), ifB_true, asK_int, e1, asI_int, asP_ptr, asP_ptr, d3, cell_of hg.th, show ([iv (ts : Int)] : List Value)[0]? = some (iv ts) from rfl, Option.bind_some, asI_int,
            nn_ge (show (0 : Int) ≤ (x : Int) by omega), asP_ptr, asP_ptr, hor, w3, hw, Option.bind_some, asI_int, lt_t (by omega), ifB_true, asP_ptr, asP_ptr, d72, cell_of ((k2 _ hbl).trans l1), show ([lv] : List Value)[0]? = some lv from rfl, Option.bind_some, asI_int, hsub, e2, asI_int, kbld83,
            calls_eq (xs := [lv, .agg #[iv (nb m j : Nat), iv x]]) e76, asP_ptr, asP_ptr, w72, hw3, Option.bind_some, asI_int, hadd]
          rfl
        · rw [k4 _ (fun e => hbl e.symm), x3.blk _ (by omega)]; exact th2
        · rw [hg4]; exact blk_set_self _ _ _
        · simp only [stepE, Nat.succ_pos, if_true, Nat.add_sub_cancel]
          exact hia.slN.keepB (by omega) fun b hb => k4 b (by have := hbo b hb; omega)
        · intro e
          have := hbo _ e
          omega
        · simp only [stepE, Nat.succ_pos, if_true, Nat.add_sub_cancel]
          exact hg.gb.delE _ _
        · simp only [stepE, Nat.succ_pos, if_true, Nat.add_sub_cancel]
          rw [delE_len]; exact hgn
        · rw [k4 b q2, x3.blk b (by omega), k2 b q1]
          exact hblk b hb q1 q2
      · have hi00 : i = 0 := by omega
        subst hi00
        refine ⟨[iv ((0 + 1 : Nat) : Int)], g2, ?_, rfl, ⟨th2, ⟨lv, (k2 _ hbl).trans l1, hl2, l3⟩, hg.gb, hgn, htlt, by have := hg.l1; omega, by have := hg.l2; omega⟩, by omega, fun b hb q1 q2 => ?_⟩
        · unfold f75_l1
          rw [show AM.gv [iv ((0 : Nat) : Int)] 0 = iv ((0 : Nat) : Int) from rfl, asI_int, lt_t (by omega), ifB_true, asK_int, e1, asI_int, asP_ptr, asP_ptr, d3, cell_of hg.th, show ([iv (ts : Int)] : List Value)[0]? = some (iv ts) from rfl, Option.bind_some, asI_int,
            nn_ge (show (0 : Int) ≤ (x : Int) by omega), asP_ptr, asP_ptr, hor, w3, hw, Option.bind_some, asI_int, show AM.lt 0 ((0 : Nat) : Int) = false from rfl, ifB_false, asI_int, hadd]
          rfl
        · rw [k2 b q1]
          exact hblk b hb q1 q2)
  exact ⟨w, h', hl, he', hnx, hblk⟩

end Go.AM

end

section

/- An ear is added: the closure. -/
namespace Go.AM
open Go.Proofs
variable {R : Type}
attribute [local simp] nx_eq nx_new nx_set blk_new blk_set asI_int asK_int asB_bool asP_ptr al_eq bx_eq len_slice onE_exit onE_ret onR_ret Value.cells cell_new cell_set rd_new rd_set off eq lt le ifB gv out ext20 ext21
theorem row_ty {a b : List Value} {e e' : TypeId} {o o' : Bool} (h : some (Blk.row a e o) = some (Blk.row b e' o')) : e = e' := by
  injection h with h; injection h

theorem trunc_turned {P : Program} {h h1 : H} {v : Value} {b : Nat} (hb : b < h.nx) (hne : h1.blk b ≠ h.blk b) : Sm h1 (trunc P h h1 v) := by
  unfold trunc
  rw [if_neg (fun hc => hne (hc b hb))]
  exact ⟨rfl, rfl⟩

theorem HE.keep {n : Nat} {gl : List Nat} {there bth blf : Nat} {h h' : H} (a : HE n gl there bth blf h) (hn : h.nx ≤ h'.nx) (h1 : h'.blk bth = h.blk bth) (h2 : h'.blk blf = h.blk blf) (hk : ∀ b cs o, b < h.nx → b ≠ bth → h.blk b = some (.row cs 3 o) → h'.blk b = h.blk b) : HE n gl there bth blf h' := by
  obtain ⟨lv, l1, l2, l3⟩ := a.lf
  refine ⟨h1.trans a.th, ⟨lv, h2.trans l1, l2.keepB hn fun b hb => ?_, l3⟩, a.gb, a.gn, a.tn, Nat.lt_of_lt_of_le a.l1 hn, Nat.lt_of_lt_of_le a.l2 hn⟩
  obtain ⟨z1, cs, o, z2⟩ := l2.blkR hb
  exact hk b cs o z1 (fun e => l3 (by rw [← e]; exact hb)) z2

theorem s75 {n bth blf bou lo : Nat} {p} {q r : Nat} {ov : Value} {m gl : List Nat} {there : Nat} {vs : List Value} {h : H} (hm : ∀ x ∈ m, x < n) (hne : ∀ i, i + 1 < m.length → nb m i ≠ nb m (i + 1)) (hml : m.length ≤ 100) (h0 : SlR h 3 1 (.slice p q r) (cellsN m)) (h0b : blkOf (.slice p q r) ≠ some bth)
    (he : HE n gl there bth blf h) (ho : h.blk bou = some (.row [ov] 61 true)) (hol : bou < h.nx) (hov : AqR lo h 66 1 ov (cellsV vs)) (hlo : lo ≤ h.nx) (hvl : vs.length ≤ 1000) :
    ∃ h' ov', rn 75 #[.slice p q r, pt bth 0, pt blf 0, pt bou 0] h = some (undef, h') ∧ HE n (foldI (stepE m) m 0 (gl, there)).1 (foldI (stepE m) m 0 (gl, there)).2 bth blf h' ∧ h'.blk bou = some (.row [ov'] 61 true) ∧ AqR lo h' 66 1 ov' (cellsV (vs ++ [.slice p q r])) ∧
      h.nx ≤ h'.nx ∧ ∀ b, b < h.nx → b ≠ bth → b ≠ blf → b ≠ bou → blkOf ov ≠ some b → h'.blk b = h.blk b := by
  have hn0 : ∀ {T : Type} (K : Int → Option T), len (.slice p q r) K = K (m.length : Int) := fun K => by rw [h0.len]; simp
  obtain ⟨w, h1, hl, he1, n1, k1⟩ := s75_l hm hne hml h0 h0b he
  obtain ⟨lv, lv1, _⟩ := he.lf
  have o1 : bou ≠ bth := by rintro rfl; rw [he.th] at ho; cases ho
  have o2 : bou ≠ blf := by rintro rfl; rw [lv1] at ho; cases ho
  have ho1 : h1.blk bou = some (.row [ov] 61 true) := (k1 _ hol o1 o2).trans ho
  have hov1 : AqR lo h1 66 1 ov (cellsV vs) := hov.keep n1 fun b hb => by
    obtain ⟨_, z1, z2⟩ := hov.blkOf hb
    refine k1 b z1 ?_ ?_ <;> rintro rfl
    · rw [he.th] at z2; exact absurd (row_ty z2) (by decide)
    · rw [lv1] at z2; exact absurd (row_ty z2) (by decide)
  obtain ⟨ov', h2, e2, a2, n2, k2, b', hb', hbn⟩ := hov1.push app61 app61 (bls61 (x := p) (y := q) (z := r)) rfl rfl (by rw [List.length_map]; omega) (by omega)
  have hoo : blkOf ov ≠ some bou := fun e => by
    have := (hov.blkOf e).2.2
    rw [ho] at this; exact absurd (row_ty this) (by decide)
  have ho2 : h2.blk bou = some (.row [ov] 61 true) := (k2 _ (by omega) hoo).trans ho1
  obtain ⟨h3, hh3⟩ : ∃ h3, h3 = h2.set bou (.row [ov'] 61 true) := ⟨_, rfl⟩
  have hcells := a2.cells
  have hw : wrc 1 h2 bou 0 ov' = some h3 := by
    rw [hh3]; obtain ⟨x, y, z, rfl⟩ := a2.isSl
    unfold wrc; rw [ho2]; rfl
  have k3 : ∀ b, b ≠ bou → h3.blk b = h2.blk b := fun b hb => by rw [hh3]; exact blk_set_ne _ _ _ hb
  have n3 : h3.nx = h2.nx := by rw [hh3]; rfl
  have ho3 : h3.blk bou = some (.row [ov'] 61 true) := by rw [hh3]; exact blk_set_self _ _ _
  have e75 := t75 (k := 200) (v0 := .slice p q r) (v1 := pt bth 0) (v2 := pt blf 0) (v3 := pt bou 0) (h := h) (h1 := h3) (v := undef) (by
    unfold f75
    rw [hn0]
    refine (lp_eq hl).trans ?_
    rw [onE_exit, if_pos rfl, asP_ptr, show ld Tryd.prog h1 61 bou 0 = fun (K : Value → Option (Value × H)) => (h1.cell bou 0).bind K from funext fun K => d61, cell_of ho1]
    simp only [Option.bind_some, List.getElem?_cons_zero]
    rw [e2, asP_ptr, w61, hw]
    rfl)
  have sm := trunc_turned (P := Tryd.prog) (v := undef) hol (h1 := h3) (h := h) (by
    rw [ho3, ho]
    intro e
    cases e
    have := (hov1.blkOf hb').2.1
    omega)
  have m1 := he1.l1
  have m2 := he1.l2
  have hkk : ∀ b, b < h1.nx → blkOf ov ≠ some b → b ≠ bou → h3.blk b = h1.blk b := fun b hb q1 q2 => by rw [k3 b q2, k2 b hb q1]
  have he3 := he1.keep (h' := h3) (by omega) (hkk _ m1 (fun e => by have := (hov1.blkOf e).2.2; rw [he1.th] at this; exact absurd (row_ty this) (by decide)) (fun e => o1 e.symm))
    (hkk _ m2 (fun e => by have := (hov1.blkOf e).2.2; obtain ⟨lv', q1, _⟩ := he1.lf; rw [q1] at this; exact absurd (row_ty this) (by decide)) (fun e => o2 e.symm))
    (fun b cs o z1 z2 z3 => hkk b z1 (fun e => by have := (hov1.blkOf e).2.2; rw [z3] at this; cases this) (fun e => by rw [e, ho1] at z3; cases z3))
  refine ⟨_, ov', e75, he3.keep (by rw [sm.nx]; exact Nat.le_refl _) (by rw [sm.blk]) (by rw [sm.blk]) (fun b _ _ _ _ _ => by rw [sm.blk]), by rw [sm.blk]; exact ho3, ?_, by rw [sm.nx]; omega, fun b hb q1 q2 q3 q4 => ?_⟩
  · have : cellsV (vs ++ [.slice p q r]) = cellsV vs ++ [[.slice p q r]] := by simp
    rw [this]
    refine (a2.keep (h' := h3) (by omega) fun b hb => k3 b ?_).ext sm.ext
    rintro rfl
    have := (a2.blkOf hb).2.2
    rw [ho2] at this; exact absurd (row_ty this) (by decide)
  · rw [sm.blk, hkk b (by omega) q4 q3, k1 b hb q1 q2]

end Go.AM

end

section

/- Ears, plainly: edges taken out along a way, how many they are, and what ears leave. -/
namespace Go.AM
open Go.Proofs
/-- A graph without the edges along a list. -/
def delP (gl : List Nat) : List Nat → List Nat
  | [] => gl
  | [_] => gl
  | a :: b :: m => delP (delE gl a b) (b :: m)

/-- Two nodes stand beside each other in a list. -/
def onP : List Nat → Nat → Nat → Prop
  | [], _, _ => False
  | [_], _, _ => False
  | a :: b :: m, x, y => (x = a ∧ y = b) ∨ (x = b ∧ y = a) ∨ onP (b :: m) x y

/-- A list walks along edges, each taken out once it was used. -/
def Tra (gl : List Nat) : List Nat → Prop
  | [] => True
  | [_] => True
  | a :: b :: m => adj gl a b = true ∧ Tra (delE gl a b) (b :: m)

/-- A list walks along edges. -/
def Ch (gl : List Nat) : List Nat → Prop
  | [] => True
  | [_] => True
  | a :: b :: m => adj gl a b = true ∧ Ch gl (b :: m)

theorem delP_len : ∀ (m gl : List Nat), (delP gl m).length = gl.length
  | [], _ => rfl
  | [_], _ => rfl
  | a :: b :: m, gl => by rw [delP, delP_len (b :: m), delE_len]

theorem setOf_cons (x : Nat) (l : List Nat) : setOf (x :: l) = setOf l ||| 2 ^ x := rfl

theorem fold_stepE {M : List Nat} : ∀ (m pre : List Nat) (g : List Nat) (t x : Nat), M = pre ++ x :: m →
    foldI (stepE M) m (pre.length + 1) (g, t) = (delP g (x :: m), t ||| setOf m) := by
  intro m
  induction m with
  | nil => intro pre g t x _; simp [foldI, delP, setOf]
  | cons y m ih =>
    intro pre g t x hM
    have hx : nb M (pre.length + 1 - 1) = x := by
      rw [hM, Nat.add_sub_cancel]; unfold nb
      rw [List.getD_eq_getElem?_getD, List.getElem?_append_right (Nat.le_refl _), Nat.sub_self]; rfl
    have h2 := ih (pre ++ [x]) (delE g x y) (t ||| 2 ^ y) y (by rw [hM]; simp)
    rw [List.length_append, List.length_singleton] at h2
    rw [foldI, stepE, if_pos (Nat.succ_pos _), hx, h2, delP, setOf_cons, Nat.or_assoc, Nat.or_comm (2 ^ y)]

theorem fold_ear {m gl : List Nat} {there : Nat} : foldI (stepE m) m 0 (gl, there) = (delP gl m, there ||| setOf m) := by
  cases m with
  | nil => simp [foldI, delP, setOf]
  | cons x m =>
    rw [foldI, stepE, if_neg (by omega)]
    have := fold_stepE (M := x :: m) m [] gl (there ||| 2 ^ x) x rfl
    rw [List.length_nil] at this
    rw [this, setOf_cons, Nat.or_assoc, Nat.or_comm (2 ^ x)]

theorem GrN.delE {g : List Nat} (hg : GrN g) {a b : Nat} (hab : adj g a b = true) : GrN (delE g a b) := by
  obtain ⟨ha, hb⟩ := hg.adj_lt hab
  have hne : a ≠ b := by rintro rfl; rw [hg.irr] at hab; cases hab
  refine ⟨hg.toGrB.delE a b, by rw [delE_len]; exact hg.pos, fun x => ?_, fun x y => ?_⟩
  · rw [adj_delE ha hb hne, hg.irr]; rfl
  · rw [adj_delE ha hb hne, adj_delE ha hb hne, hg.sym x y]
    congr 2
    rw [Bool.or_comm]
    congr 1 <;> exact decide_eq_decide.2 ⟨fun h => ⟨h.2, h.1⟩, fun h => ⟨h.2, h.1⟩⟩

theorem GrN.delP : ∀ (m : List Nat) {g : List Nat}, GrN g → Tra g m → GrN (delP g m)
  | [], _, hg, _ => hg
  | [_], _, hg, _ => hg
  | _ :: b :: m, _, hg, ht => GrN.delP (b :: m) (hg.delE ht.1) ht.2

theorem adj_delP : ∀ (m : List Nat) {g : List Nat}, GrN g → Tra g m → ∀ x y, adj (delP g m) x y = true ↔ adj g x y = true ∧ ¬ onP m x y
  | [], _, _, _ => fun x y => by simp [delP, onP]
  | [_], _, _, _ => fun x y => by simp [delP, onP]
  | a :: b :: m, g, hg, ht => fun x y => by
    obtain ⟨ha, hb⟩ := hg.adj_lt ht.1
    have hne : a ≠ b := by rintro rfl; have := ht.1; rw [hg.irr] at this; cases this
    rw [delP, adj_delP (b :: m) (hg.delE ht.1) ht.2, adj_delE ha hb hne, onP, Bool.and_eq_true, Bool.not_eq_true', Bool.or_eq_false_iff, decide_eq_false_iff_not, decide_eq_false_iff_not]
    constructor
    · rintro ⟨⟨h1, h2, h3⟩, h4⟩
      exact ⟨h1, fun h => h.elim h2 fun h => h.elim h3 h4⟩
    · rintro ⟨h1, h2⟩
      exact ⟨⟨h1, fun h => h2 (.inl h), fun h => h2 (.inr (.inl h))⟩, fun h => h2 (.inr (.inr h))⟩

theorem onP_mem : ∀ (m : List Nat) {x y : Nat}, onP m x y → x ∈ m ∧ y ∈ m
  | [], _, _ => fun h => h.elim
  | [_], _, _ => fun h => h.elim
  | a :: b :: m, x, y => fun h => by
    rcases h with ⟨rfl, rfl⟩ | ⟨rfl, rfl⟩ | h
    · simp
    · simp
    · obtain ⟨h1, h2⟩ := onP_mem (b :: m) h
      exact ⟨List.mem_cons_of_mem _ h1, List.mem_cons_of_mem _ h2⟩

/-- Edges that are told twice: once from each end. -/
def dsum (g : List Nat) : Nat := (g.map pop).sum

theorem sum_set : ∀ (l : List Nat) (i x : Nat), i < l.length → ((l.set i x).map pop).sum + pop (nb l i) = (l.map pop).sum + pop x
  | [], i, x => fun h => by simp at h
  | y :: l, 0, x => fun _ => by simp [nb]; omega
  | y :: l, i + 1, x => fun h => by
    have := sum_set l i x (by simpa using h)
    have e : nb (y :: l) (i + 1) = nb l i := rfl
    simp only [List.set_cons_succ, List.map_cons, List.sum_cons, e]
    omega

theorem pop_take {S b : Nat} (hS : S < 1024) (h : S.testBit b = true) : pop (without S (2 ^ b)) + 1 = pop S := by
  have hp : (elts S).filter (fun i => decide (i = b)) = [b] := by
    have hm : b ∈ elts S := (mem_elts hS).2 h
    have hnd := elts_nodup S
    generalize elts S = l at hm hnd
    induction l with
    | nil => cases hm
    | cons x l ih =>
      rw [List.nodup_cons] at hnd
      rw [List.mem_cons] at hm
      rw [List.filter_cons]
      by_cases hx : x = b
      · subst hx
        rw [if_pos (by simp)]
        congr 1
        rw [List.filter_eq_nil_iff]
        intro y hy
        simp only [decide_eq_true_eq]
        rintro rfl
        exact hnd.1 hy
      · rw [if_neg (by simpa using hx)]
        exact ih (hm.resolve_left fun e => hx e.symm) hnd.2
  have h1 : pop S = (elts S).countP (fun i => decide (i = b)) + (elts S).countP (fun i => !decide (i = b)) := by
    rw [← elts_len, List.length_eq_countP_add_countP (fun i => decide (i = b))]
    congr 1
    exact List.countP_congr fun i _ => by simp
  have h2 : pop (without S (2 ^ b)) = (elts S).countP (fun i => !decide (i = b)) := by
    unfold pop elts
    rw [List.countP_filter]
    refine List.countP_congr fun i _ => ?_
    rw [bit_del]
    simp [and_comm]
  rw [h1, h2, List.countP_eq_length_filter (p := fun i => decide (i = b)), hp]
  simp; omega

theorem dsum_delE {g : List Nat} (hg : GrN g) {a b : Nat} (hab : adj g a b = true) : dsum (delE g a b) + 2 = dsum g := by
  obtain ⟨ha, hb⟩ := hg.adj_lt hab
  have hne : a ≠ b := by rintro rfl; rw [hg.irr] at hab; cases hab
  have hpow := hg.pow
  have h1 := sum_set g a (without (nb g a) (2 ^ b)) ha
  have h2 := sum_set (g.set a (without (nb g a) (2 ^ b))) b (without (nb g b) (2 ^ a)) (by simpa using hb)
  have e : nb (g.set a (without (nb g a) (2 ^ b))) b = nb g b := by rw [nb_set ha, if_neg (fun e => hne e.symm)]
  have p1 := pop_take (S := nb g a) (b := b) (Nat.lt_of_lt_of_le (hg.nb_lt a) hpow) hab
  have p2 := pop_take (S := nb g b) (b := a) (Nat.lt_of_lt_of_le (hg.nb_lt b) hpow) (by have := hg.sym a b; rw [hab] at this; exact this.symm)
  rw [e] at h2
  unfold dsum AM.delE
  omega

theorem dsum_delP : ∀ (m : List Nat) {g : List Nat}, GrN g → Tra g m → m ≠ [] → dsum (delP g m) + 2 * (m.length - 1) = dsum g
  | [], _, _, _ => fun h => absurd rfl h
  | [_], _, _, _ => fun _ => by simp [delP]
  | a :: b :: m, g, hg, ht => fun _ => by
    have := dsum_delP (b :: m) (hg.delE ht.1) ht.2 (by simp)
    have h2 := dsum_delE hg ht.1
    rw [delP]
    simp only [List.length_cons] at this ⊢
    omega

theorem dsum_zero {g : List Nat} (hg : GrN g) : dsum g = 0 ↔ edgesP g = [] := by
  constructor
  · intro h
    rw [List.eq_nil_iff_forall_not_mem]
    intro e he
    obtain ⟨h1, h2, h3⟩ := mem_edges.1 he
    have := dsum_delE hg h3
    omega
  · intro h
    unfold dsum
    have hz : ∀ l : List Nat, (∀ x ∈ l, x = 0) → l.sum = 0 := by
      intro l
      induction l with
      | nil => intro _; rfl
      | cons y l ih => intro hl; rw [List.sum_cons, hl y List.mem_cons_self, ih fun x hx => hl x (List.mem_cons_of_mem _ hx)]
    refine hz _ fun x hx => ?_
    obtain ⟨y, hy, rfl⟩ := List.mem_map.1 hx
    obtain ⟨i, hi, rfl⟩ := List.mem_iff_getElem.1 hy
    refine Classical.byContradiction fun hc => ?_
    have hp : 0 < pop g[i] := Nat.pos_of_ne_zero hc
    obtain ⟨j, _, hj⟩ := List.countP_pos_iff.1 hp
    have hij : adj g i j = true := by
      unfold adj nb; rw [List.getD_eq_getElem?_getD, List.getElem?_eq_getElem hi]; exact hj
    obtain ⟨_, hjl⟩ := hg.adj_lt hij
    have hne : i ≠ j := by rintro rfl; rw [hg.irr] at hij; cases hij
    have : ∃ e, e ∈ edgesP g := by
      rcases Nat.lt_or_ge i j with h | h
      · exact ⟨(i, j), mem_edges.2 ⟨h, hjl, hij⟩⟩
      · exact ⟨(j, i), mem_edges.2 ⟨by omega, hi, by have := hg.sym i j; rw [hij] at this; exact this.symm⟩⟩
    obtain ⟨e, he⟩ := this
    rw [h] at he; cases he

/-- A walk without a node twice uses no edge twice. -/
theorem tr_of : ∀ (m : List Nat) {g : List Nat}, GrN g → Ch g m → m.Nodup → Tra g m
  | [], _, _, _ => fun _ => trivial
  | [_], _, _, _ => fun _ => trivial
  | a :: b :: m, g, hg, hc => fun hn => by
    refine ⟨hc.1, tr_of (b :: m) (hg.delE hc.1) ?_ (List.nodup_cons.1 hn).2⟩
    obtain ⟨ha, hb⟩ := hg.adj_lt hc.1
    have hne : a ≠ b := by rintro rfl; have := hc.1; rw [hg.irr] at this; cases this
    have : ∀ (l : List Nat), a ∉ l → Ch g l → Ch (delE g a b) l := by
      intro l
      induction l with
      | nil => intro _ _; trivial
      | cons x l ih =>
        intro hm hl
        cases l with
        | nil => trivial
        | cons y l =>
          refine ⟨?_, ih (fun h => hm (List.mem_cons_of_mem _ h)) hl.2⟩
          rw [adj_delE ha hb hne, hl.1, Bool.true_and, Bool.not_eq_true', Bool.or_eq_false_iff, decide_eq_false_iff_not, decide_eq_false_iff_not]
          exact ⟨fun e => hm (by rw [e.1]; exact List.mem_cons_self), fun e => hm (by rw [e.2]; simp)⟩
    exact this _ (List.nodup_cons.1 hn).1 hc.2

theorem Tra.ch : ∀ (m : List Nat) {g : List Nat}, GrN g → Tra g m → Ch g m
  | [], _, _, _ => trivial
  | [_], _, _, _ => trivial
  | a :: b :: m, g, hg, ht => by
    refine ⟨ht.1, ?_⟩
    have h1 := Tra.ch (b :: m) (hg.delE ht.1) ht.2
    obtain ⟨ha, hb⟩ := hg.adj_lt ht.1
    have hne : a ≠ b := by rintro rfl; have := ht.1; rw [hg.irr] at this; cases this
    have : ∀ (l : List Nat), Ch (delE g a b) l → Ch g l := by
      intro l
      induction l with
      | nil => intro _; trivial
      | cons x l ih =>
        intro hl
        cases l with
        | nil => trivial
        | cons y l =>
          refine ⟨?_, ih hl.2⟩
          have := hl.1
          rw [adj_delE ha hb hne, Bool.and_eq_true] at this
          exact this.1
    exact this _ h1

theorem ch_of {g : List Nat} : ∀ (m : List Nat), (∀ i, i + 1 < m.length → adj g (nb m i) (nb m (i + 1)) = true) → Ch g m
  | [], _ => trivial
  | [_], _ => trivial
  | a :: b :: m, h => ⟨h 0 (by simp), ch_of (b :: m) fun i hi => h (i + 1) (by simpa using hi)⟩

theorem ch_get {g : List Nat} : ∀ (m : List Nat), Ch g m → ∀ i, i + 1 < m.length → adj g (nb m i) (nb m (i + 1)) = true
  | [], _, i, hi => by simp at hi
  | [_], _, i, hi => by simp at hi
  | a :: b :: m, h, 0, _ => h.1
  | a :: b :: m, h, i + 1, hi => ch_get (b :: m) h.2 i (by simpa using hi)

theorem nb_rev {l : List Nat} {i : Nat} (hi : i < l.length) : nb l.reverse i = nb l (l.length - 1 - i) := by
  unfold nb
  rw [List.getD_eq_getElem?_getD, List.getD_eq_getElem?_getD, List.getElem?_reverse hi]

theorem WayB.ch {g : List Nat} {a W to : Nat} {l : List Nat} (w : WayB g a W to l) : Ch g l.reverse := by
  refine ch_of _ fun i hi => ?_
  rw [List.length_reverse] at hi
  rw [nb_rev (by omega), nb_rev hi]
  have := w.chain (l.length - 1 - (i + 1)) (by omega)
  rw [show l.length - 1 - (i + 1) + 1 = l.length - 1 - i by omega] at this
  exact this

end Go.AM

end
