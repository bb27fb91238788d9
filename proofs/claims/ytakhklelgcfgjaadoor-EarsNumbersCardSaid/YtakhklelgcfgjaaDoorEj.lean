/- The program's bridges: edges are deleted in place. -/
import Derived.Test.YtakhklelgcfgjaaDoorEi
namespace Go.AM
open Go.Proofs

variable {R : Type}

attribute [local simp] nx_eq nx_new nx_set blk_new blk_set asI_int asK_int asB_bool asP_ptr al_eq bx_eq len_slice onE_exit onE_ret onR_ret Value.cells d3 d22 d23 d32 d78 w3 w32 cell_new cell_set rd_new rd_set off eq lt le ifB gv out ext20 ext21

/-- All but one row stay as they are. -/
structure Kp (o : Option Nat) (h g : H) : Prop where
  nx : h.nx ≤ g.nx
  blk : ∀ b, b < h.nx → o ≠ some b → g.blk b = h.blk b

theorem Kp.refl (o : Option Nat) (h : H) : Kp o h h := ⟨Nat.le_refl _, fun _ _ _ => rfl⟩
theorem Kp.ext {o : Option Nat} {h g g' : H} (k : Kp o h g) (x : Ext g g') : Kp o h g' := ⟨Nat.le_trans k.nx x.nx, fun b hb ho => by rw [x.blk b (Nat.lt_of_lt_of_le hb k.nx)]; exact k.blk b hb ho⟩
theorem Kp.set {b : Nat} {h g : H} (k : Kp (some b) h g) (c : Blk) : Kp (some b) h (g.set b c) := ⟨k.nx, fun q hq ho => by rw [blk_set_ne _ _ _ (fun e => ho (by rw [e]))]; exact k.blk q hq ho⟩
theorem Kp.sm {o : Option Nat} {h g g' : H} (k : Kp o h g) (x : Sm g g') : Kp o h g' := k.ext x.ext

/-- Is an edge in a cycle? The closure. -/
theorem s103 {q : Nat} {tv : Value} {g : List Nat} {a b : Nat} {h : H} (hg : GrB g) (ha : a < g.length) (hb : b < g.length) (hab : a ≠ b) (hq : h.blk q = some (.row [tv] 78 true)) (hqn : q < h.nx) (hs : SlR h 3 1 tv (cellsN g)) :
    rn 103 #[.agg #[iv a, iv b], pt q 0] h = some (.bool (roundQ g a b), h) := by
  have hlen := hg.len
  have xb := Ext.new h (.row [iv a, iv b] 32 true)
  obtain ⟨wv, h2, e87, x2, bb, hbb, hia⟩ := s87 hg ha hb hab (hs.ext xb)
  have c87 := fun (K : Value → H → Option (Value × H)) => calls_eq (K := K) (xs := [tv, .agg #[iv a, iv b]]) e87
  have hb1 : (h.new (.row [iv a, iv b] 32 true)).blk h.nx = some (.row [iv a, iv b] 32 true) := blk_new_self _ _
  have hb2 : h2.blk h.nx = some (.row [iv a, iv b] 32 true) := (x2.blk _ (by rw [nx_new]; omega)).trans hb1
  have hgd := hg.delE a b
  have hwv := hia.slN
  have c65 := fun (K : Value → H → Option (Value × H)) => calls_eq (K := K) (xs := [wv]) (s65 hgd hwv)
  have c78 := fun (K : Value → H → Option (Value × H)) => calls_eq (K := K) (xs := [wv, iv a, iv (allN (delE g a b) : Nat)]) (s78 hgd hwv (by rw [delE_len]; exact ha) (allN_lt _))
  rw [allN_delE] at c78 c65
  have hqc : (h.new (.row [iv a, iv b] 32 true)).cell q 0 = some tv := by rw [cell_new, if_neg (by omega), cell_of hq]; rfl
  have hlt2 : h.nx < h2.nx := by have := x2.nx; rw [nx_new] at this; omega
  have hbit := round_bit (g := g) (a := a) (b := b) (by omega)
  refine p103 (k := 0) (h1 := h2) ?_ rfl (xb.trans x2.toExt)
  unfold f103
  rw [bx_eq, show (Value.agg #[iv (a : Int), iv (b : Int)]).cells.toList = [iv (a : Int), iv (b : Int)] from rfl, asP_ptr, d78, hqc, Option.bind_some, nx_eq, d32, rd_all (n := 2) hb1 rfl, Option.bind_some]
  rw [show (Value.agg [iv (a : Int), iv (b : Int)].toArray) = .agg #[iv (a : Int), iv (b : Int)] from rfl, c87]
  simp only [aix_in (show (0 : Int) ≤ 0 by omega) (show (0 : Int) < ((2 : Nat) : Int) by omega), aix_in (show (0 : Int) ≤ 1 by omega) (show (1 : Int) < ((2 : Nat) : Int) by omega), nx_eq, d3, at_, cell_of hb2]
  rw [show ([iv (a : Int), iv (b : Int)] : List Value)[0 + (0 : Int).toNat * 1]? = some (iv a) from rfl]
  simp only [Option.bind_some, asI_int, c65, freq, same_self, decide_eq_true hlt2, Bool.and_self, ck_true, c78, cell_of hb2]
  rw [show ([iv (a : Int), iv (b : Int)] : List Value)[0 + (1 : Int).toNat * 1]? = some (iv b) from rfl]
  simp only [Option.bind_some, asI_int, nn_ge (show (0 : Int) ≤ (b : Int) by omega), hbit]
  cases roundQ g a b <;> rfl

/-- Where is the first element with a property? -/
theorem s115 {v : Value} {cb : Nat} {L : List (Nat × Nat)} {p : Nat × Nat → Bool} {h : H} (hs : SlR h 32 2 v (cellsP L)) (hm : L.length < 1000)
    (hp : ∀ e ∈ L, rn 103 #[.agg #[iv e.1, iv e.2], pt cb 0] h = some (.bool (p e), h)) :
    (∃ (i : Nat) (x : Nat × Nat), L[i]? = some x ∧ p x = true ∧ (∀ (j : Nat) (y : Nat × Nat), j < i → L[j]? = some y → p y = false) ∧ rn 115 #[v, .func (.func 103) #[] #[pt cb 0]] h = some (iv i, h)) ∨
    ((∀ x ∈ L, p x = false) ∧ rn 115 #[v, .func (.func 103) #[] #[pt cb 0]] h = some (iv (-1), h)) := by
  have hn : ∀ {T : Type} (K : Int → Option T), len v K = K (L.length : Int) := fun K => by rw [hs.len]; simp
  have hlp := lp_all (F := f115_l1 rn 2000 v (.func (.func 103) #[] #[pt cb 0]) L.length) (k := 2000) (l := L) (h := h) (fun i => [iv 0, iv i])
    (fun _ x => !p x) (fun i => [iv i, iv i]) 0 [iv 0, iv L.length] (ws := [iv 0, iv 0]) rfl (by omega)
    (by simp [f115_l1])
    (by
      intro i x hx
      have hi := (List.getElem?_eq_some_iff.1 hx).1
      have hadd : add .i64 (i : Int) 1 = (i : Int) + 1 := add64 (by omega) (by omega)
      have e1 : ∀ (K : Value → Option (Ex × List Value × H)), (six v (i : Int) 2 fun b o => ld Tryd.prog h 32 b o K) = K (.agg #[iv x.1, iv x.2]) := fun K => hs.ldA ag32 sz32 (by omega) (x := [iv x.1, iv x.2]) (by simp [hx]) K
      have c103 := fun (K : Value → H → Option (Ex × List Value × H)) => calls_eq (K := K) (xs := [.agg #[iv x.1, iv x.2], pt cb 0]) (hp x (List.mem_of_getElem? hx))
      unfold f115_l1
      rw [show AM.gv [iv 0, iv i] 1 = iv i from rfl, asI_int, lt_t (by omega), ifB_true, asK_int]
      rw [e1, callsV_eq]
      rw [show (#[] : Array Value).toList ++ [Value.agg #[iv x.1, iv x.2]] ++ (#[pt cb 0] : Array Value).toList = [.agg #[iv x.1, iv x.2], pt cb 0] from rfl, c103, asB_bool]
      cases p x <;> simp [hadd])
  rcases hlp with ⟨i, x, hx, hf, hbe, hl⟩ | ⟨hall, hl⟩
  · refine .inl ⟨i, x, hx, by simpa using hf, fun j y hj hy => by simpa using hbe j y hj hy, ?_⟩
    refine p115 (k := 2000) (h1 := h) ?_ rfl (.refl _)
    unfold f115
    rw [hn]
    exact (lp_eq hl).trans rfl
  · refine .inr ⟨fun x hx => ?_, ?_⟩
    · obtain ⟨i, hi, rfl⟩ := List.getElem_of_mem hx
      simpa using hall i _ (List.getElem?_eq_getElem hi)
    refine p115 (k := 2000) (h1 := h) ?_ rfl (.refl _)
    unfold f115
    rw [hn]
    exact (lp_eq hl).trans rfl

theorem pairs_len (L : List (Nat × Nat)) : (cellsP L).flatten.length = L.length * 2 := by
  rw [flatten_len (s := 2) (fun x hx => by obtain ⟨e, _, rfl⟩ := List.mem_map.1 hx; rfl), List.length_map]

/-- One pair of a row is written. -/
theorem wrc_pair {h : H} {b : Nat} {A B : List (Nat × Nat)} {x e : Nat × Nat} (hb : h.blk b = some (.row (cellsP (A ++ x :: B)).flatten 32 true)) :
    wrc 2 h b (A.length * 2) (.agg #[iv e.1, iv e.2]) = some (h.set b (.row (cellsP (A ++ e :: B)).flatten 32 true)) := by
  unfold wrc
  rw [hb]
  simp only
  rw [if_pos ⟨rfl, by rw [pairs_len]; simp [Value.cells]; omega, rfl⟩]
  congr 3
  have h1 : (cellsP (A ++ x :: B)).flatten = (cellsP A).flatten ++ ([iv x.1, iv x.2] ++ (cellsP B).flatten) := by simp
  have h2 : (cellsP (A ++ e :: B)).flatten = (cellsP A).flatten ++ ([iv e.1, iv e.2] ++ (cellsP B).flatten) := by simp
  rw [h1, h2, ← pairs_len A]
  exact setAt_mid [iv e.1, iv e.2] _ [iv x.1, iv x.2] _ rfl

theorem zero32 : zero? Tryd.prog 32 = some (.agg #[iv 0, iv 0]) := by kernel_rfl
theorem under24 : Tryd.prog.underlying 24 = some (.slice 32) := by kernel_rfl

theorem zeros_eq (m : Nat) : ((List.range (m * 2)).map fun i => (#[iv 0, iv 0] : Array Value)[i % 2]!) = (cellsP (List.replicate m (0, 0))).flatten := by
  have h1 : ((List.range (m * 2)).map fun i => (#[iv 0, iv 0] : Array Value)[i % 2]!) = List.replicate (m * 2) (iv 0) := by
    rw [List.eq_replicate_iff]
    refine ⟨by simp, fun x hx => ?_⟩
    obtain ⟨i, _, rfl⟩ := List.mem_map.1 hx
    have : i % 2 = 0 ∨ i % 2 = 1 := by omega
    rcases this with h | h <;> rw [h] <;> rfl
  have h2 : (cellsP (List.replicate m (0, 0))).flatten = List.replicate (m * 2) (iv 0) := by
    rw [List.eq_replicate_iff]
    refine ⟨by rw [pairs_len]; simp, fun x hx => ?_⟩
    obtain ⟨y, hy, hxy⟩ := List.mem_flatten.1 hx
    obtain ⟨e, he, rfl⟩ := List.mem_map.1 hy
    have := List.eq_of_mem_replicate he
    subst this
    simpa using hxy
  rw [h1, h2]

theorem row_slR {h : H} {b c n : Nat} {M : List (Nat × Nat)} (hb : b < h.nx) (hr : h.blk b = some (.row (cellsP M).flatten 32 true)) (hn : M.length = n) (hm : n < 2 ^ 30) (hc : c = U + n ∨ c = n) : SlR h 32 2 (.slice (some ⟨b, 0, none⟩) n c) (cellsP M) := by
  subst hn
  have a : AqR 0 h 32 2 (.slice (some ⟨b, 0, none⟩) (cellsP M).length c) (cellsP M) := .at_ (Nat.zero_le _) hb hr (fun x hx => by obtain ⟨e, _, rfl⟩ := List.mem_map.1 hx; rfl) (by simpa using hm) (by simpa using hc)
  simpa using a.slR

theorem sli_lo {h : H} {b c n i : Nat} {cs : List Value} (hr : h.blk b = some (.row cs 32 true)) (hi : i < n) (hm : n < 2 ^ 30) (hc : c = U + n ∨ c = n) : ∃ c', ∀ {T : Type} (K : Value → Option T), sli Tryd.prog h 24 (.slice (some ⟨b, 0, none⟩) n c) (some (iv i)) none none K = K (.slice (some ⟨b, i * 2, none⟩) (n - i) c') := by
  have h30 : (2:Nat) ^ 30 < U := by decide
  have hbd : bound (some (iv i)) n 0 = some i := by
    simp only [bound]
    rw [if_pos ⟨by omega, by omega⟩, Int.toNat_natCast]
  rcases hc with rfl | rfl
  · refine ⟨U + (n - i), fun K => ?_⟩
    unfold sli slice
    simp only [under24, hr, capK_U]
    rw [if_pos ⟨trivial, by omega, rfl⟩, sz32]
    simp only [Option.bind_some, show bound none n n = some n from rfl, hbd]
    rw [if_neg (by simp)]
    simp
  · have hk : capK c = c := by unfold capK; rw [if_pos (by omega)]
    refine ⟨c - i, fun K => ?_⟩
    unfold sli slice
    simp only [under24, hr, hk]
    rw [if_pos ⟨trivial, by omega, rfl⟩, sz32]
    simp only [Option.bind_some, show bound none c c = some c from rfl, hbd]
    rw [if_pos (by right; omega), if_neg (by omega)]
    simp

theorem clr_pairs {h : H} {b c' : Nat} {F G : List (Nat × Nat)} (hr : h.blk b = some (.row (cellsP (F ++ G)).flatten 32 true)) (hG : G.length ≠ 0) (K : H → Option R) :
    clr Tryd.prog h 24 (.slice (some ⟨b, F.length * 2, none⟩) G.length c') K = K (h.set b (.row (cellsP (F ++ List.replicate G.length (0, 0))).flatten 32 true)) := by
  have hz := zeros_eq G.length
  have hsc : ((cellsP (List.replicate G.length (0, 0))).flatten).all scal = true := by
    rw [List.all_eq_true]
    intro x hx
    obtain ⟨y, hy, hxy⟩ := List.mem_flatten.1 hx
    obtain ⟨e, he, rfl⟩ := List.mem_map.1 hy
    simp at hxy
    rcases hxy with rfl | rfl <;> rfl
  unfold clr clearS
  simp only [under24]
  rw [if_neg hG, zero32]
  simp only [Option.bind_some, hr]
  rw [show (Value.agg #[iv 0, iv 0]).cells = #[iv 0, iv 0] from rfl, show (#[iv 0, iv 0] : Array Value).size = 2 from rfl, hz]
  rw [if_pos ⟨by rw [pairs_len]; simp; omega, hsc⟩]
  simp only [Option.bind_some]
  congr 3
  have h1 : (cellsP (F ++ G)).flatten = (cellsP F).flatten ++ ((cellsP G).flatten ++ []) := by simp
  have h2 : (cellsP (F ++ List.replicate G.length (0, 0))).flatten = (cellsP F).flatten ++ ((cellsP (List.replicate G.length (0, 0))).flatten ++ []) := by simp
  rw [h1, h2, ← pairs_len F]
  exact setAt_mid _ _ _ _ (by rw [pairs_len, pairs_len]; simp)

set_option maxHeartbeats 2000000 in
/-- Elements with a property are deleted. -/
theorem s102 {v : Value} {cb lo : Nat} {L : List (Nat × Nat)} {p : Nat × Nat → Bool} {h : H} (hap : AqR lo h 32 2 v (cellsP L)) (hm : L.length < 1000)
    (hp : ∀ g, Kp (blkOf v) h g → ∀ e ∈ L, rn 103 #[.agg #[iv e.1, iv e.2], pt cb 0] g = some (.bool (p e), g)) :
    ∃ v' h', rn 102 #[v, .func (.func 103) #[] #[pt cb 0]] h = some (v', h') ∧ Kp (blkOf v) h h' ∧ SlR h' 32 2 v' (cellsP (L.filter fun e => !p e)) := by
  have hs := hap.slR
  have hn : ∀ {T : Type} (K : Int → Option T), len v K = K (L.length : Int) := fun K => by rw [hs.len]; simp
  rcases s115 hs hm (hp h (.refl _ _)) with ⟨i0, x0, hx0, hp0, hbe, e115⟩ | ⟨hall, e115⟩
  · have c115 := fun (K : Value → H → Option (Value × H)) => calls_eq (K := K) (xs := [v, .func (.func 103) #[] #[pt cb 0]]) e115
    have hi0 := (List.getElem?_eq_some_iff.1 hx0).1
    obtain ⟨b, c, rfl, hlo, hbn, hrow, hc⟩ : ∃ b c, v = .slice (some ⟨b, 0, none⟩) L.length c ∧ lo ≤ b ∧ b < h.nx ∧ h.blk b = some (.row (cellsP L).flatten 32 true) ∧ (c = U + L.length ∨ c = L.length) := by
      generalize hL : cellsP L = LL at hap
      cases hap with
      | nil => have := congrArg List.length hL; rw [List.length_map] at this; simp at this; subst this; simp at hi0
      | @at_ b c l hlo hb hr hx hm2 hc =>
        have := congrArg List.length hL
        rw [List.length_map] at this
        rw [← this] at hc ⊢
        exact ⟨b, c, rfl, hlo, hb, hr, hc⟩
    have hbo : blkOf (.slice (some ⟨b, 0, none⟩) L.length c) = some b := rfl
    rw [hbo] at hp ⊢
    have hfil0 : (L.take (i0 + 1)).filter (fun e => !p e) = L.take i0 := by
      rw [List.take_add_one, hx0]
      simp only [Option.toList_some, List.filter_append]
      have h1 : (L.take i0).filter (fun e => !p e) = L.take i0 := by
        rw [List.filter_eq_self]
        intro y hy
        obtain ⟨j, hj, rfl⟩ := List.getElem_of_mem hy
        rw [List.length_take] at hj
        have := hbe j _ (by omega) (List.getElem?_eq_getElem (show j < L.length by omega))
        rw [List.getElem_take, this]; rfl
      rw [h1]; simp [hp0]
    obtain ⟨e, ws', h', hl, rfl, kp, F, G, w, rfl, hfg, hF, hFl, hrow'⟩ := lpGo_inv (F := f102_l1 rn 2000 (.slice (some ⟨b, 0, none⟩) L.length c) (.func (.func 103) #[] #[pt cb 0]))
      (fun d ws g => Kp (some b) h g ∧ ∃ (F G : List (Nat × Nat)) (j : Nat), ws = [iv F.length, iv j] ∧ F.length + G.length = j ∧ j + d = L.length ∧ F = (L.take j).filter (fun e => !p e) ∧ F.length < j ∧ g.blk b = some (.row (cellsP (F ++ G ++ L.drop j)).flatten 32 true))
      (fun e ws g => e = .exit 0 ∧ Kp (some b) h g ∧ ∃ (F G : List (Nat × Nat)) (w : Value), ws = [iv F.length, w] ∧ F.length + G.length = L.length ∧ F = L.filter (fun e => !p e) ∧ F.length < L.length ∧ g.blk b = some (.row (cellsP (F ++ G)).flatten 32 true))
      (by
        rintro d ws g ⟨kp, F, G, j, rfl, hfg, hd, hF, hFl, hrow⟩
        have hbg : b < g.nx := Nat.lt_of_lt_of_le hbn kp.nx
        by_cases hd0 : d = 0
        · subst hd0
          have hj : j = L.length := by omega
          subst hj
          rw [List.take_length] at hF
          rw [List.drop_length, List.append_nil] at hrow
          refine ⟨.exit 0, [iv F.length, iv L.length], g, ?_, .inr ⟨by simp, rfl, kp, F, G, _, rfl, hfg, hF, hFl, hrow⟩⟩
          simp [f102_l1]
        · have hjl : j < L.length := by omega
          have hxj := List.getElem?_eq_getElem hjl
          generalize L[j] = e at hxj
          have hdrop : L.drop j = e :: L.drop (j + 1) := by
            rw [List.drop_eq_getElem_cons hjl]
            congr 1
            rw [List.getElem?_eq_getElem hjl] at hxj
            exact Option.some.inj hxj
          have hML : (F ++ G ++ L.drop j).length = L.length := by simp; omega
          have hsl := row_slR hbg hrow hML (by omega) hc
          have hMj : (F ++ G ++ L.drop j)[j]? = some e := by
            rw [List.getElem?_append_right (by simp; omega)]
            simp [hfg, hxj]
          have e1 : ∀ (K : Value → Option (Ex × List Value × H)), (six (.slice (some ⟨b, 0, none⟩) L.length c) (j : Int) 2 fun b o => ld Tryd.prog g 32 b o K) = K (.agg #[iv e.1, iv e.2]) := fun K =>
            hsl.ldA ag32 sz32 (by omega) (x := [iv e.1, iv e.2]) (by rw [Int.toNat_natCast, List.getElem?_map, hMj]; rfl) K
          obtain ⟨g3, hg3⟩ : ∃ g3, g3 = (g.new (.row [.int .i64 0, .int .i64 0] 32 true)).set g.nx (.row [iv e.1, iv e.2] 32 true) := ⟨_, rfl⟩
          have hb3 : g3.blk g.nx = some (.row [iv e.1, iv e.2] 32 true) := by rw [hg3]; exact blk_set_self _ _ _
          have x3 : Ext g g3 := by rw [hg3]; exact ((Ext.refl g).new' _).set (Nat.le_refl _) _
          have kp3 := kp.ext x3
          have w2 : ∀ (K : H → Option (Ex × List Value × H)), (wrc 2 (g.new (.row [.int .i64 0, .int .i64 0] 32 true)) g.nx 0 (.agg #[iv e.1, iv e.2])).bind K = K g3 := fun K => by
            rw [hg3]
            unfold wrc
            rw [blk_new_self]
            rfl
          have hemem := List.mem_of_getElem? hxj
          have c103 := fun (K : Value → H → Option (Ex × List Value × H)) => calls_eq (K := K) (xs := [.agg #[iv e.1, iv e.2], pt cb 0]) (hp g3 kp3 e hemem)
          have hrow3 : g3.blk b = some (.row (cellsP (F ++ G ++ L.drop j)).flatten 32 true) := (x3.blk b hbg).trans hrow
          have hadd : add .i64 (j : Int) 1 = ((j + 1 : Nat) : Int) := by rw [add64 (by omega) (by omega)]; omega
          have hadd2 : add .i64 (F.length : Int) 1 = ((F.length + 1 : Nat) : Int) := by rw [add64 (by omega) (by omega)]; omega
          have htake : (L.take (j + 1)).filter (fun e => !p e) = F ++ (if p e = true then [] else [e]) := by
            rw [List.take_add_one, hxj]
            simp only [Option.toList_some, List.filter_append]
            rw [← hF]
            cases hpe : p e <;> simp [hpe]
          have start : f102_l1 rn 2000 (.slice (some ⟨b, 0, none⟩) L.length c) (.func (.func 103) #[] #[pt cb 0]) [iv F.length, iv j] g =
              if p e = true then some (.normal, [iv F.length, iv ((j + 1 : Nat) : Int)], g3) else
              (wrc 2 g3 b (F.length * 2) (.agg #[iv e.1, iv e.2])).bind fun g6 => some (.normal, [iv ((F.length + 1 : Nat) : Int), iv ((j + 1 : Nat) : Int)], g6) := by
            unfold f102_l1
            rw [show AM.gv [iv F.length, iv j] 1 = iv j from rfl, show AM.gv [iv F.length, iv j] 0 = iv F.length from rfl, len_slice, asI_int, lt_t (by omega), ifB_true, asK_int]
            rw [e1, al_eq, w32, nx_eq, w2]
            simp only [nx_eq, d32, show g3.rd g.nx 0 2 = some [iv (e.1 : Int), iv (e.2 : Int)] from rd_all hb3 rfl, Option.bind_some]
            rw [callsV_eq, show (#[] : Array Value).toList ++ [Value.agg [iv (e.1 : Int), iv (e.2 : Int)].toArray] ++ (#[pt cb 0] : Array Value).toList = [.agg #[iv e.1, iv e.2], pt cb 0] from rfl, c103, asB_bool]
            cases hpe : p e with
            | true => simp [hadd]
            | false =>
              rw [if_neg (by simp), show (!false) = true from rfl, ifB_true, show g3.rd g.nx 0 2 = some [iv (e.1 : Int), iv (e.2 : Int)] from rd_all hb3 rfl, Option.bind_some, asK_int, six_in (by omega) (by omega), w32]
              simp only [Int.toNat_natCast, Nat.zero_add, asI_int, hadd, hadd2]
              rfl
          rw [start]
          by_cases hpe : p e = true
          · rw [if_pos hpe]
            rw [if_pos hpe, List.append_nil] at htake
            refine ⟨_, _, _, rfl, .inl ⟨rfl, d - 1, by omega, kp3, F, G ++ [e], j + 1, rfl, by simp; omega, by omega, htake.symm, by omega, ?_⟩⟩
            rw [hrow3, hdrop]
            simp
          · rw [if_neg hpe]
            rw [if_neg hpe] at htake
            obtain ⟨y, G', rfl⟩ : ∃ y G', G = y :: G' := by
              cases G with
              | nil => simp at hfg; omega
              | cons y G' => exact ⟨y, G', rfl⟩
            have hrow3' : g3.blk b = some (.row (cellsP (F ++ y :: (G' ++ L.drop j))).flatten 32 true) := by rw [hrow3]; simp
            rw [wrc_pair hrow3', Option.bind_some]
            refine ⟨_, _, _, rfl, .inl ⟨rfl, d - 1, by omega, kp3.set _, F ++ [e], G' ++ [e], j + 1, by simp, by simp at hfg ⊢; omega, by omega, htake.symm, by simp; omega, ?_⟩⟩
            rw [blk_set_self, hdrop]
            simp)
      (L.length - (i0 + 1)) 2000 (by omega) (ws := [iv i0, iv ((i0 + 1 : Nat) : Int)]) (h := h) ⟨.refl _ _, L.take i0, [x0], i0 + 1, by simp; omega, by simp; omega, by omega, hfil0.symm, by simp; omega, by
        have hL : L = L.take i0 ++ [x0] ++ L.drop (i0 + 1) := by
          have h1 : L[i0] = x0 := by rw [List.getElem?_eq_getElem hi0] at hx0; exact Option.some.inj hx0
          rw [List.append_assoc, List.singleton_append, ← h1, ← List.drop_eq_getElem_cons hi0, List.take_append_drop]
        rw [← hL]; exact hrow⟩
    have hbh : b < h'.nx := Nat.lt_of_lt_of_le hbn kp.nx
    obtain ⟨c', hsl⟩ := sli_lo (n := L.length) (c := c) hrow' hFl (by omega) hc
    have hGl : G.length = L.length - F.length := by omega
    rw [← hGl] at hsl
    have hrow8 : (h'.set b (.row (cellsP (F ++ List.replicate G.length (0, 0))).flatten 32 true)).blk b = some (.row (cellsP (F ++ List.replicate G.length (0, 0))).flatten 32 true) := blk_set_self _ _ _
    have hs8 := row_slR (n := L.length) (c := c) (h := h'.set b (.row (cellsP (F ++ List.replicate G.length (0, 0))).flatten 32 true)) hbh hrow8 (by simp; omega) (by omega) hc
    obtain ⟨v8, hv8, e8⟩ := hs8.take (i := (F.length : Int)) under24 sz32 (by omega) (by simp; omega)
    have hadd : add .i64 (i0 : Int) 1 = ((i0 + 1 : Nat) : Int) := by rw [add64 (by omega) (by omega)]; omega
    obtain ⟨h9, e9, m9, _⟩ := x102 (k := 2000) (v0 := .slice (some ⟨b, 0, none⟩) L.length c) (v1 := .func (.func 103) #[] #[pt cb 0]) (h := h) (h1 := h'.set b (.row (cellsP (F ++ List.replicate G.length (0, 0))).flatten 32 true)) (v := v8) (by
      unfold f102
      rw [c115, asI_int, show AM.eq (i0 : Int) (-1) = false by simp, ifB_false, hadd]
      refine (lp_eq hl).trans ?_
      rw [onE_exit, if_pos rfl, show AM.gv [iv F.length, w] 0 = iv F.length from rfl, hsl, clr_pairs hrow' (by omega)]
      exact e8 _) hv8.notR
    refine ⟨v8, h9, e9, (kp.set _).sm m9, ?_⟩
    have := hv8.ext m9.ext
    rw [← List.map_take, Int.toNat_natCast, List.take_left, hF] at this
    exact this
  · have c115 := fun (K : Value → H → Option (Value × H)) => calls_eq (K := K) (xs := [v, .func (.func 103) #[] #[pt cb 0]]) e115
    refine ⟨v, h, y102 (k := 0) ?_, .refl _ _, ?_⟩
    · unfold f102
      rw [c115, asI_int]
      rfl
    · rw [List.filter_eq_self.2 fun x hx => by rw [hall x hx]; rfl]
      exact hs

/-- The program's bridges. -/
theorem s69 {tv : Value} {g : List Nat} {h : H} (hg : GrB g) (hs : SlR h 3 1 tv (cellsN g)) :
    ∃ v' h', rn 69 #[tv] h = some (v', h') ∧ Exw h h' ∧ SlR h' 32 2 v' (cellsP (bridgesP g)) := by
  have hlen := hg.len
  have hcells : tv.cells.toList = [tv] := by obtain ⟨x, y, z, hz⟩ := hs.isSl; rw [hz]; rfl
  have x1 := Ext.new h (.row [tv] 78 true)
  have hb1 : (h.new (.row [tv] 78 true)).blk h.nx = some (.row [tv] 78 true) := blk_new_self _ _
  obtain ⟨ev, h2, e77, x2, hap⟩ := s77 hg (hs.ext x1)
  rw [nx_new] at hap
  have c77 := fun (K : Value → H → Option (Value × H)) => calls_eq (K := K) (xs := [tv]) e77
  have hev : ∀ b, blkOf ev = some b → h.nx < b := fun b hb => by have := (hap.blkOf hb).1; omega
  have hlt : h.nx < h2.nx := by have := x2.nx; rw [nx_new] at this; omega
  have hq : ∀ g', Kp (blkOf ev) h2 g' → ∀ e ∈ edgesP g, rn 103 #[.agg #[iv e.1, iv e.2], pt h.nx 0] g' = some (.bool (roundQ g e.1 e.2), g') := by
    intro g' kp e he
    obtain ⟨hlt1, hlt2, hadj⟩ := mem_edges.1 he
    refine s103 hg (by omega) hlt2 (by omega) (q := h.nx) (tv := tv) ?_ (by have := kp.nx; omega) ?_
    · rw [kp.blk _ hlt (fun hh => by have := hev _ hh; omega), x2.blk _ (by rw [nx_new]; omega)]
      exact hb1
    · refine hs.lo (lo := h.nx) hs.below ⟨by have := kp.nx; omega, fun b hb => ?_⟩
      rw [kp.blk _ (by omega) (fun hh => by have := hev _ hh; omega), (x1.trans x2.toExt).blk _ hb]
  obtain ⟨v', h3, e102, kp, hs3⟩ := s102 hap (by have := edges_len g hg; omega) hq
  have c102 := fun (K : Value → H → Option (Value × H)) => calls_eq (K := K) (xs := [ev, .func (.func 103) #[] #[pt h.nx 0]]) e102
  have x3 : Ext h h3 := ⟨by have := kp.nx; omega, fun b hb => by rw [kp.blk _ (by omega) (fun hh => by have := hev _ hh; omega), (x1.trans x2.toExt).blk _ hb]⟩
  obtain ⟨h4, e4, m4, w4⟩ := x69 (k := 0) (v0 := tv) (h := h) (h1 := h3) (v := v') (by
    unfold f69
    rw [bx_eq, hcells, nx_eq, d78, cell_of hb1, show ([tv] : List Value)[0]? = some tv from rfl, Option.bind_some, c77, c102]) hs3.notR
  exact ⟨v', h4, e4, w4 x3, hs3.ext m4.ext⟩

theorem s23 {v : Value} {g : List Nat} {h : H} (hg : GrN g) (hval : validG (g.map Int.ofNat) = true) (hs : SlR h 3 1 v (cellsN g)) :
    ∃ v' h', rn 23 #[v] h = some (.tuple #[v', iv 0], h') ∧ Exw h h' ∧ SlR h' 32 2 v' (cellsP (bridgesP g)) := by
  have c63 := fun (K : Value → H → Option (Value × H)) => calls_eq (K := K) (xs := [v]) (s63 (l := g.map Int.ofNat) (h := h) (by rw [cellsN_eq]; exact hs))
  rw [if_pos hval] at c63
  obtain ⟨v', h1, e69, x1, hs1⟩ := s69 hg.toGrB hs
  have c69 := fun (K : Value → H → Option (Value × H)) => calls_eq (K := K) (xs := [v]) e69
  obtain ⟨h2, e2, m2, w2⟩ := x23 (k := 0) (v0 := v) (h := h) (h1 := h1) (v := .tuple #[v', iv 0]) (by
    simp [f23, c63, c69]) hs1.notR2
  exact ⟨v', h2, e2, w2 x1.toExt, hs1.ext m2.ext⟩

theorem s23_bad {v : Value} {l : List Int} {h : H} (hval : validG l = false) (hs : SlR h 3 1 v (cellsI l)) : rn 23 #[v] h = some (.tuple #[.slice none 0 0, iv 2], h) := by
  have c63 := fun (K : Value → H → Option (Value × H)) => calls_eq (K := K) (xs := [v]) (s63 hs)
  rw [hval] at c63
  refine y23 (k := 0) ?_
  simp [f23, c63]

theorem s24 {v : Value} {g : List Nat} {h : H} (hg : GrN g) (hval : validG (g.map Int.ofNat) = true) (hs : SlR h 3 1 v (cellsN g)) : rn 24 #[v] h = some (.tuple #[iv (cutsP g (allN g) : Nat), iv 0], h) := by
  have c63 := fun (K : Value → H → Option (Value × H)) => calls_eq (K := K) (xs := [v]) (s63 (l := g.map Int.ofNat) (h := h) (by rw [cellsN_eq]; exact hs))
  rw [if_pos hval] at c63
  have c65 := fun (K : Value → H → Option (Value × H)) => calls_eq (K := K) (xs := [v]) (s65 hg.toGrB hs)
  have c70 := fun (K : Value → H → Option (Value × H)) => calls_eq (K := K) (xs := [v, iv (allN g : Nat)]) (s70 hg.toGrB hs (allN_lt g))
  refine p24 (k := 0) (h1 := h) ?_ rfl (.refl _)
  simp [f24, c63, c65, c70]

theorem s24_bad {v : Value} {l : List Int} {h : H} (hval : validG l = false) (hs : SlR h 3 1 v (cellsI l)) : rn 24 #[v] h = some (.tuple #[iv 0, iv 2], h) := by
  have c63 := fun (K : Value → H → Option (Value × H)) => calls_eq (K := K) (xs := [v]) (s63 hs)
  rw [hval] at c63
  refine p24 (k := 0) (h1 := h) ?_ rfl (.refl _)
  simp [f24, c63]

theorem s26 {v : Value} {g : List Nat} {h : H} (hg : GrN g) (hs : SlR h 3 1 v (cellsN g)) : rn 26 #[v] h = some (iv (cutsP g (allN g) : Nat), h) := by
  have c68 := fun (K : Value → H → Option (Value × H)) => calls_eq (K := K) (xs := [v]) (s68 hg.toGrB hs)
  have c74 := fun (K : Value → H → Option (Value × H)) => calls_eq (K := K) (xs := [v, iv (allN g : Nat)]) (s74 hg.toGrB hs (allN_lt g))
  refine p26 (k := 0) (h1 := h) ?_ rfl (.refl _)
  simp [f26, c68, c74]

/-- The law. -/
theorem s4 (hawake : ∀ h, rn 20 #[] h = some (.bool true, h)) {h : H} {v : Value} {l : List Int} (hs : SlR h 3 1 v (cellsI l)) : ∃ h', rn 4 #[v] h = some (.bool true, h') := by
  have c20 := fun (g : H) (K : Value → H → Option (Value × H)) => calls_eq (K := K) (xs := []) (hawake g)
  obtain ⟨v1, h1, e18, x1, hs1⟩ := s18 hs
  have c18 := fun (K : Value → H → Option (Value × H)) => calls_eq (K := K) (xs := [v]) e18
  by_cases hval : validG l = true
  · obtain ⟨g, rfl, hg⟩ := valid_nat hval
    have htk : (g.map Int.ofNat).take 14 = g.map Int.ofNat := List.take_of_length_le (by have := hg.len; simp; omega)
    rw [htk, cellsN_eq] at hs1
    obtain ⟨v2, h2, e23, x2, hs2⟩ := s23 hg hval hs1
    have c23 := fun (K : Value → H → Option (Value × H)) => calls_eq (K := K) (xs := [v1]) e23
    obtain ⟨v5, h3, e18b, x3, hs5⟩ := s18 (hs.ext (x1.tr x2).toExt)
    rw [htk, cellsN_eq] at hs5
    have c18b := fun (K : Value → H → Option (Value × H)) => calls_eq (K := K) (xs := [v]) e18b
    have c24 := fun (K : Value → H → Option (Value × H)) => calls_eq (K := K) (xs := [v5]) (s24 hg hval hs5)
    have hsv := hs.ext ((x1.tr x2).tr x3).toExt
    have c19 := fun (K : Value → H → Option (Value × H)) => calls_eq (K := K) (xs := [v]) (s19 hsv)
    rw [cellsN_eq] at hsv
    obtain ⟨v6, h4, e25, x4, hs6⟩ := s25 hg.toGrB hsv
    have c25 := fun (K : Value → H → Option (Value × H)) => calls_eq (K := K) (xs := [v]) e25
    have c21 := fun (K : Value → H → Option (Value × H)) => calls_eq (K := K) (xs := [v2, v6]) (s21 (hs2.ext (x3.tr x4).toExt) hs6)
    have c26 := fun (K : Value → H → Option (Value × H)) => calls_eq (K := K) (xs := [v]) (s26 hg (hsv.ext x4.toExt))
    refine ⟨_, t4 (k := 0) (v := .bool true) (h1 := h4) ?_⟩
    simp [f4, c18, c23, c18b, c24, c19, hval, c25, c21, c26, c20]
  · have hv' : validG l = false := by simpa using hval
    have hv14 : validG (l.take 14) = false := by rw [validG_take]; exact hv'
    have c23 := fun (K : Value → H → Option (Value × H)) => calls_eq (K := K) (xs := [v1]) (s23_bad hv14 hs1)
    obtain ⟨v5, h3, e18b, x3, hs5⟩ := s18 (hs.ext x1.toExt)
    have c18b := fun (K : Value → H → Option (Value × H)) => calls_eq (K := K) (xs := [v]) e18b
    have c24 := fun (K : Value → H → Option (Value × H)) => calls_eq (K := K) (xs := [v5]) (s24_bad hv14 hs5)
    have c19 := fun (K : Value → H → Option (Value × H)) => calls_eq (K := K) (xs := [v]) (s19 (hs.ext (x1.tr x3).toExt))
    refine ⟨_, t4 (k := 0) (v := .bool true) (h1 := h3) ?_⟩
    simp [f4, c18, c23, c18b, c24, c19, hv', c20]

end Go.AM
