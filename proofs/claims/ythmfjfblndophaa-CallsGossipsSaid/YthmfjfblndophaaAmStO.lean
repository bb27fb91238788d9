/- The staged evaluator is sound: operations. -/
import Derived.Test.YthmfjfblndophaaAmStS
namespace Go.AM

section
variable {P : Program} {E : Env} {rec : Rec} {k : Nat} {R : Type} {r : R}

theorem ld_some {h : H} {ty : TypeId} {b o : Nat} {K : Value → Option R} (hh : ld P h ty b o K = some r) : ∃ v, load P ty (.pointer (some ⟨b, o, none⟩)) h = some v ∧ K v = some r := bind_some' hh

theorem fieldAddr_off {s : TypeId} {f b o d : Nat} (h : fieldOff P s f = some d) : fieldAddr P s (.pointer (some ⟨b, o, none⟩)) f = some (.pointer (some ⟨b, o + d, none⟩)) := by
  unfold fieldOff at h
  unfold fieldAddr
  split at h
  · rename_i fs e
    simp only [e]
    obtain ⟨g, h1, h⟩ := bind_some' h
    obtain ⟨n, h2, h⟩ := bind_some' h
    split at h
    · cases h
    · rename_i e1
      cases h
      rw [h1, Option.bind_some, h2, Option.bind_some, if_neg e1]
  · cases h

theorem mks_kind {t : TypeId} {ka kb : IntKind} {a b : Int} {h : H} : makeSlice P t (.int ka a) (.int kb b) h = makeSlice P t (.int .i64 a) (.int .i64 b) h := by
  unfold makeSlice
  cases P.underlying t with
  | none => rfl
  | some d => cases d <;> rfl

theorem inx_kind {t : TypeId} {v : Value} {ka : IntKind} {a : Int} : index P t v (.int ka a) = index P t v (.int .i64 a) := by
  unfold index
  cases P.underlying t with
  | none => rfl
  | some d => cases d <;> first | rfl | (cases v <;> rfl)

theorem opT_some {N : Nat} {t : Array Value} {env : SEnv} (ht : TE N t env) {o : Oper} {h : H} {K : SV → H → Option R} (hh : opT P E SC (XC P rec k R) o env h K = some r) :
    ∃ (s : SV) (v : Value) (h' : H), op P E rec t o h = some (v, h') ∧ Is s v ∧ K s h' = some r := by
  obtain ⟨dst, x, ty, pos, aft, gu⟩ := o
  unfold opT at hh
  unfold op
  split at hh
  · cases hh
  · rename_i hok
    rw [if_neg hok]
    cases x with
    | move x =>
      obtain ⟨s, h1, h2⟩ := toS_some (ht.ev x) hh
      exact ⟨s, _, h, rfl, h1, h2⟩
    | assign x =>
      obtain ⟨s, h1, h2⟩ := toS_some (ht.ev x) hh
      exact ⟨s, _, h, rfl, h1, h2⟩
    | pick c a b =>
      obtain ⟨q, hq, h1⟩ := toC_some (ht.ev c) hh
      simp only [hq]
      cases q
      · obtain ⟨s, h2, h3⟩ := toS_some (ht.ev b) h1
        exact ⟨s, _, h, rfl, h2, h3⟩
      · obtain ⟨s, h2, h3⟩ := toS_some (ht.ev a) h1
        exact ⟨s, _, h, rfl, h2, h3⟩
    | alloc t' =>
      simp only at hh
      split at hh
      · rename_i z hz
        exact ⟨.ptr h.nx 0, _, _, by simp only [alloc, hz]; rfl, .inr rfl, hh⟩
      · cases hh
    | box t' x =>
      simp only at hh
      split at hh
      · rename_i n hn
        replace hh := toV_some (ht.ev x) hh
        exact ⟨.ptr h.nx 0, _, _, by simp only [box, hn]; rfl, .inr rfl, hh⟩
      · cases hh
    | build t' ps =>
      replace hh := toPs_some ht ps.toList hh
      obtain ⟨v, h1, h2⟩ := bind_some' hh
      refine ⟨.opq v, v, h, ?_, .inr rfl, h2⟩
      simp only [h1]; rfl
    | buildSlice t' n ps =>
      replace hh := toPs_some ht ps.toList hh
      obtain ⟨⟨v, h'⟩, h1, h2⟩ := bind_some' hh
      exact ⟨.opq v, v, h', h1, .inr rfl, h2⟩
    | load t' a =>
      obtain ⟨b, o, ha, h1⟩ := toP_some (ht.ev a) hh
      obtain ⟨v, hv, h2⟩ := ld_some h1
      obtain ⟨s, hs, h3⟩ := shape_some h2
      refine ⟨s, v, h, ?_, hs, h3⟩
      simp only [ha, hv]; rfl
    | store t' a x =>
      obtain ⟨b, o, ha, h1⟩ := toP_some (ht.ev a) hh
      replace h1 := toV_some (ht.ev x) h1
      obtain ⟨h', hv, h2⟩ := bind_some' h1
      refine ⟨.und, undef, h', ?_, .inr rfl, h2⟩
      simp only [ha, hv]; rfl
    | nilCheck x =>
      simp only at hh ⊢
      have hx := ht.ev x
      split at hh
      · rename_i b o e; rw [e] at hx; exact ⟨.ptr b o, _, h, by rw [← hx.resolve_left (by simp)]; rfl, .inr rfl, hh⟩
      · rename_i f a b e; rw [e] at hx; exact ⟨.fn f a b, _, h, by rw [← hx.resolve_left (by simp)]; rfl, .inr rfl, hh⟩
      · rename_i v e
        rw [e] at hx
        rw [← hx.resolve_left (by simp)]
        replace hh : nil v (K (.opq v) h) = some r := hh
        unfold nil at hh
        split at hh
        · exact ⟨_, _, h, rfl, .inr rfl, hh⟩
        · exact ⟨_, _, h, rfl, .inr rfl, hh⟩
        · cases hh
      · cases hh
    | binOp b t' x y yt =>
      obtain ⟨s, h1, h2⟩ := binT_some (ht.ev x) (ht.ev y) hh
      refine ⟨s, _, h, ?_, .inr rfl, h2⟩
      simp only [h1]; rfl
    | unOp b t' x =>
      obtain ⟨s, h1, h2⟩ := unT_some (ht.ev x) hh
      refine ⟨s, _, h, ?_, .inr rfl, h2⟩
      simp only [h1]; rfl
    | convert s d x =>
      simp only at hh
      split at hh
      · rename_i ks kd e1 e2
        obtain ⟨n, hn, h1⟩ := toI_some (ht.ev x) hh
        refine ⟨.int kd (wr kd n), _, h, ?_, .inr rfl, h1⟩
        simp only [hn, convert, e1, e2]; rfl
      · cases hh
    | makeFunc fn first captured =>
      simp only at hh ⊢
      split at hh
      · rename_i f
        replace hh := toVs_some ht captured.toList (toVs_some ht first.toList hh)
        refine ⟨_, _, h, rfl, ?_, hh⟩
        rw [map_val, map_val]
        exact .inr rfl
      · cases hh
    | makeMap t' re =>
      simp only at hh ⊢
      split at hh
      · exact ⟨.opq (.map (some h.nx)), _, _, rfl, .inr rfl, hh⟩
      · cases hh
    | makeSlice t' l c =>
      obtain ⟨ka, a, ha, h1⟩ := toK_some (ht.ev l) hh
      obtain ⟨kb, b, hb, h2⟩ := toK_some (ht.ev c) h1
      obtain ⟨⟨v, h'⟩, h3, h4⟩ := bind_some' h2
      refine ⟨.opq v, v, h', ?_, .inr rfl, h4⟩
      simp only [ha, hb]
      rw [mks_kind]
      exact h3
    | slice t' x lo hi mx =>
      replace hh := toV_some (ht.ev x) hh
      replace hh := toVo_some ht lo hh
      replace hh := toVo_some ht hi hh
      replace hh := toVo_some ht mx hh
      obtain ⟨v, h1, h2⟩ := bind_some' hh
      refine ⟨.opq v, v, h, ?_, .inr rfl, h2⟩
      simp only [h1]; rfl
    | fieldAddr s x f =>
      obtain ⟨b, o, ha, h1⟩ := toP_some (ht.ev x) hh
      split at h1
      · rename_i d hd
        refine ⟨_, _, h, ?_, .inr rfl, h1⟩
        simp only [ha, fieldAddr_off hd]
        by_cases hd0 : d = 0
        · subst hd0; rfl
        · rw [if_neg hd0]; rfl
      · cases h1
    | field s x f =>
      replace hh := toV_some (ht.ev x) hh
      obtain ⟨v, h1, h2⟩ := bind_some' hh
      obtain ⟨s', hs, h3⟩ := shape_some h2
      refine ⟨s', v, h, ?_, hs, h3⟩
      simp only [h1]; rfl
    | indexAddr t' x i =>
      simp only at hh
      split at hh
      · rename_i el hu
        split at hh
        · rename_i s hs
          replace hh := toV_some (ht.ev x) hh
          obtain ⟨ki, i', hi, h1⟩ := toK_some (ht.ev i) hh
          replace h1 : six (ev t x) i' s (fun b o => K (.ptr b o) h) = some r := h1
          unfold six at h1
          split at h1
          · rename_i b o n c hx
            split at h1
            · rename_i hb
              refine ⟨.ptr b (o + i'.toNat * s), _, h, ?_, .inr rfl, h1⟩
              simp only [hi, hx, indexAddr, hu, hs]
              rw [if_pos hb]; rfl
            · cases h1
          · cases h1
        · cases hh
      · rename_i n el hu
        split at hh
        · rename_i s hs
          obtain ⟨b, o, hx, hh⟩ := toP_some (ht.ev x) hh
          obtain ⟨ki, i', hi, h1⟩ := toK_some (ht.ev i) hh
          replace h1 : aix _ _ _ = some r := h1
          unfold aix at h1
          split at h1
          · rename_i hb
            refine ⟨.ptr b (at_ o i' s), _, h, ?_, .inr rfl, h1⟩
            simp only [hi, hx, indexAddr, hu, hs]
            rw [if_pos hb]; rfl
          · cases h1
        · cases hh
      · cases hh
    | index t' x i =>
      replace hh := toV_some (ht.ev x) hh
      obtain ⟨ki, i', hi, h1⟩ := toK_some (ht.ev i) hh
      obtain ⟨v, h2, h3⟩ := bind_some' h1
      obtain ⟨s', hs, h4⟩ := shape_some h3
      refine ⟨s', v, h, ?_, hs, h4⟩
      simp only [hi]
      rw [inx_kind, h2]; rfl
    | lookup t' m x ok =>
      replace hh := toV_some (ht.ev x) (toV_some (ht.ev m) hh)
      obtain ⟨v, h1, h2⟩ := bind_some' hh
      obtain ⟨s', hs, h3⟩ := shape_some h2
      refine ⟨s', v, h, ?_, hs, h3⟩
      simp only [h1]; rfl
    | mapUpdate t' m x y =>
      replace hh := toV_some (ht.ev y) (toV_some (ht.ev x) (toV_some (ht.ev m) hh))
      obtain ⟨h', h1, h2⟩ := bind_some' hh
      refine ⟨.und, undef, h', ?_, .inr rfl, h2⟩
      simp only [h1]; rfl
    | extract x i =>
      replace hh := toV_some (ht.ev x) hh
      replace hh : ext _ _ _ = some r := hh
      unfold ext at hh
      split at hh
      · rename_i vs hx
        obtain ⟨v, h1, h2⟩ := bind_some' hh
        obtain ⟨s', hs, h3⟩ := shape_some h2
        refine ⟨s', v, h, ?_, hs, h3⟩
        simp only [hx, h1]; rfl
      · cases hh
    | call c =>
      obtain ⟨ca, as, tys⟩ := c
      simp only at hh ⊢
      cases ca with
      | value f =>
        simp only at hh ⊢
        have hf := ht.ev f
        split at hh
        · rename_i f' xs ys e
          replace hh := toVs_some ht as.toList hh
          obtain ⟨⟨v, h'⟩, h1, h2⟩ := bind_some' hh
          obtain ⟨s', hs, h3⟩ := shape_some h2
          refine ⟨s', v, h', ?_, hs, h3⟩
          rw [e] at hf
          rw [← hf.resolve_left (by simp), map_val]
          rw [← h1]
          simp only [callV, SV.val]
          congr 1
          simp
        · rename_i v e
          replace hh := toVs_some ht as.toList hh
          obtain ⟨⟨v', h'⟩, h1, h2⟩ := bind_some' hh
          obtain ⟨s', hs, h3⟩ := shape_some h2
          refine ⟨s', v', h', ?_, hs, h3⟩
          rw [e] at hf
          rw [← hf.resolve_left (by simp), map_val]
          exact h1
        · cases hh
      | builtin b =>
        cases b with
        | len =>
          simp only at hh ⊢
          split at hh
          · rename_i t' l' x hl ha
            have e1 : (tys.toList[0]?).bind P.underlying = P.underlying t' := by rw [hl]; rfl
            rw [ha]
            simp only [List.map_cons, List.map_nil, builtin, e1]
            split at hh
            · rename_i el hu
              replace hh := toV_some (ht.ev x) hh
              replace hh : len (ev t x) (fun n => K (.int .i64 n) h) = some r := hh
              obtain ⟨b, n, c, hv, h1⟩ := len_some hh
              rw [hu, hv]
              exact ⟨_, _, _, rfl, .inr rfl, h1⟩
            · rename_i kt vt hu
              replace hh := toV_some (ht.ev x) hh
              replace hh : mlen h (ev t x) (fun n => K (.int .i64 n) h) = some r := hh
              unfold mlen at hh
              rw [hu]
              split at hh
              · rename_i hv
                rw [hv]
                exact ⟨_, _, _, rfl, .inr rfl, hh⟩
              · rename_i b hv
                rw [hv]
                split at hh
                · rename_i es c hb
                  simp only [hb]
                  exact ⟨_, _, _, rfl, .inr rfl, hh⟩
                · cases hh
              · cases hh
            · cases hh
          · cases hh
        | append =>
          simp only at hh ⊢
          split at hh
          · rename_i s t' x y hl ha
            replace hh := toV_some (ht.ev y) (toV_some (ht.ev x) hh)
            obtain ⟨⟨v, h'⟩, h1, h2⟩ := bind_some' hh
            refine ⟨.opq v, v, h', ?_, .inr rfl, h2⟩
            rw [ha, hl]
            simp only [List.map_cons, List.map_nil, builtin]
            exact h1
          · cases hh
        | min =>
          simp only at hh ⊢
          split at hh
          · rename_i kd x y hu ha
            obtain ⟨a, h1, hh⟩ := toI_some (ht.ev x) hh
            obtain ⟨b, h2, hh⟩ := toI_some (ht.ev y) hh
            refine ⟨_, _, _, ?_, .inr rfl, hh⟩
            rw [ha]
            simp only [List.map_cons, List.map_nil, builtin, h1, h2]
            rfl
          · cases hh
        | max =>
          simp only at hh ⊢
          split at hh
          · rename_i kd x y hu ha
            obtain ⟨a, h1, hh⟩ := toI_some (ht.ev x) hh
            obtain ⟨b, h2, hh⟩ := toI_some (ht.ev y) hh
            refine ⟨_, _, _, ?_, .inr rfl, hh⟩
            rw [ha]
            simp only [List.map_cons, List.map_nil, builtin, h1, h2]
            rfl
          · cases hh
        | _ => cases hh
      | _ => cases hh
    | _ => cases hh

end
end Go.AM
