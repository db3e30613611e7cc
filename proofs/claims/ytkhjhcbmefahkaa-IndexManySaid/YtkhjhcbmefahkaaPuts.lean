import Derived.Test.YtkhjhcbmefahkaaPut
namespace Go.Proofs.Ytkhjhcbmefahkaa
open Go.RowKit Go.Mm Go.Lst

theorem foot_nodup {N N1 N2 b : Nat} {pb kb F1 G F2 pb' kb' G' : List Nat} (hd : (b :: (pb ++ kb ++ (F1 ++ G ++ F2))).Nodup) (hN : ∀ y ∈ b :: (pb ++ kb ++ (F1 ++ G ++ F2)), y < N) (h1 : N ≤ N1) (h2 : N1 ≤ N2)
    (hp : ∀ y ∈ pb', y ∈ pb ∨ N1 ≤ y) (hpn : pb'.Nodup) (hpl : ∀ y ∈ pb', y < N2) (hk : ∀ y ∈ kb', y ∈ kb ∨ N2 ≤ y) (hkn : kb'.Nodup)
    (hg : ∀ y ∈ G', y ∈ G ∨ N ≤ y) (hgn : G'.Nodup) (hgl : ∀ y ∈ G', y < N1) : (b :: (pb' ++ kb' ++ (F1 ++ G' ++ F2))).Nodup := by
  simp only [List.nodup_append, List.nodup_cons, List.mem_append, List.mem_cons, not_or] at *
  obtain ⟨⟨⟨hb1, hb2⟩, ⟨hb3, hb4⟩, hb5⟩, ⟨hpp, hkk, hpk⟩, ⟨⟨hF1, hG, hFG⟩, hF2, hGF⟩, hx⟩ := hd
  refine ⟨?_, ?_, ?_, ?_⟩
  · grind
  · grind
  · grind
  · intro x hx1 y hy
    rcases hx1 with hx1 | hx1 <;> rcases hy with (hy | hy) | hy <;> grind

def PutPost (least most h : Nat) (t : MT h) (key : ByteArray) (n : Int) (w : World) (e : Ending) (w' : World) : Prop :=
  ∃ t' : MT h, e = .returned (retv (lget key (flat h t))) ∧ TAt w' h t' ∧ t'.b = t.b ∧ (foot h t').Nodup ∧ (∀ y ∈ foot h t', y ∈ foot h t ∨ w.heap.size ≤ y) ∧ Tch (· ∈ foot h t) w w' ∧
    flat h t' = lput key n (flat h t) ∧ Shp least most h t' ∧ t.ps.length ≤ t'.ps.length ∧ t'.ps.length ≤ t.ps.length + 1

def PutOk (least most h : Nat) : Prop := ∀ (t : MT h) (w : World) (xb : Nat) (rv lv : Value) (key : ByteArray) (n : Int), TAt w h t → (foot h t).Nodup →
  Blk w xb [.int .i64 most, .int .i64 least, rv, lv] 64 → xb ∉ foot h t → Shp least most h t → t.ps.length ≤ most → Srt (flat h t) →
  Calls Try.prog 27 #[.pointer (some ⟨xb, 0, none⟩), .pointer (some ⟨t.b, 0, none⟩), .agg #[.string key, .int .i64 n]] w (PutPost least most h t key n w)

theorem put_zero (least most : Nat) (hm : most ≤ 64) : PutOk least most 0 := by
  intro t w xb rv lv key n ha hd hx hxn hsh hlen hs
  have hd' := hd
  simp only [foot, List.nodup_cons, List.mem_append, not_or] at hd'
  obtain ⟨⟨hbp, hbk⟩, hpk⟩ := hd'
  have hpk' := List.nodup_append.1 hpk
  have hlt := NdAt.lt ha
  rcases split_exists key (show Srt t.ps from hs) with ⟨A, m, C, hps, hA, hC⟩ | ⟨A, C, hps, hA, hC⟩
  · have h1 : NdAt w t.b t.pb (A ++ (key, m) :: C) t.kb [] := hps ▸ ha
    refine (put_here _ key n m A C h1 (by rw [← hps]; omega) hbp (fun y hy hy' => hpk'.2.2 y hy y hy' rfl) (hps ▸ hs) hA).mono ?_
    rintro e w' ⟨rfl, h2, ht⟩
    refine ⟨mk0 t.b t.pb (A ++ (key, n) :: C) t.kb, ?_, h2, rfl, hd, fun y hy => .inl hy, ht.mono (fun y _ h => by simp only [foot, List.mem_cons, List.mem_append]; exact .inr (.inl h)), ?_, trivial, ?_, ?_⟩
    · show _ = Ending.returned (retv (lget key t.ps))
      rw [hps, lget_here hA]; rfl
    · show A ++ (key, n) :: C = lput key n t.ps
      rw [hps, lput_here hA]
    · show t.ps.length ≤ (A ++ (key, n) :: C).length
      rw [hps]; simp
    · show (A ++ (key, n) :: C).length ≤ t.ps.length + 1
      rw [hps]; simp
  · refine (put_leaf ha (by omega) hbp hbk (fun y hy hy' => hpk'.2.2 y hy y hy' rfl) hs _ key n A C hps hA hC).mono ?_
    rintro e w' ⟨pb', rfl, h2, ht, hn⟩
    have hl2 := NdAt.lt h2
    have hlen' : (lput key n t.ps).length = t.ps.length + 1 := by
      rw [lput_length (show Srt t.ps from hs), hps, lget_append_left hA.ne, lget_none.2 hC.ne]; rfl
    refine ⟨mk0 t.b pb' (lput key n t.ps) t.kb, rfl, h2, rfl, ?_, ?_, ht.mono (fun y _ h => by simp only [foot, List.mem_cons, List.mem_append]; exact h.imp id .inl), rfl, trivial, ?_, ?_⟩
    · have h3 : pb'.Nodup := by obtain ⟨_, _, _, h, _⟩ := h2; exact h.nodup
      simp only [foot, mk0, List.nodup_cons, List.nodup_append, List.mem_append, not_or]
      refine ⟨⟨fun h => ?_, hbk⟩, h3, hpk'.2.1, fun x hx y hy e => ?_⟩
      · rcases hn _ h with h | h
        · exact hbp h
        · have := hlt.1; omega
      · subst e
        rcases hn _ hx with h | h
        · exact hpk'.2.2 x h x hy rfl
        · have := hlt.2.2 x hy; omega
    · intro y hy
      simp only [foot, mk0, List.mem_cons, List.mem_append] at hy ⊢
      rcases hy with h | h | h
      · exact .inl (.inl h)
      · exact (hn y h).imp (fun h => .inr (.inl h)) id
      · exact .inl (.inr (.inr h))
    · show t.ps.length ≤ (lput key n t.ps).length
      omega
    · show (lput key n t.ps).length ≤ t.ps.length + 1
      omega

/-- a node that is no lowest one, around one of its kids -/
structure InF (least most h : Nat) (t : MT (h + 1)) (w : World) (A C : List Pair) (K1 : List (MT h)) (kid : MT h) (K2 : List (MT h)) : Prop where
  ps : t.ps = A ++ C
  kk : kids t = K1 ++ kid :: K2
  len : K1.length = A.length
  here : TAt w (h + 1) t
  nd : (foot (h + 1) t).Nodup
  shp : Shp least most (h + 1) t
  srt : Srt (flat (h + 1) t)

theorem InF.mk' {least most h : Nat} {t : MT (h + 1)} {w : World} {A C : List Pair} (hps : t.ps = A ++ C) (here : TAt w (h + 1) t) (nd : (foot (h + 1) t).Nodup) (shp : Shp least most (h + 1) t) (srt : Srt (flat (h + 1) t)) :
    ∃ K1 kid K2, InF least most h t w A C K1 kid K2 := by
  have hl : A.length < (kids t).length := by rw [shp.1, hps, List.length_append]; omega
  exact ⟨(kids t).take A.length, (kids t)[A.length], (kids t).drop (A.length + 1), hps, by rw [← List.drop_eq_getElem_cons hl, List.take_append_drop], by rw [List.length_take]; omega, here, nd, shp, srt⟩

section
variable {least most h : Nat} {t : MT (h + 1)} {w : World} {A C : List Pair} {K1 : List (MT h)} {kid : MT h} {K2 : List (MT h)}
theorem InF.mem (I : InF least most h t w A C K1 kid K2) : kid ∈ kids t := by rw [I.kk]; simp
theorem InF.foot (I : InF least most h t w A C K1 kid K2) : Lst.foot (h + 1) t = t.b :: (t.pb ++ t.kb ++ (K1.flatMap (Lst.foot h) ++ Lst.foot h kid ++ K2.flatMap (Lst.foot h))) := by
  simp only [Lst.foot]; rw [I.kk]; simp
theorem InF.flat (I : InF least most h t w A C K1 kid K2) : Lst.flat (h + 1) t = wl A (K1.map (Lst.flat h)) ++ Lst.flat h kid ++ wr C (K2.map (Lst.flat h)) := by
  show weave t.ps _ = _
  rw [I.ps, I.kk, List.map_append, List.map_cons]
  exact weave_at (by rw [List.length_map, I.len]) _ _ _
theorem InF.kid_nd (I : InF least most h t w A C K1 kid K2) : (Lst.foot h kid).Nodup := by
  have hd := I.nd
  rw [I.foot] at hd
  simp only [List.nodup_cons, List.nodup_append] at hd
  exact hd.2.2.1.1.2.1
theorem InF.b_kid (I : InF least most h t w A C K1 kid K2) : t.b ∉ Lst.foot h kid := by
  have hd := I.nd
  rw [I.foot] at hd
  simp only [List.nodup_cons, List.mem_append, not_or] at hd
  exact hd.1.2.1.2
theorem InF.b_pb (I : InF least most h t w A C K1 kid K2) : t.b ∉ t.pb := by
  have hd := I.nd
  rw [I.foot] at hd
  simp only [List.nodup_cons, List.mem_append, not_or] at hd
  exact hd.1.1.1
theorem InF.b_kb (I : InF least most h t w A C K1 kid K2) : t.b ∉ t.kb := by
  have hd := I.nd
  rw [I.foot] at hd
  simp only [List.nodup_cons, List.mem_append, not_or] at hd
  exact hd.1.1.2
theorem InF.pb_kb (I : InF least most h t w A C K1 kid K2) {y : Nat} (hy : y ∈ t.pb) : y ∉ t.kb := by
  have hd := I.nd
  rw [I.foot] at hd
  simp only [List.nodup_cons, List.nodup_append] at hd
  exact fun e => hd.2.1.2.2 y hy y e rfl
theorem InF.pb_kid (I : InF least most h t w A C K1 kid K2) {y : Nat} (hy : y ∈ t.pb) : y ∉ Lst.foot h kid := by
  have hd := I.nd
  rw [I.foot] at hd
  simp only [List.nodup_cons, List.nodup_append, List.mem_append] at hd
  exact fun e => hd.2.2.2 y (.inl hy) y (.inl (.inr e)) rfl
theorem InF.kb_kid (I : InF least most h t w A C K1 kid K2) {y : Nat} (hy : y ∈ t.kb) : y ∉ Lst.foot h kid := by
  have hd := I.nd
  rw [I.foot] at hd
  simp only [List.nodup_cons, List.nodup_append, List.mem_append] at hd
  exact fun e => hd.2.2.2 y (.inr hy) y (.inl (.inr e)) rfl
theorem InF.srt_kid (I : InF least most h t w A C K1 kid K2) : Srt (Lst.flat h kid) := by
  have hs := I.srt
  rw [I.flat] at hs
  exact (Srt.append.1 (Srt.append.1 hs).1).2.1
theorem InF.blw (I : InF least most h t w A C K1 kid K2) {key : ByteArray} (hA : Blw A key) : Blw (wl A (K1.map (Lst.flat h))) key := by
  have hs := I.srt
  rw [I.flat] at hs
  exact blw_wl (Srt.append.1 (Srt.append.1 hs).1).1 hA
theorem InF.abv (I : InF least most h t w A C K1 kid K2) {key : ByteArray} (hC : Abv C key) : Abv (wr C (K2.map (Lst.flat h))) key := by
  have hs := I.srt
  rw [I.flat] at hs
  exact abv_wr (Srt.append.1 hs).2.1 hC
theorem InF.ptl (I : InF least most h t w A C K1 kid K2) : ((kids t).map (·.b)).length = t.ps.length + 1 := by rw [List.length_map, I.shp.1]
theorem InF.other (I : InF least most h t w A C K1 kid K2) {w' : World} (ht : Tch (fun y => y = t.b ∨ y ∈ t.pb ∨ y ∈ t.kb ∨ y ∈ Lst.foot h kid) w w') : (∀ k ∈ K1, TAt w' h k) ∧ (∀ k ∈ K2, TAt w' h k) := by
  have hd := I.nd
  rw [I.foot] at hd
  simp only [List.nodup_cons, List.nodup_append, List.mem_append, List.mem_flatMap, not_or, not_exists, not_and] at hd
  obtain ⟨⟨⟨hb1, hb2⟩, ⟨hb3, hb4⟩, hb5⟩, ⟨hpp, hkk, hpk⟩, ⟨⟨hF1, hG, hFG⟩, hF2, hGF⟩, hx⟩ := hd
  constructor
  · intro k hk
    refine TAt.tch ht h k (I.here.2 k (by rw [I.kk]; simp [hk])) (fun y hy hS => ?_)
    rcases hS with rfl | hS | hS | hS
    · exact hb3 k hk hy
    · exact hx y (.inl hS) y (.inl (.inl ⟨k, hk, hy⟩)) rfl
    · exact hx y (.inr hS) y (.inl (.inl ⟨k, hk, hy⟩)) rfl
    · exact hFG y ⟨k, hk, hy⟩ y hS rfl
  · intro k hk
    refine TAt.tch ht h k (I.here.2 k (by rw [I.kk]; simp [hk])) (fun y hy hS => ?_)
    rcases hS with rfl | hS | hS | hS
    · exact hb5 k hk hy
    · exact hx y (.inl hS) y (.inr ⟨k, hk, hy⟩) rfl
    · exact hx y (.inr hS) y (.inr ⟨k, hk, hy⟩) rfl
    · exact hGF y (.inr hS) y ⟨k, hk, hy⟩ rfl
theorem InF.lt (I : InF least most h t w A C K1 kid K2) : ∀ y ∈ t.b :: (t.pb ++ t.kb ++ (K1.flatMap (Lst.foot h) ++ Lst.foot h kid ++ K2.flatMap (Lst.foot h))), y < w.heap.size := by
  have := TAt.lt (h + 1) t I.here
  rw [I.foot] at this
  exact this

theorem put_finA (I : InF least most h t w A C K1 kid K2) {key : ByteArray} {n : Int} (hA : Blw A key) (hC : Abv C key) {w' : World} {t' : MT h} (h1 : TAt w' h t') (h2 : t'.b = kid.b) (h3 : (Lst.foot h t').Nodup) (h4 : ∀ y ∈ Lst.foot h t', y ∈ Lst.foot h kid ∨ w.heap.size ≤ y)
    (h5 : Tch (· ∈ Lst.foot h kid) w w') (h6 : Lst.flat h t' = lput key n (Lst.flat h kid)) (h7 : Shp least most h t') (h8 : kid.ps.length ≤ t'.ps.length) (hsz : t'.ps.length ≤ most) : PutPost least most (h + 1) t key n w (.returned (retv (lget key (Lst.flat h kid)))) w' := by
  have hks := I.shp.2 kid I.mem
  have h5' : Tch (fun y => y = t.b ∨ y ∈ t.pb ∨ y ∈ t.kb ∨ y ∈ Lst.foot h kid) w w' := h5.mono (fun _ _ h => .inr (.inr (.inr h)))
  obtain ⟨o1, o2⟩ := I.other h5'
  have hptr : (kids t).map (·.b) = (K1 ++ t' :: K2).map (·.b) := by rw [I.kk]; simp [h2]
  have hnd : NdAt w' t.b t.pb (A ++ C) t.kb ((K1 ++ t' :: K2).map (·.b)) := by
    rw [← I.ps, ← hptr]
    exact I.here.1.tch h5 I.b_kid (fun y hy => I.pb_kid hy) (fun y hy => I.kb_kid hy)
  have hlt := TAt.lt h t' h1
  have hlw := I.lt
  have hs := h5.size
  have hnp : t.pb.Nodup ∧ t.kb.Nodup := by
    have hd := I.nd
    rw [I.foot] at hd
    simp only [List.nodup_cons, List.nodup_append] at hd
    exact ⟨hd.2.1.1, hd.2.1.2.1⟩
  have hfe : Lst.foot (h + 1) (mkT t.b t.pb (A ++ C) t.kb (K1 ++ t' :: K2)) = t.b :: (t.pb ++ t.kb ++ (K1.flatMap (Lst.foot h) ++ Lst.foot h t' ++ K2.flatMap (Lst.foot h))) := by
    simp [Lst.foot, mkT, kids]
  refine ⟨mkT t.b t.pb (A ++ C) t.kb (K1 ++ t' :: K2), ?_, ⟨hnd, ?_⟩, rfl, ?_, ?_, ?_, ?_, ⟨?_, ?_⟩, ?_, ?_⟩
  · rw [I.flat, lget_mid (I.blw hA) (I.abv hC)]
  · intro k hk
    rcases List.mem_append.1 hk with hk | hk
    · exact o1 k hk
    · rcases List.mem_cons.1 hk with rfl | hk
      · exact h1
      · exact o2 k hk
  · rw [hfe]
    have hd := I.nd
    rw [I.foot] at hd
    exact foot_nodup hd hlw hs (Nat.le_refl _) (fun y hy => .inl hy) hnp.1 (fun y hy => by have := hlw y (by simp [hy]); omega) (fun y hy => .inl hy) hnp.2 h4 h3 hlt
  · rw [hfe, I.foot]
    intro y hy
    simp only [List.mem_cons, List.mem_append] at hy ⊢
    rcases hy with hy | (hy | hy) | (hy | hy) | hy
    · exact .inl (.inl hy)
    · exact .inl (.inr (.inl (.inl hy)))
    · exact .inl (.inr (.inl (.inr hy)))
    · exact .inl (.inr (.inr (.inl (.inl hy))))
    · exact (h4 y hy).imp (fun h => .inr (.inr (.inl (.inr h)))) id
    · exact .inl (.inr (.inr (.inr hy)))
  · exact h5.mono (fun y _ hy => by rw [I.foot]; simp only [List.mem_cons, List.mem_append]; exact .inr (.inr (.inl (.inr hy))))
  · rw [I.flat, lput_mid (I.blw hA) (I.abv hC), ← h6]
    show weave (A ++ C) ((K1 ++ t' :: K2).map (flat h)) = _
    rw [List.map_append, List.map_cons]
    exact weave_at (by rw [List.length_map, I.len]) _ _ _
  · show (K1 ++ t' :: K2).length = (A ++ C).length + 1
    have := I.shp.1
    rw [I.kk, I.ps] at this
    simpa using this
  · intro k hk
    rcases List.mem_append.1 hk with hk | hk
    · exact I.shp.2 k (by rw [I.kk]; simp [hk])
    · rcases List.mem_cons.1 hk with rfl | hk
      · exact ⟨by omega, hsz, h7⟩
      · exact I.shp.2 k (by rw [I.kk]; simp [hk])
  · show t.ps.length ≤ (A ++ C).length
    rw [I.ps]; exact Nat.le_refl _
  · show (A ++ C).length ≤ t.ps.length + 1
    rw [I.ps]; omega

theorem put_finB (I : InF least most h t w A C K1 kid K2) {key : ByteArray} {n : Int} (hA : Blw A key) (hC : Abv C key) {w' : World} {L R : MT h} {m : Pair} {pb' kb' : List Nat} {N1 N2 : Nat}
    (hf : flat h L ++ m :: flat h R = lput key n (flat h kid)) (hL : TAt w' h L) (hR : TAt w' h R) (hLb : L.b = kid.b) (hLs : least ≤ L.ps.length ∧ L.ps.length ≤ most ∧ Shp least most h L) (hRs : least ≤ R.ps.length ∧ R.ps.length ≤ most ∧ Shp least most h R)
    (hn : (foot h L ++ foot h R).Nodup) (hg : ∀ y ∈ foot h L ++ foot h R, y ∈ foot h kid ∨ w.heap.size ≤ y) (hgl : ∀ y ∈ foot h L ++ foot h R, y < N1) (hN1 : w.heap.size ≤ N1) (hN2 : N1 ≤ N2)
    (hnd : NdAt w' t.b pb' (A ++ m :: C) kb' (K1.map (·.b) ++ kid.b :: R.b :: K2.map (·.b))) (hp : ∀ y ∈ pb', y ∈ t.pb ∨ N1 ≤ y) (hpl : ∀ y ∈ pb', y < N2) (hk : ∀ y ∈ kb', y ∈ t.kb ∨ N2 ≤ y)
    (ht : Tch (fun y => y = t.b ∨ y ∈ t.pb ∨ y ∈ t.kb ∨ y ∈ foot h kid) w w') : PutPost least most (h + 1) t key n w (.returned (retv (lget key (flat h kid)))) w' := by
  obtain ⟨o1, o2⟩ := I.other ht
  have hnp : pb'.Nodup ∧ kb'.Nodup := by obtain ⟨_, _, _, h1, h2⟩ := hnd; exact ⟨h1.nodup, h2.nodup⟩
  have hfe : Lst.foot (h + 1) (mkT t.b pb' (A ++ m :: C) kb' (K1 ++ L :: R :: K2)) = t.b :: (pb' ++ kb' ++ (K1.flatMap (Lst.foot h) ++ (Lst.foot h L ++ Lst.foot h R) ++ K2.flatMap (Lst.foot h))) := by
    simp [Lst.foot, mkT, kids]
  have hpe : K1.map (·.b) ++ kid.b :: R.b :: K2.map (·.b) = (K1 ++ L :: R :: K2).map (·.b) := by simp [hLb]
  refine ⟨mkT t.b pb' (A ++ m :: C) kb' (K1 ++ L :: R :: K2), ?_, ⟨hpe ▸ hnd, ?_⟩, rfl, ?_, ?_, ?_, ?_, ⟨?_, ?_⟩, ?_, ?_⟩
  · rw [I.flat, lget_mid (I.blw hA) (I.abv hC)]
  · intro k hk
    rcases List.mem_append.1 hk with hk | hk
    · exact o1 k hk
    · rcases List.mem_cons.1 hk with rfl | hk
      · exact hL
      · rcases List.mem_cons.1 hk with rfl | hk
        · exact hR
        · exact o2 k hk
  · rw [hfe]
    have hd := I.nd
    rw [I.foot] at hd
    exact foot_nodup hd I.lt hN1 hN2 hp hnp.1 hpl hk hnp.2 hg hn hgl
  · rw [hfe, I.foot]
    intro y hy
    simp only [List.mem_cons, List.mem_append] at hy hg ⊢
    rcases hy with hy | (hy | hy) | (hy | hy) | hy
    · exact .inl (.inl hy)
    · rcases hp y hy with h | h
      · exact .inl (.inr (.inl (.inl h)))
      · exact .inr (by omega)
    · rcases hk y hy with h | h
      · exact .inl (.inr (.inl (.inr h)))
      · exact .inr (by omega)
    · exact .inl (.inr (.inr (.inl (.inl hy))))
    · exact (hg y hy).imp (fun h => .inr (.inr (.inl (.inr h)))) id
    · exact .inl (.inr (.inr (.inr hy)))
  · refine ht.mono (fun y _ hy => ?_)
    rw [I.foot]; simp only [List.mem_cons, List.mem_append]
    rcases hy with h | h | h | h
    · exact .inl h
    · exact .inr (.inl (.inl h))
    · exact .inr (.inl (.inr h))
    · exact .inr (.inr (.inl (.inr h)))
  · rw [I.flat, lput_mid (I.blw hA) (I.abv hC), ← hf]
    show weave (A ++ m :: C) ((K1 ++ L :: R :: K2).map (flat h)) = _
    rw [List.map_append, List.map_cons, List.map_cons]
    exact weave_two (by rw [List.length_map, I.len]) _ _ _ _ _
  · show (K1 ++ L :: R :: K2).length = (A ++ m :: C).length + 1
    have := I.shp.1
    rw [I.kk, I.ps] at this
    simp at this ⊢; omega
  · intro k hk
    rcases List.mem_append.1 hk with hk | hk
    · exact I.shp.2 k (by rw [I.kk]; simp [hk])
    · rcases List.mem_cons.1 hk with rfl | hk
      · exact hLs
      · rcases List.mem_cons.1 hk with rfl | hk
        · exact hRs
        · exact I.shp.2 k (by rw [I.kk]; simp [hk])
  · show t.ps.length ≤ (A ++ m :: C).length
    rw [I.ps]; simp
  · show (A ++ m :: C).length ≤ t.ps.length + 1
    rw [I.ps]; simp; omega
end

theorem encKs_ins (X Y : List Nat) (c r n : Nat) (hn : n = X.length) : (encKs (X ++ c :: Y)).take ((n + 1) * 1) ++ [.pointer (some ⟨r, 0, none⟩)] ++ (encKs (X ++ c :: Y)).drop ((n + 1) * 1) = encKs (X ++ c :: r :: Y) := by
  subst hn
  rw [Nat.mul_one, encKs_take, encKs_drop]
  have e : X ++ c :: Y = (X ++ [c]) ++ Y := by simp
  have hl : X.length + 1 = (X ++ [c]).length := by simp
  rw [e, hl, List.take_left, List.drop_left]
  simp [encKs]

theorem retv_tuple (o : Option Int) : ∃ (old : Int) (was : Bool), retv o = .tuple #[.int .i64 old, .bool was] := by
  cases o with
  | none => exact ⟨0, false, rfl⟩
  | some m => exact ⟨m, true, rfl⟩

set_option maxRecDepth 100000 in
set_option maxHeartbeats 2000000 in
theorem put_in {least most h : Nat} (hm2 : 2 ≤ most) (hlm : 2 * least ≤ most) (hm : most ≤ 64) (ih : PutOk least most h) {t : MT (h + 1)} {w : World} (xb : Nat) (rv lv : Value) (key : ByteArray) (n : Int) {A C : List Pair} {K1 : List (MT h)} {kid : MT h} {K2 : List (MT h)}
    (I : InF least most h t w A C K1 kid K2)
    (hx : Blk w xb [.int .i64 most, .int .i64 least, rv, lv] 64) (hxn : xb ∉ foot (h + 1) t) (hlen : t.ps.length ≤ most) (hA : Blw A key) (hC : Abv C key) :
    Calls Try.prog 27 #[.pointer (some ⟨xb, 0, none⟩), .pointer (some ⟨t.b, 0, none⟩), .agg #[.string key, .int .i64 n]] w (PutPost least most (h + 1) t key n w) := by
  have hsp := srt_node I.srt
  obtain ⟨pv, kv, hb, hp, hk⟩ := I.here.1
  have hfind := fun w' (ht : Tch (fun _ => False) w w') => find_any (ht.get hb (fun h => h)) (hp.tch ht (fun _ _ h => h)) (by omega) key hsp
  obtain ⟨hkl, hkm, hks⟩ := I.shp.2 kid I.mem
  have hptl := I.ptl
  obtain ⟨r, kc, ksp, rfl, hkb, hr, hrl, hrc, hrn⟩ := hk.pos (by omega)
  obtain ⟨pa, pc, rfl, hpc⟩ := hp.val
  have hkc : w.cell? ⟨r, A.length, none⟩ = some (.pointer (some ⟨kid.b, 0, none⟩)) := by
    rw [hr.cell]
    exact encKs_get (by rw [I.kk, List.map_append, List.map_cons, List.getElem?_append_right (by rw [List.length_map, I.len]; omega), List.length_map, I.len]; simp) ksp
  have hxk : xb ∉ foot h kid := fun e => hxn (by rw [I.foot]; simp [e])
  have hxb : ¬ xb = t.b := fun e => hxn (by rw [I.foot]; simp [e])
  have hbk := I.b_kid
  have hrec := fun (w' : World) (ht : Tch (fun _ => False) w w') => ih kid w' xb rv lv key n (TAt.tch ht h kid (I.here.2 kid I.mem) (fun _ _ h => h)) I.kid_nd (ht.get hx (fun h => h)) hxk hks hkm I.srt_kid
  have hrk : r ∈ t.kb := by rw [hkb]; simp
  have hrf : r ∉ foot h kid := I.kb_kid hrk
  have l1 := hb.lt
  have l2 := hr.lt
  have l3 := hx.lt
  have hAl : A.length ≤ t.ps.length := by rw [I.ps, List.length_append]; omega
  have hpz : ((((kids t).map (·.b)).length : Int) == 0) = false := by rw [hptl]; simp; omega
  have hA0 : (0 : Int) ≤ (A.length : Int) := by omega
  have hA1 : (A.length : Int) < (((kids t).map (·.b)).length : Int) := by rw [hptl]; omega
  generalize hPL : ((kids t).map (·.b)).length = pl at *
  have Hb := Lib.hid hb; have Hp := Lib.hid hp; have Hk := Lib.hid hk; have HF := Lib.hid hfind; have HR := Lib.hid hrec; have Hr := Lib.hid hr; have Hx := Lib.hid hx; have HPL := Lib.hid hPL; have Hptl := Lib.hid hptl
  have HA := Lib.hid hA; have HC := Lib.hid hC; have HI := Lib.hid I; have Hkb := Lib.hid hkb; have HXK := Lib.hid hxk
  clear hb hp hk hfind hrec hr hx hA hC hsp hks hptl hkb hrl hrc hxn hxk hrk hPL I ih
  go_enter Try.func27, Try.ntmps27
  go_wp2_with fail
  refine (HF.out _ (Tch.alloc _ _ _)).mono ?_
  rintro e w1 ⟨⟨A', C', hA', hC', ⟨m', h', rfl⟩ | ⟨h', rfl⟩⟩, ht⟩
  · exact (not_both (h'.symm.trans HI.out.ps) HA.out HC.out).elim
  · obtain ⟨rfl, rfl⟩ := same_split' (HI.out.ps.symm.trans h') HA.out HC.out hA' hC'
    have lt1 : w.heap.size + 1 ≤ w1.heap.size := by have := ht.size; simpa using this
    have hb1 := ht.get (Hb.out.alloc _) (fun h => h)
    have hr1 := ht.get (Hr.out.alloc _) (fun h => h)
    have hP1 : Blk w1 w.heap.size _ 67 := ht.get (Blk.new w [.string key, .int .i64 n] 67) (fun h => h)
    have c0 : w1.cell? ⟨t.b, 0, none⟩ = some (.slice pa t.ps.length pc) := hb1.cell 0
    have c1 : w1.cell? ⟨t.b, 1, none⟩ = some (.slice (some ⟨r, 0, none⟩) pl kc) := hb1.cell 1
    have k1 : w1.cell? ⟨r, A.length, none⟩ = some (.pointer (some ⟨kid.b, 0, none⟩)) := ((hr1.cell _).trans (Hr.out.cell _).symm).trans hkc
    have p0 : w1.cell? ⟨w.heap.size, 0, none⟩ = some (.string key) := hP1.cell 0
    have p1 : w1.cell? ⟨w.heap.size, 1, none⟩ = some (.int .i64 n) := hP1.cell 1
    have t01 : Tch (fun _ => False) w w1 := (Tch.alloc _ w _).trans ht (fun _ _ h => h)
    have T01 := Lib.hid t01; have HB1 := Lib.hid hb1; have HR1 := Lib.hid hr1
    have l11 : t.b < w1.heap.size := by omega
    have l12 : w.heap.size < w1.heap.size := by omega
    clear ht hb1 hP1 hr1 t01 h' hA' hC' hkc
    go_wp2_with (go_at_call 30; refine (leaf_any _ _ _ _ _ _ HB1.out).mono ?_; rintro e w3 ⟨rfl, rfl⟩)
    refine (HR.out _ T01.out).mono ?_
    intro e w2 hput
    have hput0 := hput
    obtain ⟨t', rfl, h1, h2, h3, h4, h5, h6, h7, h8, h9⟩ := hput
    have t02 : Tch (· ∈ foot h kid) w w2 := (T01.out.mono (fun _ _ h => h.elim)).trans h5 (fun _ _ h => h)
    have hputw : PutPost least most h kid key n w (.returned (retv (lget key (flat h kid)))) w2 := ⟨t', rfl, h1, h2, h3, fun y hy => (h4 y hy).imp id (fun h => by omega), t02, h6, h7, h8, h9⟩
    have hb2 := t02.get Hb.out hbk
    have hx2 := t02.get Hx.out HXK.out
    have hr2 := t02.get Hr.out hrf
    obtain ⟨ptrs', hnd'⟩ := TAt.nd h1
    rw [h2] at hnd'
    obtain ⟨pv', kv', hkb2, hkp2, hkk2⟩ := hnd'
    obtain ⟨qa, qc, rfl, _⟩ := hkp2.val
    have c0' : w2.cell? ⟨t.b, 0, none⟩ = some (.slice pa t.ps.length pc) := hb2.cell 0
    have c1' : w2.cell? ⟨t.b, 1, none⟩ = some (.slice (some ⟨r, 0, none⟩) pl kc) := hb2.cell 1
    have k0' : w2.cell? ⟨kid.b, 0, none⟩ = some (.slice qa t'.ps.length qc) := hkb2.cell 0
    have m0' : w2.cell? ⟨xb, 0, none⟩ = some (.int .i64 most) := hx2.cell 0
    obtain ⟨old, was, hret⟩ := retv_tuple (lget key (flat h kid))
    rw [hret]
    have s12 := h5.size
    have Hret := Lib.hid hret; have HPW := Lib.hid hputw; have HB2 := Lib.hid hb2; have HX2 := Lib.hid hx2; have HR2 := Lib.hid hr2; have HT2 := Lib.hid t02; have HAT := Lib.hid h1; have HBE := Lib.hid h2; have HND := Lib.hid h3; have HSUB := Lib.hid h4; have HFL := Lib.hid h6; have HSH := Lib.hid h7
    clear hret hputw hb2 hx2 hr2 t02 h1 h2 h3 h4 h5 h6 h7 hput0 hkb2 hkp2 hkk2 c0 c1 k1 p0 p1
    by_cases hbig : most < t'.ps.length
    · have hbig' : decide ((most : Int) < (t'.ps.length : Int)) = true := by simp; omega
      go_wp2_with fail
      go_quiet (fail)
      go_wp2_with fail
      have tq : Tch (fun _ => False) w2 (w2.drewN nq) := ⟨rfl, rfl, rfl, Nat.le_refl _, fun _ _ _ => rfl⟩
      rw [← HBE.out]
      refine (cut_any least most (TAt.tch tq h t' HAT.out (fun _ _ h => h)) HND.out (by omega) (by omega) HSH.out).mono ?_
      rintro e w3 ⟨L, R, m, rfl, g1, g2, g3, g4, g5, g6, g7, g8, g9, g10, g11⟩
      have s23 := g11.size
      rw [show (w2.drewN nq).heap.size = w2.heap.size from rfl] at s23
      have hne : ¬ t.b = t'.b := fun e => hbk (by rw [e, HBE.out]; exact foot_b h kid)
      have hner : ¬ r = t'.b := fun e => hrf (by rw [e, HBE.out]; exact foot_b h kid)
      have t23 : Tch (· = t'.b) w2 w3 := (tq.mono (fun _ _ h => h.elim)).trans g11 (fun _ _ h => h)
      have hb3 := t23.get HB2.out hne
      have hr3 := t23.get HR2.out hner
      have v0 : w3.cell? ⟨t.b, 0, none⟩ = some (.slice pa t.ps.length pc) := hb3.cell 0
      have v1 : w3.cell? ⟨t.b, 1, none⟩ = some (.slice (some ⟨r, 0, none⟩) pl kc) := hb3.cell 1
      have HB3 := Lib.hid hb3; have HR3 := Lib.hid hr3; have T23 := Lib.hid t23
      have G1 := Lib.hid g1; have G2 := Lib.hid g2; have G3 := Lib.hid g3; have G4 := Lib.hid g4; have G5 := Lib.hid g5; have G6 := Lib.hid g6; have G7 := Lib.hid g7; have G8 := Lib.hid g8; have G9 := Lib.hid g9; have G10 := Lib.hid g10
      have l13 : t.b < w3.heap.size := by omega
      clear g1 g2 g3 g4 g5 g6 g7 g8 g9 g10 g11 hb3 hr3 t23 tq c0' c1' k0' m0'
      go_wp2_with fail
      have hpS := (((Hp.out.tch HT2.out (fun y hy => HI.out.pb_kid hy)).tch T23.out (fun y hy e => by
        have := HI.out.pb_kid hy
        rw [e, HBE.out] at this
        exact this (foot_b h kid))).alloc (.cells #[.string m.1, .int .i64 m.2] 67)).drew.alloc (.cells #[.string m.1, .int .i64 m.2] 67)
      have hxx : Blk ((w3.alloc (.cells #[.string m.1, .int .i64 m.2] 67)).drew.alloc (.cells #[.string m.1, .int .i64 m.2] 67)) (w3.heap.size + 1) [.string m.1, .int .i64 m.2] 67 := Blk.newLast _ _ (by simp)
      have hxn : w3.heap.size + 1 ∉ t.pb := fun hy => by have := Hp.out.lt _ hy; omega
      have HC36 := Lib.hid (insP_any hpS (by omega) A.length hAl (w3.heap.size + 1) 1 [.string m.1, .int .i64 m.2] hxx rfl (by simp; exact ⟨rfl, rfl⟩) (encPs_one t.ps) hxn)
      have hB36 := (HB3.out.alloc (.cells #[.string m.1, .int .i64 m.2] 67)).drew.alloc (.cells #[.string m.1, .int .i64 m.2] 67)
      have HB36 := Lib.hid hB36
      clear hpS hxx hxn hB36
      have HBP := Lib.hid HI.out.b_pb
      go_region_with (go_at_call 36; refine HC36.out.mono ?_; rintro e w4 ⟨v4, bl4, rfl, hs4, ht4, hn4⟩; obtain ⟨a4, n4, rfl, _⟩ := hs4.val; have hb4 := ht4.get HB36.out HBP.out; have g0 := hb4.cell 0; have g1 := hb4.frozen 0; have HT4 := Lib.hid ht4; have HS4 := Lib.hid hs4; have HN4 := Lib.hid hn4; have HB4 := Lib.hid hb4; clear ht4 hs4 hn4 hb4)
      all_goals (
        have hb5 := HB4.out.setC 0 (.slice a4 (t.ps.length + 1) n4)
        have z5 : (w4.setCell ⟨t.b, 0, none⟩ (.slice a4 (t.ps.length + 1) n4)).heap.size = w4.heap.size := World.size_setCell _ _ _
        have t34 : Tch (· ∈ t.pb) w3 w4 := (((Tch.alloc (· ∈ t.pb) w3 _).trans (Tch.drew _ _) (fun _ _ h => h)).trans (Tch.alloc _ _ _) (fun _ _ h => h)).trans HT4.out (fun _ _ h => h)
        have t45 : Tch (fun y => y = t.b) w4 (w4.setCell ⟨t.b, 0, none⟩ (.slice a4 (t.ps.length + 1) n4)) := Tch.setCell (S := fun y => y = t.b) w4 (a := ⟨t.b, 0, none⟩) rfl _
        have hs5 := HS4.out.tch t45 (fun y hy e => by
          subst e
          rcases HN4.out _ hy with h | h
          · exact HI.out.b_pb h
          · simp at h; omega)
        generalize w4.setCell ⟨t.b, 0, none⟩ (.slice a4 (t.ps.length + 1) n4) = w5 at *
        have hk5 := (((Hk.out.tch HT2.out (fun y hy => HI.out.kb_kid hy)).tch T23.out (fun y hy e => by
          have := HI.out.kb_kid hy
          rw [e, HBE.out] at this
          exact this (foot_b h kid))).tch t34 (fun y hy h => HI.out.pb_kb h hy)).tch t45 (fun y hy e => HI.out.b_kb (e ▸ hy))
        have s34 := t34.size
        have hl4 := HS4.out.lt
        have hxx : Blk (w5.alloc (.cells #[.pointer (some ⟨R.b, 0, none⟩)] 58)) w5.heap.size [.pointer (some ⟨R.b, 0, none⟩)] 58 := Blk.newLast _ _ rfl
        have hpl5 : pl = t.ps.length + 1 := HPL.out.symm.trans (by rw [HPL.out]; exact Hptl.out)
        have hxn : w5.heap.size ∉ t.kb := fun hy => by have := Hk.out.lt _ hy; omega
        have hc37 := insN_any (hk5.alloc (.cells #[.pointer (some ⟨R.b, 0, none⟩)] 58)) (by omega) (A.length + 1) (by omega) w5.heap.size 1 [.pointer (some ⟨R.b, 0, none⟩)] hxx rfl (by simp; rfl) (encKs_one _) hxn
        rw [show ((A.length + 1 : Nat) : Int) = (A.length : Int) + 1 from by omega] at hc37
        have w0 : w5.cell? ⟨t.b, 1, none⟩ = some (.slice (some ⟨r, 0, none⟩) pl kc) := hb5.cell 1
        have l15 : t.b < w5.heap.size := by omega
        have HC37 := Lib.hid hc37; have HB5 := Lib.hid hb5; have HS5 := Lib.hid hs5; have HK5 := Lib.hid hk5; have T34 := Lib.hid t34; have T45 := Lib.hid t45; have Z5 := Lib.hid z5; have HPL5 := Lib.hid hpl5; have HL4 := Lib.hid hl4
        clear hc37 hb5 hs5 hk5 t34 t45 z5 hpl5 hl4 hxx hxn g0 g1 v0 v1
        go_wp2_with fail
        refine HC37.out.mono ?_
        rintro e w6 ⟨v6, bl6, rfl, hs6, ht6, hn6⟩
        obtain ⟨a6, n6, rfl, _⟩ := hs6.val
        have hb6 := ht6.get (HB5.out.alloc _) HI.out.b_kb
        have x0 : w6.cell? ⟨t.b, 1, none⟩ = some (.slice (some ⟨r, 0, none⟩) pl kc) := hb6.cell 1
        have x1 : w6.frozen? ⟨t.b, 1, none⟩ = false := hb6.frozen 1
        have HT6 := Lib.hid ht6; have HS6 := Lib.hid hs6; have HN6 := Lib.hid hn6; have HB6 := Lib.hid hb6
        clear ht6 hs6 hn6 hb6 w0
        go_wp2_with fail
        go_ret2
        have tF := Tch.setCell (S := fun y => y = t.b) w6 (a := ⟨t.b, 1, none⟩) rfl (.slice a6 (pl + 1) n6)
        have hbF := HB6.out.setC 1 (.slice a6 (pl + 1) n6)
        generalize w6.setCell ⟨t.b, 1, none⟩ (.slice a6 (pl + 1) n6) = wF at *
        have t56 : Tch (fun y => y = t.b ∨ y ∈ t.kb) w5 w6 := (Tch.alloc _ w5 _).trans HT6.out (fun _ _ h => .inr h)
        have t5F := t56.trans tF (fun _ _ h => .inl h)
        have tTot : Tch (fun y => y = t.b ∨ y ∈ t.pb ∨ y ∈ t.kb) w3 wF := ((T34.out.mono (fun _ _ h => .inr (.inl h))).trans T45.out (fun _ _ h => .inl h)).trans t5F (fun _ _ h => h.imp id .inr)
        have hsub : ∀ y ∈ foot h L ++ foot h R, y ∈ foot h kid ∨ w.heap.size ≤ y := fun y hy => by
          rcases G10.out y hy with h | h
          · exact (HSUB.out y h).imp id (fun h => by omega)
          · rw [show (w2.drewN nq).heap.size = w2.heap.size from rfl] at h
            exact .inr (by omega)
        have hltw := HI.out.lt
        have hdis : ∀ y ∈ foot h L ++ foot h R, ¬ (y = t.b ∨ y ∈ t.pb ∨ y ∈ t.kb) := fun y hy hS => by
          rcases hsub y hy with h | h
          · rcases hS with rfl | hS | hS
            · exact hbk h
            · exact HI.out.pb_kid hS h
            · exact HI.out.kb_kid hS h
          · have := hltw y (by simp only [List.mem_cons, List.mem_append]; rcases hS with h | h | h; (exact .inl h); (exact .inr (.inl (.inl h))); exact .inr (.inl (.inr h)))
            omega
        have hlL := TAt.lt h L G1.out
        have hlR := TAt.lt h R G2.out
        have hn4 := HN4.out
        have hn6 := HN6.out
        simp only [World.size_alloc, World.size_drew] at hn4 hn6
        have z5 := Z5.out
        have s34 := T34.out.size
        have hps := HI.out.ps
        have hptl := Hptl.out
        have hpl := HPL.out
        have hcl : ∀ y, (y = t.b ∨ y ∈ t.kb) → y < w.heap.size := fun y hS => hltw y (by simp only [List.mem_cons, List.mem_append]; exact hS.imp id (fun h => .inl (.inr h)))
        have hsF := HS5.out.tch t5F (fun y hy hS => by
          rcases hn4 y hy with h | h
          · rcases hS with rfl | hS
            · exact HI.out.b_pb h
            · exact HI.out.pb_kb h hS
          · have := hcl y hS; omega)
        have hkF := HS6.out.tch tF (fun y hy hS => by
          rcases hn6 y hy with h | h
          · exact HI.out.b_kb (hS ▸ h)
          · omega)
        have hlenA : (A ++ m :: C).length = t.ps.length + 1 := by rw [hps]; simp; omega
        have hlenK : (K1.map (·.b) ++ kid.b :: R.b :: K2.map (·.b)).length = pl + 1 := by
          rw [← hpl, HI.out.kk]; simp; omega
        have hK1 := HI.out.len
        have hkk := HI.out.kk
        have hfin := put_finB HI.out HA.out HC.out (n := n) (w' := wF) (L := L) (R := R) (m := m) (pb' := bl4) (kb' := bl6) (N1 := w3.heap.size) (N2 := w4.heap.size)
          (G4.out.symm.trans HFL.out) (TAt.tch tTot h L G1.out (fun y hy => hdis y (List.mem_append_left _ hy))) (TAt.tch tTot h R G2.out (fun y hy => hdis y (List.mem_append_right _ hy))) (G3.out.trans HBE.out)
          ⟨by have := G5.out; omega, by have := G5.out; omega, G7.out⟩ ⟨by have := G6.out; omega, by have := G6.out; omega, G8.out⟩ G9.out hsub (fun y hy => by
            rcases List.mem_append.1 hy with h | h
            · exact hlL y h
            · exact hlR y h) (by omega) s34
          ⟨_, _, hbF, by rw [hlenA, ← enc_ins m.1 m.2, ← hps]; exact hsF, by rw [hlenK, ← encKs_ins (K1.map (·.b)) (K2.map (·.b)) kid.b R.b A.length (by rw [List.length_map, hK1])]; rw [hkk, List.map_append, List.map_cons] at hkF; exact hkF⟩
          (fun y hy => (hn4 y hy).imp id (fun h => by omega)) HL4.out (fun y hy => (hn6 y hy).imp id (fun h => by omega))
          (((HT2.out.mono (fun _ _ h => .inr (.inr (.inr h)))).trans T23.out (fun y _ hy => .inr (.inr (.inr (by rw [hy, HBE.out]; exact foot_b h kid))))).trans tTot (fun y _ hy => hy.imp id (fun h => h.imp id .inl)))
        rw [Hret.out] at hfin
        exact hfin)
    · have hbig' : decide ((most : Int) < (t'.ps.length : Int)) = false := by simp; omega
      go_wp2_with fail
      go_quiet (fail)
      go_wp2_with fail
      go_ret2
      have tq : Tch (fun _ => False) w2 (w2.drewN nq) := ⟨rfl, rfl, rfl, Nat.le_refl _, fun _ _ _ => rfl⟩
      have hfin := put_finA HI.out HA.out HC.out (n := n) (TAt.tch tq h t' HAT.out (fun _ _ h => h)) HBE.out HND.out (fun y hy => (HSUB.out y hy).imp id (fun h => by omega)) (HT2.out.trans tq (fun _ _ h => h.elim)) HFL.out HSH.out h8 (by omega)
      rw [Hret.out] at hfin
      exact hfin

theorem put_ok {least most : Nat} (hm2 : 2 ≤ most) (hlm : 2 * least ≤ most) (hm : most ≤ 64) : ∀ h, PutOk least most h
  | 0 => put_zero least most hm
  | h + 1 => by
    have ih := put_ok hm2 hlm hm h
    intro t w xb rv lv key n ha hd hx hxn hsh hlen hs
    rcases split_exists key (srt_node hs) with ⟨A, m, C, hps, hA, hC⟩ | ⟨A, C, hps, hA, hC⟩
    · have hnd := ha.1
      have hd' := hd
      simp only [foot, List.nodup_cons, List.mem_append, not_or, List.nodup_append] at hd'
      have h1 : NdAt w t.b t.pb (A ++ (key, m) :: C) t.kb ((kids t).map (·.b)) := hps ▸ hnd
      have hflat : flat (h + 1) t = weave (A ++ (key, m) :: C) ((kids t).map (flat h)) := by
        show weave t.ps _ = _
        rw [hps]
      -- the kids ahead of the pair and those behind
      obtain ⟨X, Y, hXY, hX⟩ : ∃ X Y, (kids t).map (flat h) = X ++ Y ∧ X.length = A.length + 1 := by
        refine ⟨((kids t).map (flat h)).take (A.length + 1), _, (List.take_append_drop _ _).symm, ?_⟩
        rw [List.length_take, List.length_map, hsh.1, hps]; simp
      have hcut : ∀ q : Pair, weave (A ++ q :: C) ((kids t).map (flat h)) = weave A X ++ q :: weave C Y := by
        intro q
        rw [hXY]
        have hne : X ≠ [] := by intro e; rw [e] at hX; simp at hX
        rw [← List.dropLast_concat_getLast hne, List.append_assoc]
        exact weave_cut (by rw [List.length_dropLast, hX]; rfl) _ _ _ _
      rw [hflat, hcut] at hs
      have hs1 := Srt.append.1 hs
      have hbl : Blw (weave A X) key := fun p hp => hs1.2.2 p hp (key, m) (by simp)
      refine (put_here _ key n m A C h1 (by rw [← hps]; omega) hd'.1.1.1 (fun y hy hy' => hd'.2.1.2.2 y hy y hy' rfl) (hps ▸ srt_node (h := h + 1) (t := t) (by rw [hflat, hcut]; exact hs)) hA).mono ?_
      rintro e w' ⟨rfl, h2, ht⟩
      refine ⟨mkT t.b t.pb (A ++ (key, n) :: C) t.kb (kids t), ?_, ⟨h2, fun k hk => TAt.tch ht h k (ha.2 k hk) (fun y hy hS => hd'.2.2.2 y (.inl hS) y (List.mem_flatMap.2 ⟨k, hk, hy⟩) rfl)⟩, rfl, hd, fun y hy => .inl hy,
        ht.mono (fun y _ h => by simp only [foot, List.mem_cons, List.mem_append]; exact .inr (.inl (.inl h))), ?_, ⟨?_, hsh.2⟩, ?_, ?_⟩
      · rw [hflat, hcut, lget_here hbl]; rfl
      · show weave (A ++ (key, n) :: C) ((kids t).map (flat h)) = _
        rw [hflat, hcut, hcut, lput_here hbl]
      · show (kids t).length = (A ++ (key, n) :: C).length + 1
        rw [hsh.1, hps]; simp
      · show t.ps.length ≤ (A ++ (key, n) :: C).length
        rw [hps]; simp
      · show (A ++ (key, n) :: C).length ≤ t.ps.length + 1
        rw [hps]; simp
    · obtain ⟨K1, kid, K2, I⟩ := InF.mk' hps ha hd hsh hs
      exact put_in hm2 hlm hm ih xb rv lv key n I hx hxn hlen hA hC
end Go.Proofs.Ytkhjhcbmefahkaa
