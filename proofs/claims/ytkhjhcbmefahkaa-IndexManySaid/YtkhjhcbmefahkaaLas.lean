/-
  last: the last pair below a node is taken away.
-/
import Derived.Test.YtkhjhcbmefahkaaFtr
namespace Go.Proofs.Ytkhjhcbmefahkaa
open Go.RowKit Go.Mm Go.Lst

theorem foot_kid {h : Nat} {t : MT (h + 1)} {K1 K2 : List (MT h)} {kid : MT h} (hkk : kids t = K1 ++ kid :: K2) :
    (foot (h + 1) t).Perm (foot h kid ++ (t.b :: (t.pb ++ t.kb) ++ (K1.flatMap (foot h) ++ K2.flatMap (foot h)))) := by
  refine List.perm_iff_count.2 (fun a => ?_)
  simp only [foot, hkk, List.flatMap_append, List.flatMap_cons, List.count_append, List.count_cons]
  omega

/-- a kid has turned, and nothing else of the node -/
theorem swap_kid {h : Nat} {t : MT (h + 1)} {K1 K2 : List (MT h)} {kid kid' : MT h} {w w1 : World} (hkk : kids t = K1 ++ kid :: K2) (ha : TAt w (h + 1) t) (hn : (foot (h + 1) t).Nodup) (ht : Tch (· ∈ foot h kid) w w1)
    (h1 : TAt w1 h kid') (h2 : kid'.b = kid.b) (h3 : (foot h kid').Nodup) (h4 : ∀ y ∈ foot h kid', y ∈ foot h kid ∨ w.heap.size ≤ y) :
    TAt w1 (h + 1) (mkT t.b t.pb t.ps t.kb (K1 ++ kid' :: K2)) ∧ (foot (h + 1) (mkT t.b t.pb t.ps t.kb (K1 ++ kid' :: K2))).Nodup ∧ (∀ y ∈ foot (h + 1) (mkT t.b t.pb t.ps t.kb (K1 ++ kid' :: K2)), y ∈ foot (h + 1) t ∨ w.heap.size ≤ y) ∧
    Tch (· ∈ foot (h + 1) t) w w1 := by
  have hp := foot_kid hkk
  have hp' := foot_kid (t := mkT t.b t.pb t.ps t.kb (K1 ++ kid' :: K2)) (K1 := K1) (K2 := K2) (kid := kid') rfl
  have hnd := hp.nodup_iff.1 hn
  have hlt : ∀ y ∈ foot h kid ++ (t.b :: (t.pb ++ t.kb) ++ (K1.flatMap (foot h) ++ K2.flatMap (foot h))), y < w.heap.size := fun y hy => TAt.lt _ _ ha y (hp.mem_iff.2 hy)
  have hap : ∀ y ∈ t.b :: (t.pb ++ t.kb) ++ (K1.flatMap (foot h) ++ K2.flatMap (foot h)), ¬ y ∈ foot h kid := fun y hy e => (List.nodup_append.1 hnd).2.2 y e y hy rfl
  simp only [List.mem_append, List.mem_cons, List.mem_flatMap] at hap
  refine ⟨⟨?_, fun k hk => ?_⟩, hp'.nodup_iff.2 (nodup_beside hnd hlt h3 h4), fun y hy => ?_, ht.mono (fun y _ hy => hp.mem_iff.2 (List.mem_append_left _ hy))⟩
  · have hA := ha.1
    rw [hkk] at hA
    have e : (kids (mkT t.b t.pb t.ps t.kb (K1 ++ kid' :: K2))).map (·.b) = (K1 ++ kid :: K2).map (·.b) := by
      show (K1 ++ kid' :: K2).map (·.b) = _
      simp only [List.map_append, List.map_cons, h2]
    rw [e]
    exact NdAt.tch hA ht (hap _ (.inl (.inl rfl))) (fun y hy => hap y (.inl (.inr (.inl hy)))) (fun y hy => hap y (.inl (.inr (.inr hy))))
  · rcases List.mem_append.1 (show k ∈ K1 ++ kid' :: K2 from hk) with hk | hk
    · exact TAt.tch ht h k (ha.2 k (by rw [hkk]; simp [hk])) (fun y hy => hap y (.inr (.inl ⟨k, hk, hy⟩)))
    · rcases List.mem_cons.1 hk with rfl | hk
      · exact h1
      · exact TAt.tch ht h k (ha.2 k (by rw [hkk]; simp [hk])) (fun y hy => hap y (.inr (.inr ⟨k, hk, hy⟩)))
  · rcases List.mem_append.1 (hp'.mem_iff.1 hy) with hy | hy
    · exact (h4 y hy).imp (fun h => hp.mem_iff.2 (List.mem_append_left _ h)) id
    · exact .inl (hp.mem_iff.2 (List.mem_append_right _ hy))

def LastPost (least most h : Nat) (t : MT h) (w : World) (e : Ending) (w' : World) : Prop :=
  ∃ (p : Pair) (t' : MT h), e = .returned (.agg #[.string p.1, .int .i64 p.2]) ∧ flat h t = flat h t' ++ [p] ∧ TAt w' h t' ∧ t'.b = t.b ∧ (foot h t').Nodup ∧ (∀ y ∈ foot h t', y ∈ foot h t ∨ w.heap.size ≤ y) ∧ Tch (· ∈ foot h t) w w' ∧
    Shp least most h t' ∧ t'.ps.length ≤ t.ps.length ∧ t.ps.length ≤ t'.ps.length + 1

def LastOk (least most h : Nat) : Prop := ∀ (t : MT h) (w : World) (xb : Nat) (rv lv : Value), TAt w h t → (foot h t).Nodup →
  Blk w xb [.int .i64 most, .int .i64 least, rv, lv] 64 → xb ∉ foot h t → Shp least most h t → 1 ≤ t.ps.length → t.ps.length ≤ most →
  Calls Try.prog 44 #[.pointer (some ⟨xb, 0, none⟩), .pointer (some ⟨t.b, 0, none⟩)] w (LastPost least most h t w)

theorem cutTo' {w : World} {T k b cap n : Nat} {bl : List Nat} {L : List Value} (h : Sl w T k (.slice (some ⟨b, 0, none⟩) n cap) bl n L) (hn : 0 < n) (m : Nat) (hm : m ≤ n) : Sl w T k (.slice (some ⟨b, 0, none⟩) m cap) bl m (L.take (m * k)) := by
  obtain ⟨a, cap', he, h2⟩ := Sl.cutTo h hn m hm
  simp only [Value.slice.injEq] at he
  obtain ⟨rfl, _, rfl⟩ := he
  exact h2

set_option maxHeartbeats 1000000 in
theorem last_zero (least most : Nat) (hm : most ≤ 64) : LastOk least most 0 := by
  intro t w xb rv lv ha hd hx hxn hsh h1 hlen
  have hne : t.ps ≠ [] := by intro e; rw [e] at h1; simp at h1
  have hps : t.ps = t.ps.dropLast ++ [t.ps.getLast hne] := (List.dropLast_concat_getLast hne).symm
  generalize t.ps.dropLast = lps at hps
  generalize t.ps.getLast hne = x at hps
  have hll : t.ps.length = lps.length + 1 := by rw [hps]; simp
  obtain ⟨pv, kv, hb, hp, hk⟩ := ha
  obtain ⟨q, cap, sp, rfl, hpb, hq, hql, hqc, hqn⟩ := hp.pos (by omega)
  obtain ⟨ka, kc, rfl, _⟩ := hk.val
  have hxp : t.ps[lps.length]? = some x := by rw [hps]; simp
  have hd' := hd
  simp only [foot, List.nodup_cons, List.mem_append, not_or] at hd'
  have d0 := (hq.cell _).trans (encPs_get hxp sp).1
  have d1 := (hq.cell _).trans (encPs_get hxp sp).2
  have c0 : w.cell? ⟨t.b, 0, none⟩ = some (.slice (some ⟨q, 0, none⟩) t.ps.length cap) := hb.cell 0
  have f0 : w.frozen? ⟨t.b, 0, none⟩ = false := hb.frozen 0
  have l1 := hb.lt
  have l2 := hq.lt
  have z0 : (([] : List Nat).length : Int) = 0 := rfl
  have q1 : lps.length < t.ps.length := by omega
  have q2 : lps.length ≤ cap := by omega
  have hne1 : ¬ t.b = w.heap.size := by omega
  have hne2 : ¬ t.b = w.heap.size + 1 := by omega
  have HB := Lib.hid hb; have HP := Lib.hid hp; have HK := Lib.hid hk; have HPS := Lib.hid hps; have HD := Lib.hid hd'; have HPB := Lib.hid hpb
  have HND := Lib.hid hd
  clear hb hp hk hps hd' hxp hpb hq hql hqc hd hx hxn hsh
  go_enter Try.func44, Try.ntmps44
  go_wp2_with fail
  refine (leaf_any _ _ _ _ _ _ (HB.out.alloc _)).mono ?_
  rintro e w1 ⟨rfl, rfl⟩
  go_wp2_with fail
  refine bodyPost_ret (v := .agg #[.string x.1, .int .i64 x.2]) (by simp [results, Try.results44, go_sem]) rfl ?_
  have tF : Tch (fun y => y = t.b) w (w.setCell ⟨t.b, 0, none⟩ (.slice (some ⟨q, 0, none⟩) lps.length cap)) := Tch.setCell (S := fun y => y = t.b) _ (a := ⟨t.b, 0, none⟩) rfl _
  have hd' := HD.out
  have hpF := (((cutTo' HP.out (by omega) lps.length (by omega)).tch tF (fun y hy e => hd'.1.1 (e ▸ hy))).alloc (.cells #[.string x.1, .int .i64 x.2] 67)).alloc (.cells #[.string x.1, .int .i64 x.2] 67)
  have hkF := ((HK.out.tch tF (fun y hy e => hd'.1.2 (e ▸ hy))).alloc (.cells #[.string x.1, .int .i64 x.2] 67)).alloc (.cells #[.string x.1, .int .i64 x.2] 67)
  have hbF := ((HB.out.setC 0 (.slice (some ⟨q, 0, none⟩) lps.length cap)).alloc (.cells #[.string x.1, .int .i64 x.2] 67)).alloc (.cells #[.string x.1, .int .i64 x.2] 67)
  rw [encPs_take, HPS.out, List.take_left' rfl] at hpF
  refine ⟨x, mk0 t.b t.pb lps t.kb, rfl, ?_, ⟨_, _, hbF, hpF, hkF⟩, rfl, HND.out, fun y hy => .inl hy, ((tF.mono (fun y _ h => ?_)).trans (Tch.alloc _ _ _) (fun _ _ h => h)).trans (Tch.alloc _ _ _) (fun _ _ h => h), trivial, ?_, ?_⟩
  · show t.ps = lps ++ [x]
    exact HPS.out
  · rw [h]; exact foot_b 0 t
  · show lps.length ≤ _
    omega
  · show _ ≤ lps.length + 1
    omega

theorem kids_last {least most h : Nat} {t : MT (h + 1)} (hs : Shp least most (h + 1) t) : ∃ K kid, kids t = K ++ [kid] ∧ K.length = t.ps.length := by
  have hl := hs.1
  have hne : kids t ≠ [] := by intro e; rw [e] at hl; simp at hl
  exact ⟨(kids t).dropLast, (kids t).getLast hne, (List.dropLast_concat_getLast hne).symm, by rw [List.length_dropLast]; omega⟩

theorem flat_lastkid {h : Nat} {t : MT (h + 1)} {K : List (MT h)} {kid : MT h} (hk : kids t = K ++ [kid]) (hl : K.length = t.ps.length) : flat (h + 1) t = wl t.ps (K.map (flat h)) ++ flat h kid := by
  rw [flat_one (A := t.ps) (C := []) hk (by simp) hl]
  simp [wr]

set_option maxRecDepth 100000 in
set_option maxHeartbeats 1000000 in
theorem last_succ {least most h : Nat} (hl1 : 1 ≤ least) (hlm : 2 * least ≤ most) (hm : most ≤ 64) (ih : LastOk least most h) : LastOk least most (h + 1) := by
  intro t w xb rv lv ha hd hx hxn hsh h1 hlen
  obtain ⟨K, kid, hkk, hKl⟩ := kids_last hsh
  have hkid := hsh.2 kid (by rw [hkk]; simp)
  have hp := foot_kid hkk
  have hxk : xb ∉ foot h kid := fun e => hxn (hp.mem_iff.2 (List.mem_append_left _ e))
  have hrec := fun (w' : World) (ht : Tch (fun _ => False) w w') => ih kid w' xb rv lv (TAt.tch ht h kid (ha.2 kid (by rw [hkk]; simp)) (fun _ _ h => h)) (List.nodup_append.1 (hp.nodup_iff.1 hd)).1 (ht.get hx (fun h => h)) hxk hkid.2.2 (by omega) hkid.2.1
  obtain ⟨pv, kv, hb, hps, hks⟩ := ha.1
  obtain ⟨r, kc, ksp, rfl, hkb, hr, hrl, hrc, hrn⟩ := hks.pos (by rw [List.length_map, hsh.1]; omega)
  obtain ⟨pa, pc, rfl, _⟩ := hps.val
  have hkc : w.cell? ⟨r, t.ps.length, none⟩ = some (.pointer (some ⟨kid.b, 0, none⟩)) := by
    rw [hr.cell]
    exact encKs_get (by rw [hkk, List.map_append, List.getElem?_append_right (by rw [List.length_map]; omega), List.length_map, hKl]; simp) ksp
  have hpl : ((kids t).map (·.b)).length = t.ps.length + 1 := by rw [List.length_map, hsh.1]
  have hpz : ((((kids t).map (·.b)).length : Int) == 0) = false := by rw [hpl]; simp; omega
  generalize hPL : ((kids t).map (·.b)).length = pl at *
  have c0 : w.cell? ⟨t.b, 0, none⟩ = some (.slice pa t.ps.length pc) := hb.cell 0
  have c1 : w.cell? ⟨t.b, 1, none⟩ = some (.slice (some ⟨r, 0, none⟩) pl kc) := hb.cell 1
  have q0 : (0 : Int) ≤ (t.ps.length : Int) := by omega
  have q1 : t.ps.length < pl := by omega
  have l1 := hb.lt
  have l2 := hr.lt
  have HB := Lib.hid hb; have HX := Lib.hid hx; have HR := Lib.hid hrec; have HPL := Lib.hid hpl; have HKK := Lib.hid hkk; have HKL := Lib.hid hKl; have HA := Lib.hid ha; have HD := Lib.hid hd; have HSH := Lib.hid hsh; have HXN := Lib.hid hxn
  clear hb hx hrec hpl hkk hKl ha hd hsh hxn hps hks hr hrl hrc hp hkid hkb hxk
  go_enter Try.func44, Try.ntmps44
  go_wp2_with fail
  refine (leaf_any _ _ _ _ _ _ (HB.out.alloc _)).mono ?_
  rintro e w1 ⟨rfl, rfl⟩
  go_wp2_with fail
  have t01 : Tch (fun _ => False) w (w.alloc (.cells #[.string ⟨#[]⟩, .int .i64 0] 67)) := Tch.alloc _ _ _
  refine (HR.out _ t01).mono ?_
  rintro e w2 ⟨p, kid', rfl, g1, g2, g3, g4, g5, g6, g7, g8, g9⟩
  have t02 : Tch (· ∈ foot h kid) w w2 := (t01.mono (fun _ _ h => h.elim)).trans g6 (fun _ _ h => h)
  have s02 := g6.size
  rw [World.size_alloc] at s02
  obtain ⟨k1, k2, k3, k4⟩ := swap_kid HKK.out (TAt.tch t01 _ _ HA.out (fun _ _ h => h)) HD.out g6 g2 g3 g4 g5
  rw [World.size_alloc] at k3
  have hxw := HX.out.lt
  have hx2 := t02.get HX.out (fun e => HXN.out ((foot_kid HKK.out).mem_iff.2 (List.mem_append_left _ e)))
  have hr2 : Blk w2 w.heap.size [.string ⟨#[]⟩, .int .i64 0] 67 := g6.get (Blk.new w _ 67) (fun e => by have := TAt.lt _ _ (HA.out.2 kid (by rw [HKK.out]; simp)) _ e; omega)
  have HK1 := Lib.hid k1; have HK2 := Lib.hid k2; have HK3 := Lib.hid k3; have HK4 := Lib.hid k4; have HX2 := Lib.hid hx2; have HR2 := Lib.hid hr2; have HG1 := Lib.hid g1; have HG7 := Lib.hid g7
  clear k1 k2 k3 k4 hx2 hr2 g1 g2 g3 g4 g5 g6 g7 t02 t01 c0 c1 hkc
  have hfill := fun (w' : World) (ht : Tch (fun _ => False) w2 w') => fill_any hlm hm (ht.get HX2.out (fun h => h)) (d := mkT t.b t.pb t.ps t.kb (K ++ [kid'])) (K1 := K) (K2 := []) (kid := kid') rfl (TAt.tch ht _ _ HK1.out (fun _ _ h => h)) HK2.out
    (by show (K ++ [kid']).length = t.ps.length + 1; rw [List.length_append, HKL.out]; rfl) h1 hlen (fun k hk => HSH.out.2 k (by rw [HKK.out]; simp only [List.append_nil] at hk; simp [hk]))
    ⟨by have := (HSH.out.2 kid (by rw [HKK.out]; simp)).1; omega, by have := (HSH.out.2 kid (by rw [HKK.out]; simp)).2.1; omega, HG7.out⟩
  rw [HKL.out] at hfill
  have HF := Lib.hid hfill
  clear hfill
  go_wp2_with fail
  refine (HF.out _ (Tch.alloc _ _ _)).mono ?_
  rintro e w3 ⟨⟨v, rfl⟩, d', m1, m2, m3, m4, m5, m6, m7, m8, m9⟩
  have hne1 : w2.heap.size ∉ foot (h + 1) (mkT t.b t.pb t.ps t.kb (K ++ [kid'])) := fun e => by have := TAt.lt _ _ HK1.out _ e; omega
  have hne2 : w.heap.size ∉ foot (h + 1) (mkT t.b t.pb t.ps t.kb (K ++ [kid'])) := fun e => by
    rcases HK3.out _ e with h | h
    · have := TAt.lt _ _ HA.out _ h; omega
    · omega
  have hr3 := m5.get (HR2.out.alloc (.cells #[.string p.1, .int .i64 p.2] 67)) hne2
  have hp3 := m5.get (Blk.new w2 [.string p.1, .int .i64 p.2] 67) hne1
  have s3 := m5.size
  have f0 : w3.cell? ⟨w.heap.size, 0, none⟩ = some (.string ⟨#[]⟩) := hr3.cell 0
  have f1 : w3.cell? ⟨w.heap.size, 1, none⟩ = some (.int .i64 0) := hr3.cell 1
  have f2 : w3.frozen? ⟨w.heap.size, 0, none⟩ = false := hr3.frozen 0
  have f3 : w3.frozen? ⟨w.heap.size, 1, none⟩ = false := hr3.frozen 1
  have f4 : w3.cell? ⟨w2.heap.size, 0, none⟩ = some (.string p.1) := hp3.cell 0
  have f5 : w3.cell? ⟨w2.heap.size, 1, none⟩ = some (.int .i64 p.2) := hp3.cell 1
  have M1 := Lib.hid m1; have M2 := Lib.hid m2; have M3 := Lib.hid m3; have M4 := Lib.hid m4; have M5 := Lib.hid m5; have M6 := Lib.hid m6; have M7 := Lib.hid m7; have HR3 := Lib.hid hr3
  clear m1 m2 m3 m4 m5 m6 m7 hr3 hp3 hne1 hne2
  go_wp2_with fail
  have hrF := (HR3.out.setC 0 (.string p.1)).setC 1 (.int .i64 p.2)
  have q0 := hrF.cell 0
  have q1 := hrF.cell 1
  refine bodyPost_ret (v := .agg #[.string p.1, .int .i64 p.2]) (by simp [results, Try.results44, go_sem, q0, q1]) rfl ?_
  have tG : Tch (fun y => y = w.heap.size) w3 _ := (Tch.setCell (S := fun y => y = w.heap.size) w3 (a := ⟨w.heap.size, 0, none⟩) rfl (.string p.1)).trans (Tch.setCell (S := fun y => y = w.heap.size) _ (a := ⟨w.heap.size, 1, none⟩) rfl (.int .i64 p.2)) (fun _ _ h => h)
  have hlt := TAt.lt _ _ HA.out
  have hsub : ∀ y ∈ foot (h + 1) d', y ∈ foot (h + 1) t ∨ w.heap.size + 1 ≤ y := fun y hy => by
    rcases M4.out y hy with h | h
    · exact HK3.out y h
    · simp at h; exact .inr (by omega)
  refine ⟨p, d', rfl, ?_, TAt.tch tG _ _ M1.out (fun y hy e => ?_), M2.out, M3.out, fun y hy => (hsub y hy).imp id (fun h => by omega), ?_, M7.out, m8, m9⟩
  · rw [M6.out, flat_lastkid HKK.out HKL.out, HG1.out, flat_lastkid (t := mkT t.b t.pb t.ps t.kb (K ++ [kid'])) (K := K) (kid := kid') rfl HKL.out, ← List.append_assoc]
    rfl
  · subst e
    rcases hsub _ hy with h | h
    · have := hlt _ h; omega
    · omega
  · refine (((((Tch.alloc (fun _ => False) w _).mono (fun _ _ h => h.elim)).trans HK4.out (fun _ _ h => h)).trans (Tch.alloc (fun _ => False) w2 (.cells #[.string p.1, .int .i64 p.2] 67)) (fun _ _ h => h.elim)).trans M5.out (fun y hy h => ?_)).trans tG (fun y hy h => by omega)
    rcases HK3.out y h with h | h
    · exact h
    · omega

theorem last_ok {least most : Nat} (hl1 : 1 ≤ least) (hlm : 2 * least ≤ most) (hm : most ≤ 64) : ∀ h, LastOk least most h
  | 0 => last_zero least most hm
  | h + 1 => last_succ hl1 hlm hm (last_ok hl1 hlm hm h)
end Go.Proofs.Ytkhjhcbmefahkaa
