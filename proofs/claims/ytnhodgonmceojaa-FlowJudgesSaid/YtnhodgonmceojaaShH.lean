/- append and maps on the abstract memory are sound. -/
import Derived.Test.YtnhodgonmceojaaShG
set_option linter.unusedVariables false
set_option linter.unusedSimpArgs false
namespace Go.Proofs.Ytnhodgonmceojaa.Sh
open Go.RowKit

section
variable {P : Program} {E : Env} {m : Mem} {w : World} {B : Nat}

/-- What is appended: its cells can be loaded. -/
theorem src_run {z n : Nat} {x u : Value} {news : List Value} (hR : Rel E m w B) (h : srcA z m x = some (n, news)) (hr : Rep E m.next x u) :
    ∃ us, RepL E m.next news us ∧ news.length = n * z ∧ ∃ a c, u = .slice a n c ∧ (Builtin.firstCells z n u).run P w = .ok us.toArray w ∧ (Builtin.firstCells z n u).run P w.drew = .ok us.toArray w.drew := by
  unfold srcA at h
  split at h
  · cases h
    have : ∃ a c, u = .slice a 0 c := by cases hr <;> exact ⟨_, _, rfl⟩
    obtain ⟨a, c, rfl⟩ := this
    refine ⟨[], RepL.nil _ _, by simp, a, c, rfl, ?_⟩
    cases a <;> simp [Builtin.firstCells, loadCells, loadCellsFrom]
  · rename_i a n' c
    obtain ⟨cs, hcs, he⟩ := Option.map_eq_some_iff.1 h
    cases he
    obtain ⟨c', hu, ha, hs, _⟩ := hr.slice_inv
    subst hu
    obtain ⟨hl, us, hus1, hus2⟩ := hR.cells hcs
    have hul : us.length = n * z := by rw [← hus1.1]; exact hl
    refine ⟨us, hus1, hl, _, _, rfl, ?_, ?_⟩
    · exact run_firstCells_some (P := P) w z n (E.emb a) n c' us hul (fun j u hj => hus2 j u hj)
    · exact run_firstCells_some (P := P) w.drew z n (E.emb a) n c' us hul (fun j u hj => hus2 j u hj)
  · cases h

section
variable {t ty e : TypeId} {i : TypeInfo} {zv : Value} (ht : P.underlying t = some (.slice e)) (hi : P.info? e = some i) (hz : i.zero = some zv)
include ht hi hz

omit hz in
theorem app_room {a : Option Addr} {sLen sCap n : Nat} {x : Value} {us : List Value} {a' : Option Addr} {c' : Nat} (hx : x = .slice a' n c') (hf : (Builtin.firstCells i.size n x).run P w = .ok us.toArray w) (hroom : sLen + n ≤ sCap)
    {w' : World} (hst : match a with | some a => (storeCells (a.add (sLen * i.size)) us).run P w = .ok () w' | none => w' = w) :
    (Builtin.append_ #[t, t] ty #[.slice a sLen sCap, x]).run P w = .ok (.slice a (sLen + n) sCap) w' := by
  subst hx
  cases a with
  | none =>
    simp only at hst
    subst hst
    simp [Builtin.append_, run_underlying ht, sizeOf, typeInfo, hi, Builtin.lenOf, hroom, hf]
  | some a =>
    simp only at hst
    simp [Builtin.append_, run_underlying ht, sizeOf, typeInfo, hi, Builtin.lenOf, hroom, hf, hst]

theorem app_grow {a : Option Addr} {sLen sCap n : Nat} {x : Value} {us olds : List Value} {a' : Option Addr} {c' : Nat} (hx : x = .slice a' n c') (hf : (Builtin.firstCells i.size n x).run P w.drew = .ok us.toArray w.drew)
    (hfo : (Builtin.firstCells i.size sLen (.slice a sLen sCap)).run P w.drew = .ok olds.toArray w.drew) (hg : sCap < sLen + n) (h63 : sLen + n ≤ maxLen) (hby : (sLen + n) * i.bytes ≤ 140737488355328) :
    (Builtin.append_ #[t, t] ty #[.slice a sLen sCap, x]).run P w =
      .ok (.slice (some ⟨w.heap.size, 0, none⟩) (sLen + n) (grownCap w (sLen + n) sCap e))
        (w.drew.alloc (.cells (olds ++ us ++ (Builtin.zeroCells zv.cells (grownCap w (sLen + n) sCap e - (sLen + n))).toList).toArray e)) := by
  subst hx
  have hn : ¬ (sLen + n ≤ sCap) := by omega
  have h63' : ¬ (9223372036854775807 < ((sLen : Int) + (n : Int))) := by unfold maxLen at h63; omega
  have h48' : ¬ (281474976710656 < Builtin.nextslicecap (sLen + n) sCap * i.bytes) := by
    have := growslice_fits (by omega : sCap < sLen + n) hby
    omega
  simp [Builtin.append_, run_underlying ht, sizeOf, typeInfo, zeroValue, hi, hz, Builtin.lenOf, hn, h63', h48', Question.forced, hf, hfo, newRow, grownCap]
  congr 2
  apply Array.ext'
  simp [List.append_assoc]
end

theorem zeroCells_size (z : Array Value) (n : Nat) : (Builtin.zeroCells z n).size = n * z.size := by simp [Builtin.zeroCells]

variable {ev ev' : Operand → Value} (hR : Rel E m w B) (hev : ∀ x, Rep E m.next (ev x) (ev' x))

/-- A row that an append has made. -/
theorem Snd.grown {sem : Sem Next} {cs us zs : List Value} {e : TypeId} {z L cap : Nat} (hr : RepL E m.next cs us) {w0 : World} (hlen : cs.length = L * z)
    (h : sem.run P w = .ok (.value (.slice (some ⟨w.heap.size, 0, none⟩) L cap)) (w.drew.alloc (.cells (us ++ zs).toArray e)))
    (hz : us.length + zs.length = cap * z) (hL : L ≤ cap) (hm : cap ≤ maxLen) (mm : Mem) (hmm : Rel E mm w B ∧ Evo E m w E mm w) (hnext : mm.next = m.next) :
    Snd P E m w B sem (.slice (some ⟨m.next, 0, none⟩) L (big + L)) (mm.new (.cells cs e z)) := by
  have hRd := hmm.1.drew
  have hrep : RepL E mm.next cs ((us ++ zs).take cs.length) := by
    rw [hnext, hr.1, List.take_left]
    exact hr
  obtain ⟨h1, h2⟩ := hRd.new (.cells cs e z) (.cells (us ++ zs).toArray e) (us ++ zs).length z default (ROwn.newRow hRd cs (us ++ zs) e z default hrep)
  refine ⟨_, _, _, _, h, .inl rfl, hmm.2.drew.trans h2, h1, ?_⟩
  have := Rep.newSlice (E := E) (m := mm) ⟨w.heap.size, 0, none⟩ (us ++ zs).length z default L (big + L) cap hL ⟨fun h => by omega, fun h => by omega⟩ (fun _ => by simp; omega) hm
  rw [hnext] at this
  have hn2 : (mm.new (.cells cs e z)).next = m.next + 1 := by rw [Mem.next_new, hnext]
  rw [hn2, hnext]
  exact this

include hR
theorem snd_appL {sem : Sem Next} {t ty e : TypeId} {i : TypeInfo} {sv su xu v : Value} {m' : Mem} {n : Nat} {news us : List Value} {ax : Option Addr} {cx : Nat}
    (hexec : sem.run P w = ((Builtin.append_ #[t, t] ty #[su, xu]).run P w).andThen fun v w => .ok (.value v) w)
    (ht : P.underlying t = some (.slice e)) (hi : P.info? e = some i) (hk : zok P e i.size = true) (h0 : 0 < i.size) (hsr0 : Rep E m.next sv su)
    (hus : RepL E m.next news us) (hnl : news.length = n * i.size) (hxe : xu = .slice ax n cx) (hf : (Builtin.firstCells i.size n xu).run P w = .ok us.toArray w) (hfd : (Builtin.firstCells i.size n xu).run P w.drew = .ok us.toArray w.drew)
    (h : appL e i.size i.bytes sv n news m = some (v, m')) : Snd P E m w B sem v m' := by
  obtain ⟨i', zv, hi', hz0, hcc, hzl, hs, _⟩ := zok_info hk
  rw [hi] at hi'; cases hi'
  have hzs : zv.cells.size = i.size := by rw [hcc] at hzl; simpa using hzl
  have hmb := maxLen_big
  unfold appL at h
  generalize hsv : sv = sv0 at h
  split at h
  case isFalse => cases h
  rename_i hok
  have hone : ∀ u ∈ us, u.oneCell' = true := by
    intro u hu
    obtain ⟨j, hj⟩ := List.mem_iff_getElem?.1 hu
    have hjl : j < news.length := by rw [hus.1]; exact (List.getElem?_eq_some_iff.1 hj).1
    exact ((hus.2 j _ _ (List.getElem?_eq_getElem hjl) hj).okCell (List.all_eq_true.1 hok _ (List.mem_of_getElem? (List.getElem?_eq_getElem hjl)))).2
  have hul : us.length = n * i.size := by rw [← hus.1]; exact hnl
  split at h
  · have hsr := hsr0; rw [hsv] at hsr
    have hsu : su = .slice none 0 0 := by generalize su = u at hsr; cases hsr; rfl
    split at h
    · rename_i hn
      cases h
      subst hn
      refine Snd.pure hR (u := .slice none 0 0) ?_ .slice0
      have := app_room (w := w) (ty := ty) ht hi (a := none) (sLen := 0) (sCap := 0) (n := 0) hxe hf (by omega) (w' := w) rfl
      rw [hexec, hsu, this]; rfl
    · rename_i hn
      split at h
      · rename_i hb
        cases h
        have hfo : (Builtin.firstCells i.size 0 (.slice none 0 0)).run P w.drew = .ok ([] : List Value).toArray w.drew := by simp [Builtin.firstCells]
        have := app_grow (w := w) (ty := ty) ht hi hz0 (a := none) (sLen := 0) (sCap := 0) (n := n) hxe hfd hfo (by omega) (by omega) (by simpa using hb.1)
        have hge := grownCap_ge w (0 + n) 0 e
        have hcm := grownCap_le_maxLen w (0 + n) 0 e (by omega)
        simp only [Nat.zero_add] at this hge hcm
        refine Snd.grown (us := us) (cs := news) (L := n) (w0 := w) hus hnl (cap := grownCap w n 0 e) (zs := (Builtin.zeroCells zv.cells (grownCap w n 0 e - n)).toList) ?_ ?_ hge hcm m ⟨hR, Evo.refl _ _ _⟩ rfl
        · rw [hexec, hsu, this]; simp [Result.andThen]
        · rw [hul, Array.length_toList, zeroCells_size, hzs, ← Nat.add_mul]; congr 1; omega
      · cases h
  · rename_i a l c
    have hsr := hsr0; rw [hsv] at hsr
    obtain ⟨c', hsu, ha, hsp, hl, hcap, hkk, hmx⟩ := hsr.slice_inv
    have grow : ∀ (cs : List Value) (mm : Mem), m.row a.block = some cs → a.off + l * i.size ≤ cs.length → c' < l + n → l + n ≤ maxLen → (l + n) * i.bytes ≤ 140737488355328 → (Rel E mm w B ∧ Evo E m w E mm w) → mm.next = m.next →
        Snd P E m w B sem (.slice (some ⟨m.next, 0, none⟩) (l + n) (big + (l + n))) (mm.new (.cells ((cs.drop a.off).take (l * i.size) ++ news) e i.size)) := by
      intro cs mm hrow hlen hc1 hc2 hc3 hmm hnx
      have hcells : m.cells a.block a.off (l * i.size) = some ((cs.drop a.off).take (l * i.size)) := by unfold Mem.cells; rw [hrow]; simp [hlen]
      obtain ⟨hol, olds, hol1, hol2⟩ := hR.cells hcells
      have holl : olds.length = l * i.size := by rw [← hol1.1]; exact hol
      have hfo : (Builtin.firstCells i.size l (.slice (some (E.emb a)) l c')).run P w.drew = .ok olds.toArray w.drew := run_firstCells_some (P := P) w.drew i.size l (E.emb a) l c' olds holl (fun j u hj => hol2 j u hj)
      have := app_grow (w := w) (ty := ty) ht hi hz0 (a := some (E.emb a)) (sLen := l) (sCap := c') (n := n) hxe hfd hfo hc1 hc2 hc3
      have hge := grownCap_ge w (l + n) c' e
      have hcm := grownCap_le_maxLen w (l + n) c' e hc2
      refine Snd.grown (us := olds ++ us) (cs := (cs.drop a.off).take (l * i.size) ++ news) (L := l + n) (w0 := w) (hol1.append hus) ?_ (cap := grownCap w (l + n) c' e) (zs := (Builtin.zeroCells zv.cells (grownCap w (l + n) c' e - (l + n))).toList) ?_ ?_ hge hcm mm hmm hnx
      · rw [List.length_append, hol, hnl, Nat.add_mul]
      · rw [hexec, hsu, this]; simp [Result.andThen]
      · rw [List.length_append, holl, hul, Array.length_toList, zeroCells_size, hzs, ← Nat.add_mul, ← Nat.add_mul]; congr 1; omega
    split at h
    · rename_i cs t0 z0 hg
      have hkn : ∃ kn, (if c < big then c else c - big) = kn ∧ kn ≤ c' := by
        rcases Nat.lt_or_ge c big with hb | hb
        · exact ⟨c, if_pos hb, by have := hcap.1 hb; omega⟩
        · exact ⟨c - big, if_neg (by omega), by have := hcap.2 hb; omega⟩
      obtain ⟨kn, hkn1, hkn2⟩ := hkn
      rw [hkn1] at h
      have hrow : m.row a.block = some cs := by unfold Mem.row; rw [hg]
      have room : ∀ w', (storeCells ((E.emb a).add (l * i.size)) us).run P w = .ok () w' → l + n ≤ c' → sem.run P w = .ok (.value (.slice (some (E.emb a)) (l + n) c')) w' := by
        intro w' hst hr
        have := app_room (w := w) (ty := ty) ht hi (a := some (E.emb a)) (sLen := l) (sCap := c') (n := n) hxe hf hr (w' := w') hst
        rw [hexec, hsu, this]; rfl
      split at h
      · rename_i hfit
        split at h
        · rename_i hin
          cases h
          obtain ⟨w', hw1, hw2, hw3⟩ := hR.setRow (P := P) (o := a.off + l * i.size) hg hus (by rw [hnl]; omega) hone
          have hadd : (E.emb a).add (l * i.size) = (E.ρ a.block).add (a.off + l * i.size) := by unfold Env.emb; rw [add_off]
          refine ⟨_, _, w', E, room w' (by rw [hadd]; exact hw1) (by omega), .inl rfl, hw3, hw2, ?_⟩
          exact .slice a (l + n) c c' ha hsp (by omega) hcap hkk hmx
        · cases h
      · rename_i hfit
        split at h
        · rename_i hb
          split at h
          · rename_i hcb
            split at h
            · rename_i hin
              cases h
              have hcc' := hcap.1 hcb
              have : kn = c := by rw [← hkn1, if_pos hcb]
              exact grow cs m hrow hin (by omega) hb.1 hb.2 ⟨hR, Evo.refl _ _ _⟩ rfl
            · cases h
          · rename_i hcb
            split at h
            · rename_i hall
              obtain ⟨a1, rfl, rfl⟩ := hall
              cases h
              have htake : cs.drop a.off = (cs.drop a.off).take (l * i.size) := by rw [List.take_of_length_le (by simp; omega)]
              by_cases hroom : l + n ≤ c'
              · -- in place: a new name for the old block
                obtain ⟨b, ob, cur, e1, e2, e3, e4, e5, e7, e6⟩ := hR.obj _ _ hg
                have hbound := hkk (by omega)
                rw [e7] at hbound
                have hln : (l + n) * i.size ≤ c' * i.size := Nat.mul_le_mul_right _ hroom
                rw [Nat.add_mul] at hln
                have hst := run_storeCells_at P b (ob + (a.off + l * i.size)) t0 us 0 cur w e3 (by rw [hul]; omega) hone
                simp only [Nat.add_zero] at hst
                have hadd : (E.emb a).add (l * i.size) = ⟨b, ob + (a.off + l * i.size), none⟩ := by unfold Env.emb; rw [add_off, e1, add_mk]
                have hrun := room _ (by rw [hadd]; exact hst) hroom
                have hemb : E.emb a = ⟨b, ob + a.off, none⟩ := by unfold Env.emb; rw [e1, add_mk]
                obtain ⟨h1, h2⟩ := hR.move hg rfl (.cells (cs.drop a.off ++ news) t0 i.size) rfl (w' := w.setRow b (cur.toList.take (ob + (a.off + l * i.size)) ++ us ++ cur.toList.drop (ob + (a.off + l * i.size) + us.length)).toArray)
                  (by rw [e1]; exact ⟨rfl, rfl, rfl, by simp, fun k _ hk => setRow_other w b k _ (fun h => hk (by simp [h]))⟩) (E.emb a) (by rw [hemb, e1]) (E.κ a.block - a.off) i.size default (by
                    refine ⟨b, ob + a.off, _, by simp [Env.put, hemb], e2, setRow_heap w b cur _ t0 _ e3, ?_, ?_, by simp [Env.put], ?_⟩
                    · simp only [List.size_toArray, List.length_append, List.length_take, List.length_drop, Array.length_toList, Env.put, if_true]
                      omega
                    · simp only [List.length_append, List.length_drop, Env.put, if_true, hnl]; omega
                    · refine RepL.mono (E := E) (E.agrees_put m.next _ _ _ default) (by omega) ?_
                      have hlen2 : ob + (a.off + l * i.size) ≤ cur.size := by omega
                      have e : ((cur.toList.take (ob + (a.off + l * i.size)) ++ us ++ cur.toList.drop (ob + (a.off + l * i.size) + us.length)).drop (ob + a.off)).take (cs.drop a.off ++ news).length = ((cur.toList.drop ob).take cs.length).drop a.off ++ us := by
                        apply List.ext_getElem?
                        intro j
                        simp only [List.toList_toArray, List.getElem?_take, List.getElem?_append, List.getElem?_drop, List.length_take, List.length_append, List.length_drop, Array.length_toList, hnl, a1]
                        have k1 : min (ob + (a.off + l * i.size)) cur.size = ob + (a.off + l * i.size) := by omega
                        have k2 : min (a.off + l * i.size) (cur.size - ob) - a.off = l * i.size := by omega
                        simp only [k1, k2]
                        by_cases h1 : j < l * i.size
                        · have q1 : j < a.off + l * i.size - a.off + n * i.size := by omega
                          have q2 : ob + a.off + j < ob + (a.off + l * i.size) + us.length := by omega
                          have q3 : ob + a.off + j < ob + (a.off + l * i.size) := by omega
                          have q4 : a.off + j < a.off + l * i.size := by omega
                          have q5 : ob + a.off + j = ob + (a.off + j) := by omega
                          have r1 : j < l * i.size + n * i.size := by omega
                          have r2 : ob + (a.off + j) < ob + (a.off + l * i.size) + us.length := by omega
                          have r3 : ob + (a.off + j) < ob + (a.off + l * i.size) := by omega
                          simp [h1, q1, q2, q3, q4, q5, r1, r2, r3]
                        · by_cases h2 : j < l * i.size + n * i.size
                          · have q1 : j < a.off + l * i.size - a.off + n * i.size := by omega
                            have q2 : ob + a.off + j < ob + (a.off + l * i.size) + us.length := by omega
                            have q3 : ¬ ob + a.off + j < ob + (a.off + l * i.size) := by omega
                            have q5 : ob + a.off + j - (ob + (a.off + l * i.size)) = j - l * i.size := by omega
                            have r2 : ob + (a.off + j) < ob + (a.off + l * i.size) + us.length := by omega
                            have r3 : ¬ ob + (a.off + j) < ob + (a.off + l * i.size) := by omega
                            have r5 : ob + (a.off + j) - (ob + (a.off + l * i.size)) = j - l * i.size := by omega
                            have r6 : ob + a.off + j = ob + (a.off + j) := by omega
                            simp [h1, h2, q1, q2, q3, q5, r2, r3, r5, r6]
                          · have q1 : ¬ j < a.off + l * i.size - a.off + n * i.size := by omega
                            simp only [q1, h1, if_false]
                            rw [List.getElem?_eq_none (by omega)]
                      simp only [List.toList_toArray]
                      rw [e]
                      exact (e6.drop a.off).append hus)
                refine ⟨_, _, _, _, hrun, .inl rfl, h2, h1, ?_⟩
                exact Rep.newSlice (E := E) (m := m) (E.emb a) _ _ default (l + n) (big + (l + n)) c' hroom ⟨fun h => by omega, fun h => by omega⟩ (fun _ => by omega) hmx
              · have hk2 := hR.kill a.block
                rw [htake]
                exact grow cs (m.kill a.block) hrow (by omega) (by omega) hb.1 hb.2 hk2 rfl
            · cases h
        · cases h
    · rename_i cs hg
      have hrow : m.row a.block = some cs := by unfold Mem.row; rw [hg]
      split at h
      · cases h
      · rename_i hfit
        split at h
        · rename_i hb
          cases h
          have hcc' := hcap.1 hb.1
          exact grow cs m hrow hb.2.1 (by omega) hb.2.2.1 hb.2.2.2 ⟨hR, Evo.refl _ _ _⟩ rfl
        · cases h
    · cases h
  · cases h


include hev
omit hR hev in
theorem Mem.set_same {m : Mem} {i : Nat} {o : AObj} (h : m.get i = some o) : m.set i o = m := by
  cases m with
  | mk g n =>
    simp only [Mem.set]
    congr 1
    funext j
    split
    · rename_i e; subst e; exact h.symm
    · rfl

omit hev in
theorem snd_appW {sem : Sem Next} {t ty e : TypeId} {i : TypeInfo} {sv su xu : Value} {n : Nat} {news us : List Value} {ax : Option Addr} {cx : Nat}
    (hexec : sem.run P w = ((Builtin.append_ #[t, t] ty #[su, xu]).run P w).andThen fun v w => .ok (.value v) w)
    (ht : P.underlying t = some (.slice e)) (hi : P.info? e = some i) (hk : zok P e i.size = true) (h0 : 0 < i.size) (hsr0 : Rep E m.next sv su)
    (hus : RepL E m.next news us) (hnl : news.length = n * i.size) (hxe : xu = .slice ax n cx) (hf : (Builtin.firstCells i.size n xu).run P w = .ok us.toArray w) (hfd : (Builtin.firstCells i.size n xu).run P w.drew = .ok us.toArray w.drew)
    (h : appW i.size i.bytes sv n news m = true) : Snd P E m w B sem (.chan none) m := by
  obtain ⟨i', zv, hi', hz0, hcc, hzl, hs, _⟩ := zok_info hk
  rw [hi] at hi'; cases hi'
  unfold appW at h
  generalize hsv : sv = sv0 at h
  simp only [Bool.and_eq_true] at h
  obtain ⟨hok, h⟩ := h
  have hone : ∀ u ∈ us, u.oneCell' = true := by
    intro u hu
    obtain ⟨j, hj⟩ := List.mem_iff_getElem?.1 hu
    have hjl : j < news.length := by rw [hus.1]; exact (List.getElem?_eq_some_iff.1 hj).1
    exact ((hus.2 j _ _ (List.getElem?_eq_getElem hjl) hj).okCell (List.all_eq_true.1 hok _ (List.mem_of_getElem? (List.getElem?_eq_getElem hjl)))).2
  have hul : us.length = n * i.size := by rw [← hus.1]; exact hnl
  split at h
  · rename_i a l c
    split at h
    · rename_i cs t0 z0 hg
      simp only [decide_eq_true_eq] at h
      obtain ⟨hbig, hlen, rfl, hml, hby⟩ := h
      have hsr := hsr0; rw [hsv] at hsr
      obtain ⟨c', hsu, ha, hsp, hl, hcap, hkk, hmx⟩ := hsr.slice_inv
      have hrow : m.row a.block = some cs := by unfold Mem.row; rw [hg]
      by_cases hroom : l + n ≤ c'
      · obtain ⟨b, ob, cur, e1, e2, e3, e4, e5, e7, e6⟩ := hR.obj _ _ hg
        have hbound := hkk hbig
        rw [e7] at hbound
        have hln : (l + n) * i.size ≤ c' * i.size := Nat.mul_le_mul_right _ hroom
        rw [Nat.add_mul] at hln
        have hst := run_storeCells_at P b (ob + (a.off + l * i.size)) t0 us 0 cur w e3 (by rw [hul]; omega) hone
        simp only [Nat.add_zero] at hst
        have hadd : (E.emb a).add (l * i.size) = ⟨b, ob + (a.off + l * i.size), none⟩ := by unfold Env.emb; rw [add_off, e1, add_mk]
        have hrun : sem.run P w = .ok (.value (.slice (some (E.emb a)) (l + n) c')) (w.setRow b (cur.toList.take (ob + (a.off + l * i.size)) ++ us ++ cur.toList.drop (ob + (a.off + l * i.size) + us.length)).toArray) := by
          have := app_room (w := w) (ty := ty) ht hi (a := some (E.emb a)) (sLen := l) (sCap := c') (n := n) hxe hf hroom (w' := w.setRow b (cur.toList.take (ob + (a.off + l * i.size)) ++ us ++ cur.toList.drop (ob + (a.off + l * i.size) + us.length)).toArray) (by dsimp only; rw [hadd]; exact hst)
          rw [hexec, hsu, this]; rfl
        have hset := hR.set hg rfl (.cells cs t0 i.size) rfl (w' := w.setRow b (cur.toList.take (ob + (a.off + l * i.size)) ++ us ++ cur.toList.drop (ob + (a.off + l * i.size) + us.length)).toArray)
          (by rw [e1]; exact ⟨rfl, rfl, rfl, by simp, fun k _ hk => setRow_other w b k _ (fun h => hk (by simp [h]))⟩) (by
            refine ⟨b, ob, _, e1, e2, setRow_heap w b cur _ t0 _ e3, ?_, e5, e7, ?_⟩
            · simp only [List.size_toArray, List.length_append, List.length_take, List.length_drop, Array.length_toList]
              omega
            · have e : ((cur.toList.take (ob + (a.off + l * i.size)) ++ us ++ cur.toList.drop (ob + (a.off + l * i.size) + us.length)).drop ob).take cs.length = (cur.toList.drop ob).take cs.length := by
                apply List.ext_getElem?
                intro j
                simp only [List.getElem?_take, List.getElem?_append, List.getElem?_drop, List.length_take, List.length_append, List.length_drop, Array.length_toList]
                have k1 : min (ob + (a.off + l * i.size)) cur.size = ob + (a.off + l * i.size) := by omega
                simp only [k1]
                by_cases h1 : j < cs.length
                · have r2 : ob + j < ob + (a.off + l * i.size) + us.length := by omega
                  have r3 : ob + j < ob + (a.off + l * i.size) := by omega
                  simp [h1, r2, r3]
                · simp [h1]
              simp only [List.toList_toArray]
              rw [e]
              exact e6)
        rw [Mem.set_same hg] at hset
        exact ⟨_, _, _, E, hrun, .inl rfl, hset.2, hset.1, .one _ rfl⟩
      · have hcells : m.cells a.block a.off (l * i.size) = some ((cs.drop a.off).take (l * i.size)) := by unfold Mem.cells; rw [hrow]; simp [hlen]
        obtain ⟨hol, olds, hol1, hol2⟩ := hR.cells hcells
        have holl : olds.length = l * i.size := by rw [← hol1.1]; exact hol
        have hfo : (Builtin.firstCells i.size l (.slice (some (E.emb a)) l c')).run P w.drew = .ok olds.toArray w.drew := run_firstCells_some (P := P) w.drew i.size l (E.emb a) l c' olds holl (fun j u hj => hol2 j u hj)
        have := app_grow (w := w) (ty := ty) ht hi hz0 (a := some (E.emb a)) (sLen := l) (sCap := c') (n := n) hxe hfd hfo (by omega) hml hby
        obtain ⟨h1, h2⟩ := hR.drew.grown (World.grownBy_alloc w.drew (.cells (olds ++ us ++ (Builtin.zeroCells zv.cells (grownCap w (l + n) c' e - (l + n))).toList).toArray e (0, 0)) none)
        refine ⟨_, _, _, E, by rw [hexec, hsu, this]; rfl, .inl rfl, ?_, h1, .one _ rfl⟩
        exact (Evo.refl E m w).drew.trans h2
    · cases h
  · cases h

theorem snd_app {o : Oper} {t e : TypeId} {i : TypeInfo} {s x : Operand} {v : Value} {m' : Mem} (ho : o.op = .call { callee := .builtin .append, args := #[s, x], argTypes := #[t, t] })
    (ht : P.underlying t = some (.slice e)) (hi : P.info? e = some i) (hk : zok P e i.size = true) (h0 : 0 < i.size) (h : step P (.app e i.size i.bytes s x) ev m = some (v, m')) : Snd P E m w B (execOp ev' o) v m' := by
  have hexec : (execOp ev' o).run P w = ((Builtin.append_ #[t, t] o.type #[ev' s, ev' x]).run P w).andThen fun v w => .ok (.value v) w := by
    simp [execOp, ho, resolve, invoke, builtin]
  simp only [step, appA] at h
  split at h
  · cases h
  · rename_i n news hsrc
    obtain ⟨us, hus, hnl, ax, cx, hxe, hf, hfd⟩ := src_run (P := P) hR hsrc (hev x)
    exact snd_appL hR hexec ht hi hk h0 (hev s) hus hnl hxe hf hfd h

end
end Go.Proofs.Ytnhodgonmceojaa.Sh
