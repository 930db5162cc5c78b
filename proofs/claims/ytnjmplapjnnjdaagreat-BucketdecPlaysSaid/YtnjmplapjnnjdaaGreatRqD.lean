import Derived.Test.YtnjmplapjnnjdaaGreatRBoth
import Derived.Test.YtnjmplapjnnjdaaGreatSeDec
set_option linter.unusedSimpArgs false
set_option linter.unusedVariables false
set_option linter.unnecessarySimpa false
/- The search of layer 17, the document's: Result. -/
namespace Go.Proofs.YtnjmplapjnnjdaaGreat
open Go.RowKit
set_option linter.unusedSimpArgs false
set_option linter.unusedVariables false

set_option maxRecDepth 5000 in
theorem rq_Dip (p : Pb) (a : Option Addr) (cap : Nat) (hp : p.Ok) (bs : List Nat) (ab : Option Addr) (cb : Nat) (hbl : (bs.length : Int) ≤ 9223372036854775807) (w : World) (hw : Bytes w a p.B) (hby : Bytes w ab bs) :
    Pure Tryz.prog 53 #[.agg (p.cells (.slice a p.B.length cap)), .slice ab bs.length cb] w (.tuple #[.int .i64 (p.dip bs), .int .i64 (p.pathChk bs)]) := by
  go_enter Tryz.func53, Tryz.ntmps53
  go_upto_region 1 with (fail)
  refine name1 ?_
  intro w0 b2 B0
  obtain ⟨fk, fr, flev, fl, fwin, fcode, ftable, fall⟩ := b2.prob hp
  clear fk fr flev fl fwin fcode ftable
  go_wp2_with ((with_reducible apply ld); rfl; (with_reducible assumption); (simp only [List.set_cons_zero, List.set_cons_succ]; rfl))
  refine (ref11_Both p a cap hp bs ab cb hbl _ (hw.kept B0) (hby.kept B0)).mono ?_
  rintro e w1 ⟨rfl, B1⟩
  go_wp2
  go_ret2
  exact ⟨rfl, bOn B0 B1⟩
set_option maxRecDepth 5000 in
set_option maxHeartbeats 2000000 in
theorem rq_Result {w : World} {p : Pb} (hp : p.Ok) (hc : probChk p = 0) {D : Int} (hD : 1 ≤ D) {most : Nat} {s : Bq} (hs : s.Ok p D most) {es : List (Ent × Value)} {fv : Value} {A : RA} {Ow : Nat → Prop} (h : Rq w p D most s es fv A Ow) :
    Calls Tryz.prog 29 #[.pointer (some ⟨A.sb, 0, none⟩)] w (ResPost (p.bres D s) w) := by
  go_enter Tryz.func29, Tryz.ntmps29
  go_upto_region 1 with fail
  refine name1 ?_
  intro w1 b2 B1
  have h1 := h.kept B1
  have c44 := (h1.at_ hp).c44
  have c45 := (h1.at_ hp).c45
  go_upto_region 3 with fail
  (refine wp_region_treeV (fun W => Below w1.heap.size w1 W) 10 (.pure 0 (.pure 1 (.pure 2 (.pure 3 (.pure 4 (.pure 5 (.pure 6 (.pure 7 (.pure 8 (.one 9 (.one 10 .nil))))))))))) (by kernel_rfl) (by kernel_rfl) ?_; simp only [List.getD_cons_zero, List.getD_cons_succ, wpOVI])
  intro w2 B2
  iterate 8
    refine ⟨fun _ => B2, _, fun W hI => by have c44 := KeptW.cell c44 ⟨W, hI⟩; have c45 := KeptW.cell c45 ⟨W, hI⟩; go_simp; first | done | rfl, ?_⟩
    try simp only [put_list, List.set_cons_zero, List.set_cons_succ]
  refine ⟨fun _ => B2, .agg #[.bool false, .bool false, .slice none 0 0, .int .i64 0, .int .i64 0, .int .i64 s.work, .int .i64 s.drops], fun W hI => by go_simp, ?_⟩
  try simp only [put_list, List.set_cons_zero, List.set_cons_succ]
  refine ⟨fun _ => B2, ?_⟩
  have bn := Box.new w2 #[.bool false, .bool false, .slice none 0 0, .int .i64 0, .int .i64 0, .int .i64 0, .int .i64 0] 86
  go_wp2_with (first | ((with_reducible apply ld); rfl; (with_reducible assumption); (simp only [List.set_cons_zero, List.set_cons_succ]; rfl)) | ((with_reducible apply stO); rfl; rfl; exact bn; rfl; rfl; exact flatR; intro w3 b3 B3 ho3 hs3))
  refine ⟨B2.alloc B2.size _, ?_⟩
  go_upto_region 4 with (first | ((with_reducible apply ld); rfl; (with_reducible assumption); (simp only [List.set_cons_zero, List.set_cons_succ]; rfl)) | ((with_reducible apply stO); rfl; rfl; exact bn; rfl; rfl; exact flatR; intro w3 b3 B3 ho3 hs3))
  have b3' : Box w3 w2.heap.size #[.bool false, .bool false, .slice none 0 0, .int .i64 0, .int .i64 0, .int .i64 s.work, .int .i64 s.drops] := b3
  have B32 : Below w2.heap.size w2 w3 := ((Below.refl _ w2).alloc (Nat.le_refl _) _).trans B3
  have h3 := (h1.kept B2).kept B32
  have b23 := (b2.kept B2).kept B32
  have B30 := bOn (bOn B1 B2) B32
  have hn3 : w.heap.size < w2.heap.size := by have := b2.lt; have := B2.size; omega
  have c48 := (h3.at_ hp).c48
  clear b3 B3 ho3 hs3 bn h1 b2 c44 c45 B32 B2 B1
  cases hf : s.found with
  | none =>
    rw [hf] at c48
    replace c48 : w3.cell? ⟨A.sb, 48, none⟩ = some (.bool false) := c48
    have hR : p.bres D s = ⟨false, false, [], 0, 0, s.work, s.drops⟩ := by unfold Pb.bres; rw [hf]
    have HR := Lib.hid hR
    clear hR hf
    have g3 := b3'.load (off := 0) (n := 7) (cs' := #[.bool false, .bool false, .slice none 0 0, .int .i64 0, .int .i64 0, .int .i64 s.work, .int .i64 s.drops]) (Nat.le_refl _) rfl
    go_wp2_with (first | ((with_reducible apply ld); rfl; (with_reducible assumption); (simp only [List.set_cons_zero, List.set_cons_succ]; rfl)) | ((with_reducible apply stO); rfl; rfl; exact b23; rfl; rfl; exact flatR; intro w4 b4 B4 ho4 hs4))
    refine bodyPost_ret (results_cellAgg rfl rfl (b4.load (off := 0) (n := 7) (cs' := #[.bool false, .bool false, .slice none 0 0, .int .i64 0, .int .i64 0, .int .i64 s.work, .int .i64 s.drops]) (Nat.le_refl _) rfl)) rfl ?_
    rw [HR.out]
    exact (show ResPost _ _ _ _ from ⟨⟨none, 0, rfl, ⟨rfl, .inl ⟨rfl, rfl⟩⟩⟩, B30.trans B4⟩)
  | some en =>
    rw [hf] at c48
    replace c48 : w3.cell? ⟨A.sb, 48, none⟩ = some (.bool true) := c48
    obtain ⟨heo, hed⟩ := hs.fnd en hf
    obtain ⟨hpath, hlen, hdip, _⟩ := heo.path hc hed
    obtain ⟨_, l1, l2, _⟩ := probChk_ok hc
    have hNb := Pb.N_le hc
    have hLN : p.L.toNat ≤ en.bs.length := by unfold Pb.N at *; have := hlen; omega
    have hbd : ∀ b ∈ en.bs, b < 256 := fun b hb => by have := heo.lt b hb; omega
    have hdb := heo.dip_bd hc
    have HF := Lib.hid hf
    have HPATH := Lib.hid hpath
    have HDIP := Lib.hid hdip
    obtain ⟨LN, hLN'⟩ : ∃ LN, LN = p.L.toNat := ⟨_, rfl⟩
    have hLi : p.L = (LN : Int) := by omega
    rw [← hLN'] at hLN
    have HLN := Lib.hid hLN'
    have HLI := Lib.hid hLi
    obtain ⟨rb, hrb⟩ : ∃ rb, rb = w2.heap.size := ⟨_, rfl⟩
    rw [← hrb] at b3' hn3 ⊢
    have hbl : en.bs.length ≤ 1100 := by omega
    have hpos : 0 < en.bs.length := by omega
    clear hf hpath hdip hLN' hLi hrb hed hlen l1 l2 hNb heo
    have c0 := b3'.cell 0
    have z0 := b3'.frozen 0
    simp only [List.getElem?_toArray, List.getElem?_cons_zero] at c0
    have hge : w.heap.size ≤ rb := by omega
    have hrl : ∀ k, A.has k ∨ Ow k → k ≠ rb := fun k hk => by
      have h1 : k < w.heap.size := hk.elim h.hasLt fun hk => (h.ow k hk).2
      omega
    have HRL := Lib.hid hrl
    go_upto_region 6 with fail
    refine nameAny (fun W => Rq W p D most s es fv A Ow ∧ Box W w.heap.size #[.bool false, .bool false, .slice none 0 0, .int .i64 0, .int .i64 0, .int .i64 0, .int .i64 0] ∧ Box W rb #[.bool true, .bool false, .slice none 0 0, .int .i64 0, .int .i64 0, .int .i64 s.work, .int .i64 s.drops] ∧ Below w.heap.size w W ∧ rb < W.heap.size) ⟨h3.same (by simp) fun k hk => Below.heap_setCell _ _ _ _ (hrl k hk), b23.setOther (p := ⟨rb, 0, none⟩) (by show rb ≠ w.heap.size; omega) _, b3'.setCell (i := 0) (.bool true), B30.setCell (p := ⟨rb, 0, none⟩) hge _, by have := b3'.lt; simpa using this⟩ ?_
    clear c0 z0 h3 b23 b3' B30 c48 hrl
    rintro w5 ⟨h5, b25, b35, B50, hrl5⟩
    have hfnd := h5.fnd
    have hgd : (s.found.getD ent0) = en := by rw [HF.out]; rfl
    rw [hgd] at hfnd
    obtain ⟨ax, cx, hfv, hby, hlc, hob⟩ := hfnd
    obtain ⟨gx, ox, hax, _⟩ := hby.cell 0 hpos
    subst hax
    have c52 : w5.cell? ⟨A.sb, 52, none⟩ = some (.slice (some ⟨gx, ox, none⟩) en.bs.length cx) := by rw [← hfv]; exact (h5.at_ hp).c52
    have c38 : w5.cell? ⟨A.sb, 38, none⟩ = some (.int .i64 (LN : Int)) := by rw [← HLI.out]; exact (h5.at_ hp).c38
    have C52 := Lib.hid c52
    have C38 := Lib.hid c38
    have hLc : LN ≤ cx := by omega
    clear hfv hgd c52 c38
    (refine wp_region_treeT (fun W => Below w5.heap.size w5 W) 12 (.free 1 (.free 2 (.free 3 (.free 4 (.pure 5 (.free 6 (.free 7 (.free 8 (.free 9 (.pure 10 (.free 11 (.one 0 (.one 12 (.free 13 (.one 14 .nil))))))))))))))) (by kernel_rfl) (by kernel_rfl) ?_; simp only [List.getD_cons_zero, List.getD_cons_succ, wpOVI])
    intro w6 B6
    iterate 4
      refine ⟨rfl, _, fun W => by go_simp; first | done | rfl, ?_⟩
      try simp only [put_list, List.set_cons_zero, List.set_cons_succ]
    refine ⟨fun _ => B6, .slice (some ⟨gx, ox, none⟩) en.bs.length cx, fun W hI => by have c := KeptW.cell C52.out ⟨W, hI⟩; go_simp, ?_⟩
    try simp only [put_list, List.set_cons_zero, List.set_cons_succ]
    iterate 4
      refine ⟨rfl, _, fun W => by go_simp; first | done | rfl, ?_⟩
      try simp only [put_list, List.set_cons_zero, List.set_cons_succ]
    refine ⟨fun _ => B6, .int .i64 (LN : Int), fun W hI => by have c := KeptW.cell C38.out ⟨W, hI⟩; go_simp, ?_⟩
    try simp only [put_list, List.set_cons_zero, List.set_cons_succ]
    refine ⟨rfl, .slice (some ⟨gx, ox, none⟩) LN cx, fun W => pure_slHi rfl rfl hLc, ?_⟩
    try simp only [put_list, List.set_cons_zero, List.set_cons_succ]
    refine ⟨fun _ => B6, ?_⟩
    go_wp2_with fail
    refine ⟨B6.alloc B6.size _, ?_⟩
    have BA : Below w6.heap.size w6 (w6.alloc (.cells #[] 5)) := (Below.refl _ w6).alloc (Nat.le_refl _) _
    have hown : (w6.alloc (.cells #[] 5)).ownsRow w6.heap.size 5 1 (.slice (some ⟨w6.heap.size, 0, none⟩) 0 0) 0 [] := World.ownsRow_lit (e := 5) (size := 1) w6 #[] 0 (Nat.le_refl _) (by decide) rfl
    have hbyA : Bytes (w6.alloc (.cells #[] 5)) (some ⟨gx, ox, none⟩) (en.bs.take LN) := by
      have := ((hby.kept B6).kept BA).part 0 LN
      simpa using this
    have htl : (en.bs.take LN).length = LN := by rw [List.length_take, Nat.min_eq_left hLN]
    have HTL := Lib.hid htl
    have hLN11 : LN ≤ 1100 := by omega
    refine apB hown hbyA rfl rfl htl (by omega) (by simp) ?_
    intro v9 w9 hown9 hgr9 hat9
    have B9' := own_below hown hgr9 (by simp)
    obtain ⟨g9, c9, rfl, hc9, hg9⟩ := doc_form hown9 hat9
    simp only [Nat.zero_add, List.nil_append] at hown9 hc9 ⊢
    have B9 : Below w6.heap.size w6 w9 := BA.trans B9'
    have B95 := bOn B6 B9
    have h9 := h5.kept B95
    have b29 := b25.kept B95
    have b39 := b35.kept B95
    have B90 := bOn B50 B95
    have own9 : w9.ownsRow w.heap.size 5 1 (.slice (some ⟨g9, 0, none⟩) LN c9) LN (u8s (en.bs.take LN)) := owns_base hown9 (Nat.le_trans B50.size B6.size)
    have hgrb : g9 ≠ rb := by have := B6.size; omega
    have hg9w : w.heap.size < g9 := by have := B6.size; omega
    clear hown hbyA BA B9' hgr9 hat9 hown9 htl hby B6 B9 B95 h5 b25 b35 B50 hg9
    have c2 := b39.cell 2
    have z2 := b39.frozen 2
    simp only [List.getElem?_toArray, List.getElem?_cons_zero, List.getElem?_cons_succ] at c2
    refine ⟨rfl, ?_⟩
    first
      | refine ⟨rfl, _, fun W => by go_simp; first | done | rfl, ?_⟩
      | refine ⟨_, fun W => by go_simp; first | done | rfl, ?_⟩
    try simp only [put_list, List.set_cons_zero, List.set_cons_succ]
    go_upto_region 7 with fail
    refine nameAny (fun W => Rq W p D most s es fv A Ow ∧ Box W w.heap.size #[.bool false, .bool false, .slice none 0 0, .int .i64 0, .int .i64 0, .int .i64 0, .int .i64 0] ∧ Box W rb #[.bool true, .bool false, (.slice (some ⟨g9, 0, none⟩) LN c9), .int .i64 0, .int .i64 0, .int .i64 s.work, .int .i64 s.drops] ∧ W.ownsRow w.heap.size 5 1 (.slice (some ⟨g9, 0, none⟩) LN c9) LN (u8s (en.bs.take LN)) ∧ Below w.heap.size w W) ⟨h9.same (by simp) fun k hk => Below.heap_setCell _ _ _ _ (HRL.out k hk), b29.setOther (p := ⟨rb, 2, none⟩) (by show rb ≠ w.heap.size; omega) _, b39.setCell (i := 2) (.slice (some ⟨g9, 0, none⟩) LN c9), ownsN_block own9 fun k hk => Below.heap_setCell _ _ _ _ (by rw [← Option.some.inj hk]; exact hgrb), B90.setCell (p := ⟨rb, 2, none⟩) hge _⟩ ?_
    clear c2 z2 h9 b29 b39 own9 B90
    rintro w10 ⟨h10, b210, b310, own10, B100⟩
    have c51 : w10.cell? ⟨A.sb, 51, none⟩ = some (.int .i64 en.n.m) := by
      have hgd : (s.found.getD ent0) = en := by rw [HF.out]; rfl
      rw [← hgd]; exact (h10.at_ hp).c51
    have c3 := b310.cell 3
    have z3 := b310.frozen 3
    simp only [List.getElem?_toArray, List.getElem?_cons_zero, List.getElem?_cons_succ] at c3
    go_upto_region 8 with fail
    refine nameAny (fun W => Rq W p D most s es fv A Ow ∧ Box W w.heap.size #[.bool false, .bool false, .slice none 0 0, .int .i64 0, .int .i64 0, .int .i64 0, .int .i64 0] ∧ Box W rb #[.bool true, .bool false, (.slice (some ⟨g9, 0, none⟩) LN c9), .int .i64 en.n.m, .int .i64 0, .int .i64 s.work, .int .i64 s.drops] ∧ W.ownsRow w.heap.size 5 1 (.slice (some ⟨g9, 0, none⟩) LN c9) LN (u8s (en.bs.take LN)) ∧ Below w.heap.size w W) ⟨h10.same (by simp) fun k hk => Below.heap_setCell _ _ _ _ (HRL.out k hk), b210.setOther (p := ⟨rb, 3, none⟩) (by show rb ≠ w.heap.size; omega) _, b310.setCell (i := 3) (.int .i64 en.n.m), ownsN_block own10 fun k hk => Below.heap_setCell _ _ _ _ (by rw [← Option.some.inj hk]; exact hgrb), B100.setCell (p := ⟨rb, 3, none⟩) hge _⟩ ?_
    clear c51 c3 z3 h10 b210 b310 own10 B100
    rintro w11 ⟨h11, b211, b311, own11, B110⟩
    (refine wp_region_treeE (.pure 0 (.pure 1 (.pure 2 (.pure 3 (.pure 4 (.pure 5 (.one 6 (.pure 7 (.pure 8 (.pure 9 (.one 10 (.one 11 .nil)))))))))))) (by kernel_rfl) (by kernel_rfl) ?_; simp only [List.getD_cons_zero, List.getD_cons_succ, wpOTE])
    intro w12 B12
    have h12 := h11.kept B12
    have b212 := b211.kept B12
    have b312 := b311.kept B12
    have own12 := ownsN_block (w' := w12) own11 fun q hq => B12.block q (World.ownsRow.lt own11 q hq).2
    have B120 := bOn B110 B12
    clear h11 b211 b311 own11 B110 B12
    iterate 3
      refine ⟨rfl, _, fun W hW => by go_simp; first | done | rfl, ?_⟩
      try simp only [put_list, List.set_cons_zero, List.set_cons_succ]
    refine ⟨rfl, .agg (p.cells (.slice (some ⟨A.g, 0, none⟩) p.B.length A.c)), fun W hW => pure_ldR rfl (((h12.kept hW).at_ hp).all), ?_⟩
    try simp only [put_list, List.set_cons_zero, List.set_cons_succ]
    iterate 1
      refine ⟨rfl, _, fun W hW => by go_simp; first | done | rfl, ?_⟩
      try simp only [put_list, List.set_cons_zero, List.set_cons_succ]
    refine ⟨rfl, .slice (some ⟨g9, 0, none⟩) LN c9, fun W hW => by have c2 : W.cell? ⟨rb, 2, none⟩ = some (.slice (some ⟨g9, 0, none⟩) LN c9) := (b312.kept hW).cell 2; go_simp, ?_⟩
    try simp only [put_list, List.set_cons_zero, List.set_cons_succ]
    have hby12 : Bytes w12 (some ⟨g9, 0, none⟩) (en.bs.take LN) := own_bytes own12 (fun b hb => hbd b (List.mem_of_mem_take hb))
    have hdp := rq_Dip p (some ⟨A.g, 0, none⟩) A.c hp (en.bs.take LN) (some ⟨g9, 0, none⟩) c9 (by rw [HTL.out]; omega) w12 h12.tree.win hby12
    rw [HTL.out] at hdp
    have hdv : p.dip (en.bs.take LN) = en.dip := by
      have hck : p.pathChk (en.bs.take LN) = 0 := by rw [HLN.out]; exact Pb.path_chk hc HPATH.out.len HPATH.out.lt
      unfold Pb.dip
      rw [if_neg (by simp [hck]), HLN.out]
      exact HDIP.out
    rw [hdv] at hdp
    obtain ⟨ck, hck⟩ : ∃ ck, ck = p.pathChk (en.bs.take LN) := ⟨_, rfl⟩
    rw [← hck] at hdp
    clear hck hdv
    refine one_call rfl rfl inferInstance rfl ?_
    refine hdp.mono ?_
    rintro e w13 ⟨rfl, B13⟩
    refine ⟨_, rfl, rfl, B13, ?_⟩
    simp only [List.set_cons_zero, List.set_cons_succ]
    iterate 3
      refine ⟨rfl, _, fun W hW => by go_simp; first | done | rfl, ?_⟩
      try simp only [put_list, List.set_cons_zero, List.set_cons_succ]
    refine one_valR rfl (v := .int .i64 en.dip) (by go_simp) ⟨Below.refl _ _, ?_⟩
    try simp only [put_list, List.set_cons_zero, List.set_cons_succ]
    refine one_valR rfl (v := .int .i64 ck) (by go_simp) ⟨Below.refl _ _, ?_⟩
    try simp only [put_list, List.set_cons_zero, List.set_cons_succ]
    have h13 := h12.kept B13
    have b213 := b212.kept B13
    have b313 := b312.kept B13
    have own13 := ownsN_block (w' := w13) own12 fun q hq => B13.block q (World.ownsRow.lt own12 q hq).2
    have B130 := bOn B120 B13
    clear h12 b212 b312 own12 B120 B13 hby12 hdp
    have c4 := b313.cell 4
    have z4 := b313.frozen 4
    simp only [List.getElem?_toArray, List.getElem?_cons_zero, List.getElem?_cons_succ] at c4
    go_upto_region 10 with fail
    refine nameAny (fun W => Rq W p D most s es fv A Ow ∧ Box W w.heap.size #[.bool false, .bool false, .slice none 0 0, .int .i64 0, .int .i64 0, .int .i64 0, .int .i64 0] ∧ Box W rb #[.bool true, .bool false, (.slice (some ⟨g9, 0, none⟩) LN c9), .int .i64 en.n.m, .int .i64 en.dip, .int .i64 s.work, .int .i64 s.drops] ∧ W.ownsRow w.heap.size 5 1 (.slice (some ⟨g9, 0, none⟩) LN c9) LN (u8s (en.bs.take LN)) ∧ Below w.heap.size w W) ⟨h13.same (by simp) fun k hk => Below.heap_setCell _ _ _ _ (HRL.out k hk), b213.setOther (p := ⟨rb, 4, none⟩) (by show rb ≠ w.heap.size; omega) _, b313.setCell (i := 4) (.int .i64 en.dip), ownsN_block own13 fun k hk => Below.heap_setCell _ _ _ _ (by rw [← Option.some.inj hk]; exact hgrb), B130.setCell (p := ⟨rb, 4, none⟩) hge _⟩ ?_
    clear c4 z4 h13 b213 b313 own13 B130
    rintro w14 ⟨h14, b214, b314, own14, B140⟩
    have c47 : w14.cell? ⟨A.sb, 47, none⟩ = some (.bool s.some_) := (h14.at_ hp).c47
    have c46 : w14.cell? ⟨A.sb, 46, none⟩ = some (.int .i64 s.gone) := (h14.at_ hp).c46
    have c42 : w14.cell? ⟨A.sb, 42, none⟩ = some (.int .i64 D) := (h14.at_ hp).c42
    have c4 := b314.cell 4
    simp only [List.getElem?_toArray, List.getElem?_cons_zero, List.getElem?_cons_succ] at c4
    cases hsm : s.some_ with
    | false =>
      rw [hsm] at c47
      have SM := Lib.hid hsm
      clear hsm
      (refine wp_region_kept_tail 19 (by kernel_rfl) (by kernel_rfl) ?_; simp only [List.take_succ_cons, List.take_zero, List.drop_succ_cons, List.drop_zero])
      have q47 := KeptW.cell c47
      clear c47 c46 c42 c4
      repeat first
        | go_big_quiet_skip
        | go_big_quiet_step (fail)
      refine wpQuiet_nil ?_
      intro w15 B15
      clear q47
      have hR : p.bres D s = ⟨true, true, en.bs.take LN, en.n.m, en.dip, s.work, s.drops⟩ := by
        unfold Pb.bres
        rw [HF.out, HLN.out, SM.out]
        simp only [Bool.not_true, Bool.not_false, Bool.true_or, Bool.false_or]
      have HR := Lib.hid hR
      have h15 := h14.kept B15
      have b215 := b214.kept B15
      have b315 := b314.kept B15
      have own15 := ownsN_block (w' := w15) own14 fun q hq => B15.block q (World.ownsRow.lt own14 q hq).2
      have B150 := bOn B140 B15
      clear hR h14 b214 b314 own14 B140 B15
      have c1 := b315.cell 1
      have z1 := b315.frozen 1
      simp only [List.getElem?_toArray, List.getElem?_cons_zero, List.getElem?_cons_succ] at c1
      go_upto_region 11 with fail
      refine nameAny (fun W => Box W w.heap.size #[.bool false, .bool false, .slice none 0 0, .int .i64 0, .int .i64 0, .int .i64 0, .int .i64 0] ∧ Box W rb #[.bool true, .bool (true), (.slice (some ⟨g9, 0, none⟩) LN c9), .int .i64 en.n.m, .int .i64 en.dip, .int .i64 s.work, .int .i64 s.drops] ∧ W.ownsRow w.heap.size 5 1 (.slice (some ⟨g9, 0, none⟩) LN c9) LN (u8s (en.bs.take LN)) ∧ Below w.heap.size w W) ⟨b215.setOther (p := ⟨rb, 1, none⟩) (by show rb ≠ w.heap.size; omega) _, b315.setCell (i := 1) (.bool (true)), ownsN_block own15 fun k hk => Below.heap_setCell _ _ _ _ (by rw [← Option.some.inj hk]; exact hgrb), B150.setCell (p := ⟨rb, 1, none⟩) hge _⟩ ?_
      clear c1 z1 h15 b215 b315 own15 B150
      rintro w16 ⟨b216, b316, own16, B160⟩
      have g16 := b316.load (off := 0) (n := 7) (cs' := #[.bool true, .bool (true), (.slice (some ⟨g9, 0, none⟩) LN c9), .int .i64 en.n.m, .int .i64 en.dip, .int .i64 s.work, .int .i64 s.drops]) (Nat.le_refl _) rfl
      go_wp2_with (first | ((with_reducible apply ld); rfl; (with_reducible assumption); (simp only [List.set_cons_zero, List.set_cons_succ]; rfl)) | ((with_reducible apply stO); rfl; rfl; exact b216; rfl; rfl; exact flatR; intro w17 b17 B17 ho17 hs17))
      refine bodyPost_ret (results_cellAgg rfl rfl (b17.load (off := 0) (n := 7) (cs' := #[.bool true, .bool (true), (.slice (some ⟨g9, 0, none⟩) LN c9), .int .i64 en.n.m, .int .i64 en.dip, .int .i64 s.work, .int .i64 s.drops]) (Nat.le_refl _) rfl)) rfl ?_
      rw [HR.out]
      refine (show ResPost _ _ _ _ from ⟨⟨some ⟨g9, 0, none⟩, c9, by show _ = Ending.returned (.agg #[.bool true, .bool _, .slice _ (en.bs.take LN).length _, _, _, _, _]); rw [HTL.out], ?_⟩, B160.trans B17⟩)
      show w17.ownsRow w.heap.size 5 1 (.slice (some ⟨g9, 0, none⟩) (en.bs.take LN).length c9) (en.bs.take LN).length (u8s (en.bs.take LN))
      rw [HTL.out]
      exact ownsN_block own16 fun k hk => ho17 k (by rw [← Option.some.inj hk]; exact Nat.ne_of_gt hg9w)
    | true =>
      rw [hsm] at c47
      have SM := Lib.hid hsm
      clear hsm
      (refine wp_region_kept_tail 19 (by kernel_rfl) (by kernel_rfl) ?_; simp only [List.take_succ_cons, List.take_zero, List.drop_succ_cons, List.drop_zero])
      have q47 := KeptW.cell c47
      have q46 := KeptW.cell c46
      have q42 := KeptW.cell c42
      have q4 := KeptW.cell c4
      clear c47 c46 c42 c4
      repeat first
        | go_big_quiet_skip
        | go_big_quiet_step (exact Calls.kept (ref11_Down en.dip D hD (by omega) (by omega) _))
      refine wpQuiet_nil ?_
      intro w15 B15
      clear q47 q46 q42 q4
      obtain ⟨ex, hex⟩ : ∃ ex, ex = decide (s.gone ≤ en.dip / D) := ⟨_, rfl⟩
      rw [← hex]
      have hR : p.bres D s = ⟨true, ex, en.bs.take LN, en.n.m, en.dip, s.work, s.drops⟩ := by
        unfold Pb.bres
        rw [HF.out, HLN.out, SM.out]
        simp only [Bool.not_true, Bool.not_false, Bool.true_or, Bool.false_or]
        rw [hex]
      have HR := Lib.hid hR
      have h15 := h14.kept B15
      have b215 := b214.kept B15
      have b315 := b314.kept B15
      have own15 := ownsN_block (w' := w15) own14 fun q hq => B15.block q (World.ownsRow.lt own14 q hq).2
      have B150 := bOn B140 B15
      clear hex hR h14 b214 b314 own14 B140 B15
      have c1 := b315.cell 1
      have z1 := b315.frozen 1
      simp only [List.getElem?_toArray, List.getElem?_cons_zero, List.getElem?_cons_succ] at c1
      go_upto_region 11 with fail
      refine nameAny (fun W => Box W w.heap.size #[.bool false, .bool false, .slice none 0 0, .int .i64 0, .int .i64 0, .int .i64 0, .int .i64 0] ∧ Box W rb #[.bool true, .bool (ex), (.slice (some ⟨g9, 0, none⟩) LN c9), .int .i64 en.n.m, .int .i64 en.dip, .int .i64 s.work, .int .i64 s.drops] ∧ W.ownsRow w.heap.size 5 1 (.slice (some ⟨g9, 0, none⟩) LN c9) LN (u8s (en.bs.take LN)) ∧ Below w.heap.size w W) ⟨b215.setOther (p := ⟨rb, 1, none⟩) (by show rb ≠ w.heap.size; omega) _, b315.setCell (i := 1) (.bool (ex)), ownsN_block own15 fun k hk => Below.heap_setCell _ _ _ _ (by rw [← Option.some.inj hk]; exact hgrb), B150.setCell (p := ⟨rb, 1, none⟩) hge _⟩ ?_
      clear c1 z1 h15 b215 b315 own15 B150
      rintro w16 ⟨b216, b316, own16, B160⟩
      have g16 := b316.load (off := 0) (n := 7) (cs' := #[.bool true, .bool (ex), (.slice (some ⟨g9, 0, none⟩) LN c9), .int .i64 en.n.m, .int .i64 en.dip, .int .i64 s.work, .int .i64 s.drops]) (Nat.le_refl _) rfl
      go_wp2_with (first | ((with_reducible apply ld); rfl; (with_reducible assumption); (simp only [List.set_cons_zero, List.set_cons_succ]; rfl)) | ((with_reducible apply stO); rfl; rfl; exact b216; rfl; rfl; exact flatR; intro w17 b17 B17 ho17 hs17))
      refine bodyPost_ret (results_cellAgg rfl rfl (b17.load (off := 0) (n := 7) (cs' := #[.bool true, .bool (ex), (.slice (some ⟨g9, 0, none⟩) LN c9), .int .i64 en.n.m, .int .i64 en.dip, .int .i64 s.work, .int .i64 s.drops]) (Nat.le_refl _) rfl)) rfl ?_
      rw [HR.out]
      refine (show ResPost _ _ _ _ from ⟨⟨some ⟨g9, 0, none⟩, c9, by show _ = Ending.returned (.agg #[.bool true, .bool _, .slice _ (en.bs.take LN).length _, _, _, _, _]); rw [HTL.out], ?_⟩, B160.trans B17⟩)
      show w17.ownsRow w.heap.size 5 1 (.slice (some ⟨g9, 0, none⟩) (en.bs.take LN).length c9) (en.bs.take LN).length (u8s (en.bs.take LN))
      rw [HTL.out]
      exact ownsN_block own16 fun k hk => ho17 k (by rw [← Option.some.inj hk]; exact Nat.ne_of_gt hg9w)
end Go.Proofs.YtnjmplapjnnjdaaGreat

/- The search of layer 17, the document's: Decode. -/
namespace Go.Proofs.YtnjmplapjnnjdaaGreat
open Go.RowKit
set_option linter.unusedSimpArgs false
set_option linter.unusedVariables false

theorem RqM.res {w : World} {p : Pb} (hp : p.Ok) (hc : probChk p = 0) {D : Int} (hD : 1 ≤ D) {most : Nat} {s : Bq} {sb : Nat} {F : Nat → Prop} (h : RqM w p D most s sb F) :
    Calls Tryz.prog 29 #[.pointer (some ⟨sb, 0, none⟩)] w (ResPost (p.bres D s) w) := by
  obtain ⟨es, fv, A, Ow, rfl, hR, hF⟩ := h.rq
  exact rq_Result hp hc hD h.ok hR
end Go.Proofs.YtnjmplapjnnjdaaGreat
