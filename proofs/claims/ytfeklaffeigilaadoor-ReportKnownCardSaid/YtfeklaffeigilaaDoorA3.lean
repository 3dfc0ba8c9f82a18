/- Several texts in one. No condition. -/
import Derived.Test.YtfeklaffeigilaaDoorProg
import Derived.Test.YtfeklaffeigilaaDoorTU
import Derived.Shelf.Strings.OnBuilder
import Derived.Shelf.Strconv.Itoa3
import Derived.Test.YtfeklaffeigilaaDoorTy
import Derived.Test.YtfeklaffeigilaaDoorTV
import Derived.Test.YtfeklaffeigilaaDoorSo
namespace Go.Proofs.YtfeklaffeigilaaDoor
open Go.Shelf Go.RowKit
set_option linter.unusedVariables false
set_option linter.unusedSimpArgs false
def bu_r:Go.Shelf.Ren:=⟨fun | 156=>33 | 165=>57 | 166=>32 | 169=>34 | 240=>56 | 241=>72 | 276=>71 | 277=>91 | n=>n,fun | 31=>72 | 37=>69 | 70=>68 | 72=>71 | 75=>76 | 76=>77 | 80=>81 | 127=>111 | 164=>127 | n=>n,fun n=>n⟩
theorem bu_l:Lays.n156 Tryd.prog bu_r:={
 mixed:=by kernel_rfl,
 f156:=Tryd.func33.trans (congrArg some (by kernel_rfl)),
 f165:=Tryd.func57.trans (congrArg some (by kernel_rfl)),
 f166:=Tryd.func32.trans (congrArg some (by kernel_rfl)),
 f169:=Tryd.func34.trans (congrArg some (by kernel_rfl)),
 f240:=Tryd.func56.trans (congrArg some (by kernel_rfl)),
 f241:=Tryd.func72.trans (congrArg some (by kernel_rfl)),
 f276:=Tryd.func71.trans (congrArg some (by kernel_rfl)),
 f277:=Tryd.func91.trans (congrArg some (by kernel_rfl)),
 t0:=Tryd.underlying0,
 a0:=Tryd.isAgg0,
 z0:=Tryd.sizeOf0,
 v0:=Tryd.zeroValue0,
 t3:=Tryd.underlying3,
 a3:=Tryd.isAgg3,
 z3:=Tryd.sizeOf3,
 v3:=Tryd.zeroValue3,
 t4:=Tryd.underlying4,
 a4:=Tryd.isAgg4,
 z4:=Tryd.sizeOf4,
 v4:=Tryd.zeroValue4,
 t9:=Tryd.underlying9,
 a9:=Tryd.isAgg9,
 z9:=Tryd.sizeOf9,
 v9:=Tryd.zeroValue9,
 t20:=Tryd.underlying20,
 a20:=Tryd.isAgg20,
 z20:=Tryd.sizeOf20,
 v20:=Tryd.zeroValue20,
 t31:=Tryd.underlying72,
 a31:=Tryd.isAgg72,
 z31:=Tryd.sizeOf72,
 v31:=Tryd.zeroValue72,
 t37:=Tryd.underlying69,
 a37:=Tryd.isAgg69,
 z37:=Tryd.sizeOf69,
 v37:=Tryd.zeroValue69,
 t70:=Tryd.underlying68,
 a70:=Tryd.isAgg68,
 z70:=Tryd.sizeOf68,
 v70:=Tryd.zeroValue68,
 t72:=Tryd.underlying71,
 a72:=Tryd.isAgg71,
 z72:=Tryd.sizeOf71,
 v72:=Tryd.zeroValue71,
 t75:=Tryd.underlying76,
 a75:=Tryd.isAgg76,
 z75:=Tryd.sizeOf76,
 v75:=Tryd.zeroValue76,
 t76:=Tryd.underlying77,
 a76:=Tryd.isAgg77,
 z76:=Tryd.sizeOf77,
 v76:=Tryd.zeroValue77,
 t127:=Tryd.underlying111,
 a127:=Tryd.isAgg111,
 z127:=Tryd.sizeOf111,
 v127:=Tryd.zeroValue111,
 t164:=Tryd.underlying127,
 a164:=Tryd.isAgg127,
 z164:=Tryd.sizeOf127,
 v164:=Tryd.zeroValue127 }
def it_r:Go.Shelf.Ren:=⟨fun | 129=>103 | 171=>31 | 243=>55 | 246=>70 | 283=>87 | 284=>88 | 285=>89 | 286=>90 | 317=>107 | 318=>108 | 319=>109 | 320=>110 | 337=>116 | 338=>117 | n=>n,fun | 37=>69 | 46=>135 | 51=>160 | 53=>143 | 171=>142 | 173=>146 | 212=>162 | 213=>163 | 232=>173 | 233=>174 | n=>n,fun | 17=>0 | 18=>2 | 19=>3 | n=>n⟩
theorem it_l:LaysM.n171 Tryd.prog it_r:={
 mixed:=by kernel_rfl,
 f129:=Tryd.func103.trans (congrArg some (by kernel_rfl)),
 f171:=Tryd.func31.trans (congrArg some (by kernel_rfl)),
 f243:=Tryd.func55.trans (congrArg some (by kernel_rfl)),
 f246:=Tryd.func70.trans (congrArg some (by kernel_rfl)),
 f283:=Tryd.func87.trans (congrArg some (by kernel_rfl)),
 f284:=Tryd.func88.trans (congrArg some (by kernel_rfl)),
 f285:=Tryd.func89.trans (congrArg some (by kernel_rfl)),
 f286:=Tryd.func90.trans (congrArg some (by kernel_rfl)),
 f317:=Tryd.func107.trans (congrArg some (by kernel_rfl)),
 f318:=Tryd.func108.trans (congrArg some (by kernel_rfl)),
 f319:=Tryd.func109.trans (congrArg some (by kernel_rfl)),
 f320:=Tryd.func110.trans (congrArg some (by kernel_rfl)),
 f337:=Tryd.func116.trans (congrArg some (by kernel_rfl)),
 f338:=Tryd.func117.trans (congrArg some (by kernel_rfl)),
 t0:=Tryd.underlying0,
 a0:=Tryd.isAgg0,
 z0:=Tryd.sizeOf0,
 v0:=Tryd.zeroValue0,
 t2:=Tryd.underlying2,
 a2:=Tryd.isAgg2,
 z2:=Tryd.sizeOf2,
 v2:=Tryd.zeroValue2,
 t3:=Tryd.underlying3,
 a3:=Tryd.isAgg3,
 z3:=Tryd.sizeOf3,
 v3:=Tryd.zeroValue3,
 t4:=Tryd.underlying4,
 a4:=Tryd.isAgg4,
 z4:=Tryd.sizeOf4,
 v4:=Tryd.zeroValue4,
 t5:=Tryd.underlying5,
 a5:=Tryd.isAgg5,
 z5:=Tryd.sizeOf5,
 v5:=Tryd.zeroValue5,
 t9:=Tryd.underlying9,
 a9:=Tryd.isAgg9,
 z9:=Tryd.sizeOf9,
 v9:=Tryd.zeroValue9,
 t20:=Tryd.underlying20,
 a20:=Tryd.isAgg20,
 z20:=Tryd.sizeOf20,
 v20:=Tryd.zeroValue20,
 t37:=Tryd.underlying69,
 a37:=Tryd.isAgg69,
 z37:=Tryd.sizeOf69,
 v37:=Tryd.zeroValue69,
 t46:=Tryd.underlying135,
 a46:=Tryd.isAgg135,
 z46:=Tryd.sizeOf135,
 v46:=Tryd.zeroValue135,
 t51:=Tryd.underlying160,
 a51:=Tryd.isAgg160,
 z51:=Tryd.sizeOf160,
 v51:=Tryd.zeroValue160,
 t53:=Tryd.underlying143,
 a53:=Tryd.isAgg143,
 z53:=Tryd.sizeOf143,
 v53:=Tryd.zeroValue143,
 t171:=Tryd.underlying142,
 a171:=Tryd.isAgg142,
 z171:=Tryd.sizeOf142,
 v171:=Tryd.zeroValue142,
 t173:=Tryd.underlying146,
 a173:=Tryd.isAgg146,
 z173:=Tryd.sizeOf146,
 v173:=Tryd.zeroValue146,
 t212:=Tryd.underlying162,
 a212:=Tryd.isAgg162,
 z212:=Tryd.sizeOf162,
 v212:=Tryd.zeroValue162,
 t213:=Tryd.underlying163,
 a213:=Tryd.isAgg163,
 z213:=Tryd.sizeOf163,
 t232:=Tryd.underlying173,
 a232:=Tryd.isAgg173,
 z232:=Tryd.sizeOf173,
 v232:=Tryd.zeroValue173,
 t233:=Tryd.underlying174,
 a233:=Tryd.isAgg174,
 z233:=Tryd.sizeOf174,
 v233:=Tryd.zeroValue174,
 g17:=by kernel_rfl,
 g18:=by kernel_rfl,
 g19:=by kernel_rfl,
 i0:=by kernel_rfl,
 i2:=by kernel_rfl,
 i3:=by kernel_rfl,
 i4:=by kernel_rfl,
 i5:=by kernel_rfl,
 i9:=by kernel_rfl,
 i20:=by kernel_rfl,
 i37:=by kernel_rfl,
 i46:=by kernel_rfl,
 i51:=by kernel_rfl,
 i53:=by kernel_rfl,
 i171:=by kernel_rfl,
 i173:=by kernel_rfl,
 i212:=by kernel_rfl,
 i232:=by kernel_rfl,
 i233:=by kernel_rfl,
 m17:=by kernel_rfl,
 m18:=by kernel_rfl,
 m19:=by kernel_rfl }
theorem bu_x:Builder.Extra Tryd.prog bu_r:={
 sizeBuilder:=by kernel_rfl,
 liesBuilder:=by kernel_rfl,
 t5:=Tryd.underlying5,
 a5:=Tryd.isAgg5,
 z5:=Tryd.sizeOf5,
 v5:=Tryd.zeroValue5,
 infoByte:=by kernel_rfl,
 cellsByte:=by kernel_rfl,
 sizeByte:=by kernel_rfl,
 neB5:=by decide }
abbrev ptrB(b:Nat):Value:=.pointer (some ⟨b,0,none⟩)
section
variable {P:Program} {ρ:Go.Shelf.Ren} {w w':World}
theorem wpl_app{ops:Array Oper}{rest:List Oper}{o:Oper}{a:Act}{Q:Exit→Act→World→Prop}(hgd:o.guard=none)(sl x:Operand)(t u:TypeId)
  (ho:o.op = .call { callee:=.builtin .append,args:=#[sl,x],argTypes:=#[t,u] }) {v v':Value} {s:ByteArray} (hs:a.eval sl=v) (hx:a.eval x = .string s)
  (hr:(Builtin.append_ #[t,u] o.type #[v,.string s]).run P w = .ok v' w') (h:wpList P ops Q rest (a.put o.dst v') w'):wpList P ops Q (o::rest) a w:=by
 refine wpList_plain hgd fun K hK=>?_;unfold Oper.wp execOp;simp only [ho,resolve,invoke,builtin,Sem.run_bind,Sem.run_pure,Result.andThen_ok,List.map_toArray,List.map_cons,List.map_nil,hs,hx,hr];exact hK _ _ h
set_option maxHeartbeats 2000000 in
set_option maxRecDepth 100000 in
theorem ws_run(L:Lays.n166 P ρ)(X:Builder.Extra P ρ)(b:Nat)(s:ByteArray)(w w1 w2:World)(v:Value)(A:Option Addr)(n c:Nat)
  (hcc:Calls P (ρ.f 240) #[ptrB b] w fun e w'=>e = .returned (.tuple #[])∧w'=w1)
  (hb1:w1.heap[b]?=some (.cells #[ptrB b,v] (ρ.t 72) (0,0)))
  (hr:∀ty,(Builtin.append_ #[ρ.t 37,ρ.t 9] ty #[v,.string s]).run P w1 = .ok (.slice A n c) w2)
  (hb2:w2.heap[b]?=some (.cells #[ptrB b,v] (ρ.t 72) (0,0))) :
  Calls P (ρ.f 166) #[ptrB b,.string s] w fun e w'=>e = .returned (.tuple #[.int .i64 s.size,.nilIface])∧w'=w2.setCell ⟨b,1,none⟩ (.slice A n c):=by
 have mixed:=L.mixed;have t72:=L.t72; have a72:=L.a72; have z72:=L.z72; have v72:=L.v72; have u72:=run_underlying L.t72;have t70:=L.t70; have a70:=L.a70; have z70:=L.z70; have v70:=L.v70; have u70:=run_underlying L.t70;have t37:=L.t37; have a37:=L.a37; have z37:=L.z37; have v37:=L.v37; have u37:=run_underlying L.t37;have t3:=L.t3; have a3:=L.a3; have z3:=L.z3; have v3:=L.v3; have u3:=run_underlying L.t3;have t9:=L.t9; have a9:=L.a9; have z9:=L.z9; have v9:=L.v9; have u9:=run_underlying L.t9;have t4:=L.t4; have a4:=L.a4; have z4:=L.z4; have v4:=L.v4; have u4:=run_underlying L.t4;have t5:=X.t5; have a5:=X.a5; have z5:=X.z5; have v5:=X.v5; have u5:=run_underlying X.t5;have e240:∀args w,(callFunc (ρ.f 240) args).run P w = .ok (.enter (ρ.f 240) args) w:=Qbp L.f240 (by kernel_rfl) rfl;have c0:w1.cell? ⟨b,0,none⟩=some (ptrB b):=by rw [Lib.cell_of_heap hb1]; rfl
 have c1:w1.cell? ⟨b,1,none⟩=some v:=by rw [Lib.cell_of_heap hb1]; rfl
 have d0:w2.cell? ⟨b,0,none⟩=some (ptrB b):=by rw [Lib.cell_of_heap hb2]; rfl
 have d1:w2.cell? ⟨b,1,none⟩=some v:=by rw [Lib.cell_of_heap hb2]; rfl
 have f1:w2.frozen? ⟨b,1,none⟩=false:=Lib.frozen_of_heap hb2 1;have HR:Hid (∀ty,(Builtin.append_ #[ρ.t 37,ρ.t 9] ty #[v,.string s]).run P w1 = .ok (.slice A n c) w2):=hr
 clear hr
 go_enter L.f166,Body.n166_ntmps ρ
 go_wp2_with (go_at_fn (ρ.f 240); refine hcc.mono ?_)
 rintro e w' ⟨rfl,rfl⟩
 go_wp2_with (at_builtin; refine wpl_app rfl _ _ (ρ.t 37) (ρ.t 9) rfl rfl rfl (HR.out _) ?_)
 go_wp2
 go_ret2
 exact ⟨rfl,rfl⟩
end
section
variable {P:Program} {ρ:Go.Shelf.Ren} {w w':World}
set_option maxHeartbeats 1000000 in
set_option maxRecDepth 100000 in
theorem str_run(L:Lays.n169 P ρ)(X:Builder.Extra P ρ)(b g cap:Nat)(p:Value)(cur:Array Value)(l:List UInt8)(w:World)(h0:l≠[])
  (hb:w.heap[b]?=some (.cells #[p,.slice (some ⟨g,0,none⟩) l.length cap] (ρ.t 72) (0,0))) (hg:w.heap[g]?=some (.cells cur (ρ.t 5) (0,0)))
  (hnc:l.length≤cap) (hcm:cap≤maxLen) (hcs:cur.size=cap) (htake:cur.toList.take l.length=Lib.byteCells l) :
  Calls P (ρ.f 169) #[ptrB b] w fun e w'=>e = .returned (.string ⟨l.toArray⟩)∧w'=w.drew.freeze ⟨g,0,none⟩ l.length:=by
 have hl0:l.length≠0:=by simpa using h0
 have c1:w.drew.cell? ⟨b,1,none⟩=some (.slice (some ⟨g,0,none⟩) l.length cap):=by
  have:w.drew.heap[b]?=some (.cells #[p,.slice (some ⟨g,0,none⟩) l.length cap] (ρ.t 72) (0,0)):=hb;rw [Lib.cell_of_heap this]; rfl
 have hSD:(Builtin.unsafeSliceData_ #[(ρ.t 37)] (ρ.t 127) #[.slice (some ⟨g,0,none⟩) l.length cap]).run P w.drew = .ok (.pointer (some ⟨g,0,none⟩)) w.drew :=
  Lib.run_unsafeSliceData_row _ _ _ _ _ _ (by omega)
 have hUS:(Builtin.unsafeString_ #[(ρ.t 127),(ρ.t 3)] (ρ.t 9) #[.pointer (some ⟨g,0,none⟩),.int .i64 l.length]).run P w.drew = .ok (.string ⟨l.toArray⟩) (w.drew.freeze ⟨g,0,none⟩ l.length):=by
  have hg':w.drew.heap[g]?=some (.cells cur (ρ.t 5) (0,0)):=hg;refine Lib.run_unsafeString_row w.drew (ρ.t 127) (ρ.t 3) (ρ.t 9) (ρ.t 5) L.t127 X.cellsByte g cur.size (by simp [World.shape?,hg']) l h0 (by omega) (by unfold maxLen at hcm; omega) ?_;intro j x hx;have e:(⟨g,0,none⟩:Addr).add j=⟨g,j,none⟩:=by unfold Addr.add; split<;>simp_all
  rw [e,Lib.cell_of_heap hg',←Array.getElem?_toList];have h1:(Lib.byteCells l)[j]?=some (.int .u8 x.toNat):=by simp [Lib.byteCells,hx]
  rw [←htake,List.getElem?_take] at h1
  split at h1
  ·exact h1
  ·cases h1
 have mixed:=L.mixed;have t72:=L.t72; have a72:=L.a72; have z72:=L.z72; have v72:=L.v72; have u72:=run_underlying L.t72;have t70:=L.t70; have a70:=L.a70; have z70:=L.z70; have v70:=L.v70; have u70:=run_underlying L.t70;have t37:=L.t37; have a37:=L.a37; have z37:=L.z37; have v37:=L.v37; have u37:=run_underlying L.t37;have t127:=L.t127; have a127:=L.a127; have z127:=L.z127; have v127:=L.v127; have u127:=run_underlying L.t127;have t3:=L.t3; have a3:=L.a3; have z3:=L.z3; have v3:=L.v3; have u3:=run_underlying L.t3;have t9:=L.t9; have a9:=L.a9; have z9:=L.z9; have v9:=L.v9; have u9:=run_underlying L.t9;have t5:=X.t5; have a5:=X.a5; have z5:=X.z5; have v5:=X.v5; have u5:=run_underlying X.t5
 go_enter L.f169,Body.n169_ntmps ρ
 go_wp2
 go_region_o
 all_goals (go_wp2; go_ret; exact ⟨rfl,rfl⟩)
set_option maxHeartbeats 2000000 in
set_option maxRecDepth 1000000 in
theorem grow_run(L:Lays.n241 P ρ)(X:Builder.Extra P ρ)(b n:Nat)(w:World) (hbk:w.heap[b]?=some (.cells #[ptrB b,.slice none 0 0] (ρ.t 72) (0,0))) (hn:n≤281474976710656) :
  Calls P (ρ.f 241) #[ptrB b,.int .i64 n] w fun e w'=>e = .returned (.tuple #[])∧∃(cs:Array Value) (k:Nat),n≤cs.size∧cs.size≤maxLen∧w'=((w.setCell ⟨b,1,none⟩ (.slice (some ⟨w.heap.size,0,none⟩) 0 cs.size)).alloc (.cells cs (ρ.t 5))).drewN k:=by
 obtain ⟨cs,hrun,hle,hmax⟩:=Lib.run_makeNoZero (P:=P) w.drew #[(ρ.t 3)] (ρ.t 37) (ρ.t 5) L.t37 n hn;have hw:IntKind.i64.wrap (IntKind.i64.wrap 0+(n:Int))=n:=by
  rw [IntKind.wrap_i64,IntKind.wrap_i64];omega
 have hcall:(callFunc (ρ.f 277) #[.int .i64 (IntKind.i64.wrap (IntKind.i64.wrap 0+(n:Int)))]).run P w.drew = .ok (.value (.slice (some ⟨w.drew.heap.size,0,none⟩) n cs.size)) (w.drew.drew.drew.alloc (.cells cs (ρ.t 5))):=by
  rw [hw,run_callFunc_extern L.f277 (by kernel_rfl) (by kernel_rfl) (by kernel_rfl) (e:=Extern.BytealgMakeNoZero.makeNoZero #[(ρ.t 3)] #[(ρ.t 37)]) (by kernel_rfl),hrun];rfl
 have hlt:b<w.heap.size:=(Array.getElem?_eq_some_iff.1 hbk).1;have c1:w.drew.cell? ⟨b,1,none⟩=some (.slice none 0 0):=by
  have:w.drew.heap[b]?=_:=hbk;rw [Lib.cell_of_heap this]; rfl
 have c2:(w.alloc (.cells cs (ρ.t 5))).cell? ⟨b,1,none⟩=some (.slice none 0 0):=by
  have:(w.alloc (.cells cs (ρ.t 5))).heap[b]?=_:=(Lib.alloc_old w _ b hlt).trans hbk;rw [Lib.cell_of_heap this]; rfl
 have f2:(w.alloc (.cells cs (ρ.t 5))).frozen? ⟨b,1,none⟩=false:=Lib.frozen_of_heap ((Lib.alloc_old w _ b hlt).trans hbk) 1;have hcopy:∀W:World,(Builtin.copy_ #[(ρ.t 37),(ρ.t 37)] (ρ.t 3) #[.slice (some ⟨w.heap.size,0,none⟩) 0 cs.size,.slice none 0 0]).run P W = .ok (goInt 0) W :=
  fun W=>run_copy_none W (ρ.t 37) (ρ.t 37) (ρ.t 3) (ρ.t 5) _ _ 0 cs.size 0 0 L.t37 X.sizeByte rfl
 clear hw
 have hsz:cs.size≤maxLen:=hmax (by unfold maxLen; omega);have mixed:=L.mixed;have t72:=L.t72; have a72:=L.a72; have z72:=L.z72; have v72:=L.v72; have u72:=run_underlying L.t72;have t70:=L.t70; have a70:=L.a70; have z70:=L.z70; have v70:=L.v70; have u70:=run_underlying L.t70;have t37:=L.t37; have a37:=L.a37; have z37:=L.z37; have v37:=L.v37; have u37:=run_underlying L.t37;have t3:=L.t3; have a3:=L.a3; have z3:=L.z3; have v3:=L.v3; have u3:=run_underlying L.t3;have t5:=X.t5; have a5:=X.a5; have z5:=X.z5; have v5:=X.v5; have u5:=run_underlying X.t5;have HF:Hid (n≤cs.size∧cs.size≤maxLen):=⟨hle,hsz⟩
 clear hle hsz hmax
 go_enter L.f241,Body.n241_ntmps ρ
 go_wp2
 go_region_o
 all_goals (go_wp2; go_end0; exact ⟨rfl,cs,3,HF.out.1,HF.out.2,rfl⟩)
set_option maxHeartbeats 2000000 in
set_option maxRecDepth 1000000 in
theorem Grow_run(L:Lays.n165 P ρ)(X:Builder.Extra P ρ)(b n:Nat)(w:World) (hbk:w.heap[b]?=some (.cells #[.pointer none,.slice none 0 0] (ρ.t 72) (0,0))) (h0:0<n) (hn:n≤281474976710656) :
  Calls P (ρ.f 165) #[ptrB b,.int .i64 n] w fun e w'=>e = .returned (.tuple #[])∧∃(cs:Array Value) (k:Nat),n≤cs.size∧cs.size≤maxLen∧w'=(((w.setCell ⟨b,0,none⟩ (ptrB b)).setCell ⟨b,1,none⟩ (.slice (some ⟨w.heap.size,0,none⟩) 0 cs.size)).alloc (.cells cs (ρ.t 5))).drewN k:=by
 have hbk1:(w.setCell ⟨b,0,none⟩ (ptrB b)).heap[b]?=some (.cells #[ptrB b,.slice none 0 0] (ρ.t 72) (0,0)):=by
  simp [World.setCell,Array.getElem?_modify,hbk]
 have c1:(w.setCell ⟨b,0,none⟩ (ptrB b)).cell? ⟨b,1,none⟩=some (.slice none 0 0):=by rw [Lib.cell_of_heap hbk1]; rfl
 have mixed:=L.mixed;have t72:=L.t72; have a72:=L.a72; have z72:=L.z72; have v72:=L.v72; have u72:=run_underlying L.t72;have t70:=L.t70; have a70:=L.a70; have z70:=L.z70; have v70:=L.v70; have u70:=run_underlying L.t70;have t37:=L.t37; have a37:=L.a37; have z37:=L.z37; have v37:=L.v37; have u37:=run_underlying L.t37;have t3:=L.t3; have a3:=L.a3; have z3:=L.z3; have v3:=L.v3; have u3:=run_underlying L.t3;have t9:=L.t9; have a9:=L.a9; have z9:=L.z9; have v9:=L.v9; have u9:=run_underlying L.t9;have t4:=L.t4; have a4:=L.a4; have z4:=L.z4; have v4:=L.v4; have u4:=run_underlying L.t4;have t5:=X.t5; have a5:=X.a5; have z5:=X.z5; have v5:=X.v5; have u5:=run_underlying X.t5;have e240:∀args w,(callFunc (ρ.f 240) args).run P w = .ok (.enter (ρ.f 240) args) w:=Qbp L.f240 (by kernel_rfl) rfl
 have e241:∀args w,(callFunc (ρ.f 241) args).run P w = .ok (.enter (ρ.f 241) args) w:=Qbp L.f241 (by kernel_rfl) rfl;have hg2:=grow_run (P:=P) { L with } X b n (w.setCell ⟨b,0,none⟩ (ptrB b)).drew hbk1 hn
 go_enter L.f165,Body.n165_ntmps ρ
 have c1':(w.setCell ⟨b,0,none⟩ (ptrB b)).drew.cell? ⟨b,1,none⟩=some (.slice none 0 0):=c1
 go_wp2_with (go_at_fn (ρ.f 240); refine (Any.Builder_copyCheck_fresh { L with } X.toX72 b w (by rw [Lib.cell_of_heap hbk]; rfl) (by simp [World.shape?,hbk]) (Lib.frozen_of_heap hbk 0)).mono ?_; rintro e w' ⟨rfl,rfl⟩)
 go_region_o
 all_goals go_wp2_with (go_at_fn (ρ.f 241); refine hg2.mono ?_; rintro e w' ⟨rfl,cs,k,h1,h2,rfl⟩)
 all_goals first
  | (go_end0; exact ⟨rfl,cs,1+k,h1,h2,rfl⟩)
  | (exfalso; omega)
end
end Go.Proofs.YtfeklaffeigilaaDoor
namespace Go.Proofs.YtfeklaffeigilaaDoor
open Go.Shelf Go.RowKit
set_option linter.unusedVariables false
set_option linter.unusedSimpArgs false
section
variable {X:Nat→Prop} {φ:Phi} {w:World}
abbrev bxN:Ob:=.box 71 [.pl .nilp,.pl (.sl .nil 0 [])]
abbrev bxU(o:Nat):Ob:=.box 71 [.bp 0 0,.own o]
theorem bu_open{H:Hp}{a p:AV}(hH:HR X φ H w)(h:hget H 0=some (.box 71 [p,a])):∃l b u0 u1,φ 0 = .at false l∧l.A=some (b,0)∧w.heap[b]?=some (.cells #[u0,u1] 71 (0,0))∧VR w (YOf X φ) φ p u0∧oneA p=true∧VR w (YOf X φ) φ a u1∧oneA a=true:=by
 obtain ⟨z,l,hl,hO⟩:=hH.ob 0 _ h;simp only [OR] at hO;obtain ⟨rfl,b,cs,hA,hg,hv⟩:=hO;simp only [VRL] at hv;obtain ⟨u0,_,rfl,h1,h2,u1,_,rfl,h3,h4,rfl⟩:=hv;exact ⟨l,b,u0,u1,hl,hA,hg,h2,h1,h4,h3⟩
theorem bu_ptr{l:Loc}{b:Nat}{v:Value}(hl:φ 0 = .at false l)(hA:l.A=some (b,0))(h:VR w (YOf X φ) φ (.bp 0 0) v):v=ptrB b:=by
 simp only [VR] at h;obtain ⟨b',hA',rfl⟩:=h.2.2 _ l hl;rw [hA] at hA'; cases hA'; rfl
theorem vr_ptr{w':World}{Y:Nat→Prop}{φ':Phi}{l:Loc}{b:Nat}(hl:φ' 0 = .at false l)(hA:l.A=some (b,0)):VR w' Y φ' (.bp 0 0) (ptrB b):=by
 simp only [VR];exact ⟨rfl,(by rw [hl]; intro h; cases h),fun z l' h'=>by rw [hl] at h'; cases h'; exact ⟨b,hA,rfl⟩⟩
theorem vr_own{w':World}{Y:Nat→Prop}{φ':Phi}{o:Nat}{l:Loc}(hl:φ' o = .at false l):VR w' Y φ' (.own o) (.slice (l.addr 0) l.n l.c):=by
 simp only [VR];exact ⟨rfl,(by rw [hl]; intro h; cases h),fun z l' h'=>by rw [hl] at h'; cases h'; rfl⟩
theorem set_heap{w:World}{b i:Nat}{v:Value}{cs:Array Value}{t:TypeId}{fz:Nat×Nat}(hg:w.heap[b]?=some (.cells cs t fz)):(w.setCell ⟨b,i,none⟩ v).heap[b]?=some (.cells (cs.setIfInBounds i v) t fz):=by
 simp [World.setCell,Array.getElem?_modify,hg]
theorem Qce{w:World}{b k i:Nat}{v:Value}(h:k≠b):(w.setCell ⟨b,i,none⟩ v).heap[k]?=w.heap[k]?:=by
 simp [World.setCell,Array.getElem?_modify,Ne.symm h]
theorem set_size{w:World}{a:Addr}{v:Value} : (w.setCell a v).heap.size=w.heap.size:=by simp [World.setCell]
theorem bu_new{s:ByteArray}{arr:Array Value}{W:World}{l:Loc}{b:Nat}(hH:HR X φ [some bxN] w)(hl:φ 0 = .at false l)(hA:l.A=some (b,0))(hb:b<w.heap.size)
  (h1:s.size≤arr.size) (h2:arr.size≤maxLen) (h4:arr.toList.take s.size=s.data.toList.map fun b=>Value.int .u8 b.toNat)
  (w1:W.os=w.os) (w2:W.tape=w.tape) (w3:W.output=w.output) (w4:w.drawn≤W.drawn) (w5:w.heap.size<W.heap.size) (w6:∀k,k<w.heap.size→k≠b→W.heap[k]?=w.heap[k]?)
  (w7:W.heap[b]?=some (.cells #[ptrB b,.slice (some ⟨w.heap.size,0,none⟩) s.size arr.size] 71 (0,0))) (w8:W.heap[w.heap.size]?=some (.cells arr 5 (0,0))) :
  ∃φ',HR X φ' [some (bxU 1),some (.brow 5 s)] W∧Ev φ w φ' W∧∀k,k<1→φ k = .fresh→φ' k = .fresh:=by
 let l2:Loc:=⟨some (w.heap.size,0),s.size,arr.size,1⟩
 have hf:φ 1 = .fresh:=hH.fresh 1 (Nat.le_refl _);have p0:(φ.set 1 (.at false l2)) 0 = .at false l:=by rw [Phi.set_ne (by omega)]; exact hl
 have p1:(φ.set 1 (.at false l2)) 1 = .at false l2:=Phi.set_self;have blk:∀k,blkOf (φ.set 1 (.at false l2)) k→blkOf φ k∨k=w.heap.size:=fun k ⟨o,l',p,ho,hA'⟩=>by
  by_cases e:o=1
  ·subst e; rw [p1] at ho; cases ho; cases hA'; exact .inr rfl
  ·rw [Phi.set_ne e] at ho; exact .inl ⟨o,l',p,ho,hA'⟩
 have ev:Ev φ w (φ.set 1 (.at false l2)) W:=by
  refine ⟨w1,w2,⟨w3,w4⟩,Nat.le_of_lt w5,fun k hk hn=>w6 k hk fun e=>hn ⟨0,l,0,hl,by rw [e]; exact hA⟩,fun k hk hc=>?_,fun o ho=>.inl ?_⟩
  ·rcases blk k hc with h | h
   ·exact h
   ·omega
  ·refine Phi.set_ne fun e=>ho ?_;rw [e]; exact hf
 refine ⟨φ.set 1 (.at false l2),?_,ev,fun k hk e=>by rw [Phi.set_ne (by omega)]; exact e⟩;refine hH.next ev (fun o ho=>?_) (fun o z l' ho=>?_) (fun o y hy=>?_) (fun o l' b' p ho hA'=>?_)
 ·rw [Phi.set_ne (by simp at ho; omega)]; exact hH.fresh o (by simp at ho ⊢; omega)
 ·by_cases e:o=1
  ·exact ⟨.brow 5 s,by rw [e]; rfl⟩
  ·rw [Phi.set_ne e] at ho;have:=hH.lt ho;obtain rfl:o=0:=by simp at this; exact this
   exact ⟨bxU 1,rfl⟩
 ·match o,hy with
  | 0,hy =>
   obtain rfl:y=bxU 1:=by simpa [hget] using hy.symm
   refine .inr ⟨false,l,p0,?_⟩;simp only [OR];refine ⟨trivial,b,[ptrB b,.slice (some ⟨w.heap.size,0,none⟩) s.size arr.size],hA,w7,?_⟩;simp only [VRL];refine ⟨_,_,rfl,rfl,vr_ptr p0 hA,_,_,rfl,rfl,?_,rfl⟩;have:=vr_own (w':=W) (Y:=YOf X (φ.set 1 (.at false l2))) p1;simpa [Loc.addr,l2] using this
  | 1,hy =>
   obtain rfl:y = .brow 5 s:=by simpa [hget] using hy.symm
   refine .inr ⟨false,l2,p1,?_⟩;simp only [OR];exact ⟨trivial,rfl,w.heap.size,arr,rfl,w8,rfl,h1,h2,rfl,h4⟩
  | o+2,hy=>simp [hget] at hy
 ·by_cases e:o=1
  ·subst e; rw [p1] at ho; cases ho; cases hA';refine .inr ⟨fun hx=>by have:=hH.xlt _ hx; omega,w5,fun o' l2' p2 ho' hA2=>?_⟩
   by_cases e':o'=1
   ·exact e'
   ·rw [Phi.set_ne e'] at ho';have:=(hH.out o' l2' _ p2 ho' hA2).2; omega
  ·rw [Phi.set_ne e] at ho; exact .inl ho
theorem ret_mk{H H':Hp}{v:AV}{v':Value}{φ':Phi}{w':World}{e:Ending}(he:e = .returned v')(hv:VR w' (YOf X φ') φ' v v')(hH:HR X φ' H' w')(ev:Ev φ w φ' w')(hl:H.length≤H'.length)(hf:∀k,k<H.length→φ k = .fresh→φ' k = .fresh):Ret X φ H w [(v,H')] e w' :=
 ⟨_,List.mem_singleton.2 rfl,v',φ',he,hv,hH,ev,hl,hf⟩
end
theorem ws_new{s:ByteArray}(h0:0<s.size)(h1:s.size≤140737488355328):Qo Tryd.prog true 32 [.bp 0 0,.pl (.str s)] [some bxN] (.tup [.pl (.int .i64 (s.size:Int)),.pl .nili]) [some (bxU 1),some (.brow 5 s)]:=by
 refine ⟨Qbp Tryd.func32 (by kernel_rfl) rfl,⟨(fun (h:true=false)=>by cases h),fun _ X φ w vs hH hvs=>?_⟩⟩;simp only [VRT] at hvs;obtain ⟨v0,_,rfl,hv0,v1,_,rfl,hv1,rfl⟩:=hvs;simp only [VR,PR] at hv1;subst hv1;obtain ⟨l,b,u0,u1,hl,hA,hg,hu0,_,hu1,_⟩:=bu_open hH rfl;obtain rfl:=bu_ptr hl hA hv0;simp only [VR,PR,flOk] at hu0 hu1;subst hu0;obtain ⟨A,c,rfl,_,_,⟨rfl,rfl⟩,_⟩:=hu1;have hlt:b<w.heap.size:=(Array.getElem?_eq_some_iff.1 hg).1;have g1:(w.setCell ⟨b,0,none⟩ (ptrB b)).heap[b]?=some (.cells #[ptrB b,.slice none 0 0] 71 (0,0)):=set_heap hg;obtain ⟨i0,hi,hz0,hz1,hz2⟩:=info_parts bu_x.infoByte;have hap:=fun ty=>run_append_nil_string (P:=Tryd.prog) (w.setCell ⟨b,0,none⟩ (ptrB b)) 69 9 ty 5 i0 (.int .u8 0) Tryd.underlying69 Tryd.underlying9 hi hz0 s h0 (by omega) (by rw [hz2]; omega)
 have hrun:=ws_run (P:=Tryd.prog) (ρ:=bu_r) { bu_l with } bu_x b s w (w.setCell ⟨b,0,none⟩ (ptrB b)) _ (.slice none 0 0) _ _ _
  (Any.Builder_copyCheck_fresh { bu_l with } bu_x.toX72 b w (by rw [Lib.cell_of_heap hg]; rfl) (by simp [World.shape?,hg]; rfl) (Lib.frozen_of_heap hg 0)) g1 hap (by
   show ((w.setCell ⟨b,0,none⟩ (ptrB b)).drew.alloc _).heap[b]?=_;rw [Lib.alloc_old _ _ _ (by show b<(w.setCell ⟨b,0,none⟩ (ptrB b)).heap.size; rw [set_size]; exact hlt)]; exact g1)
 refine hrun.mono fun e w' ⟨he,hw⟩=>?_;subst hw;have hge:=grownCap_ge (w.setCell ⟨b,0,none⟩ (ptrB b)) s.size 0 5;have hle:grownCap (w.setCell ⟨b,0,none⟩ (ptrB b)) s.size 0 5≤maxLen:=grownCap_le_maxLen _ s.size 0 5 (by unfold maxLen; omega);generalize grownCap (w.setCell ⟨b,0,none⟩ (ptrB b)) s.size 0 5=cap at hge hle ⊢;have hs1:(w.setCell ⟨b,0,none⟩ (ptrB b)).heap.size=w.heap.size:=set_size;obtain ⟨arr,harr⟩:∃arr:Array Value,arr=s.data.map (fun b=>Value.int .u8 b.toNat)++Builtin.zeroCells (Value.int .u8 0).cells (cap-s.size):=⟨_,rfl⟩;have has:arr.size=cap:=by
  have:(Value.int IntKind.u8 0).cells.size=1:=rfl;rw [harr,Array.size_append,size_zeroCells,this,Array.size_map];show s.size+_=_;omega
 have hat:arr.toList.take s.size=s.data.toList.map fun b=>Value.int .u8 b.toNat:=by
  rw [harr,Array.toList_append,Array.toList_map,List.take_left' (by rw [List.length_map]; rfl)]
 rw [←harr];obtain ⟨φ',k1,k2,k3⟩:=bu_new (W:=(((w.setCell ⟨b,0,none⟩ (ptrB b)).drew.alloc (.cells arr 5)).setCell ⟨b,1,none⟩ (.slice (some ⟨(w.setCell ⟨b,0,none⟩ (ptrB b)).heap.size,0,none⟩) s.size cap))) hH hl hA hlt (by rw [has]; exact hge) (by rw [has]; exact hle) hat rfl rfl rfl (Nat.le_succ _)
  (by rw [set_size]; show w.heap.size<((w.setCell ⟨b,0,none⟩ (ptrB b)).heap.push _).size; rw [Array.size_push,hs1]; omega)
  (fun k hk hne=>by
   rw [Qce hne,Lib.alloc_old _ _ _ (by show k<(w.setCell ⟨b,0,none⟩ (ptrB b)).heap.size; rw [hs1]; exact hk)];exact Qce hne)
  (by
   have:((w.setCell ⟨b,0,none⟩ (ptrB b)).drew.alloc (.cells arr 5)).heap[b]?=some (.cells #[ptrB b,.slice none 0 0] 71 (0,0)):=by
    rw [Lib.alloc_old _ _ _ (by show b<(w.setCell ⟨b,0,none⟩ (ptrB b)).heap.size; rw [hs1]; exact hlt)]; exact g1
   rw [set_heap this,hs1,has]; rfl)
  (by
   rw [Qce (by omega),←hs1];exact heap_alloc_new _ _)
 exact ret_mk he (by simp only [VR,VRT,PR]; exact ⟨_,rfl,_,_,rfl,rfl,_,_,rfl,rfl,rfl⟩) k1 k2 (by simp) k3
end Go.Proofs.YtfeklaffeigilaaDoor
namespace Go.Proofs.YtfeklaffeigilaaDoor
open Go.Shelf Go.RowKit
set_option linter.unusedVariables false
set_option linter.unusedSimpArgs false
theorem ws_more{t s:ByteArray}(h1:t.size+s.size≤140737488355328):Qo Tryd.prog true 32 [.bp 0 0,.pl (.str s)] [some (bxU 1),some (.brow 5 t)] (.tup [.pl (.int .i64 (s.size:Int)),.pl .nili]) [some (bxU 2),none,some (.brow 5 (scat t s))]:=by
 refine ⟨Qbp Tryd.func32 (by kernel_rfl) rfl,⟨(fun (h:true=false)=>by cases h),fun _ X φ w vs hH hvs=>?_⟩⟩;simp only [VRT] at hvs;obtain ⟨v0,_,rfl,hv0,v1,_,rfl,hv1,rfl⟩:=hvs;simp only [VR,PR] at hv1;subst hv1;obtain ⟨l,b,u0,u1,hl,hA,hg,hu0,_,hu1,_⟩:=bu_open hH rfl;obtain rfl:=bu_ptr hl hA hv0;obtain rfl:=bu_ptr hl hA hu0;obtain ⟨z,l1,hl1,hO⟩:=hH.ob 1 _ rfl;simp only [OR] at hO;obtain ⟨rfl,q1,g,cs,hA1,hg1,q2,q3,q4,q5,q6⟩:=hO;simp only [VR] at hu1;obtain rfl:=hu1.2.2 _ l1 hl1;have hbg:b≠g:=fun e=>by
  subst e;have:=hH.inj 0 1 l l1 b 0 0 hl hl1 hA hA1;cases this
 have ha:l1.addr 0=some ⟨g,0,none⟩:=by simp [Loc.addr,hA1]
 rw [ha,q2] at hg;have hlt:b<w.heap.size:=(Array.getElem?_eq_some_iff.1 hg).1;have hltg:g<w.heap.size:=(Array.getElem?_eq_some_iff.1 hg1).1;obtain ⟨i0,hi,hz0,hz1,hz2⟩:=info_parts bu_x.infoByte;have hsz:(scat t s).size=t.size+s.size:=by
  show ((t.data.toList++s.data.toList).toArray).size=_;rw [List.size_toArray,List.length_append]; rfl
 -- what the append gives
 obtain ⟨A,c,W,arr,g2,hap,hA2,hor,hW1,hW2,hW3,hW4,hW5,hW6,hW7,hc1,hc2,hc3,hc4⟩:∃(A:Option Addr) (c:Nat) (W:World) (arr:Array Value) (g2:Nat),(∀ty,(Builtin.append_ #[69,9] ty #[.slice (some ⟨g,0,none⟩) t.size l1.c,.string s]).run Tryd.prog w = .ok (.slice A (t.size+s.size) c) W)∧A=some ⟨g2,0,none⟩ ∧
   (g2=g∨(g2=w.heap.size∧w.heap.size<W.heap.size))∧W.os=w.os∧W.tape=w.tape∧W.output=w.output∧w.drawn≤W.drawn∧w.heap.size≤W.heap.size∧(∀k,k<w.heap.size→k≠g→W.heap[k]?=w.heap[k]?)∧W.heap[g2]?=some (.cells arr 5 (0,0)) ∧
   t.size+s.size≤c∧c≤maxLen∧arr.size=c∧arr.toList.take (t.size+s.size)=(scat t s).data.toList.map fun b=>Value.int .u8 b.toNat:=by
  have hcat:((scat t s).data.toList.map fun b=>Value.int .u8 b.toNat)=(t.data.toList.map fun b=>Value.int .u8 b.toNat)++Lib.strCells s:=by
   show ((t.data.toList++s.data.toList).map fun b=>Value.int .u8 b.toNat)=_;rw [List.map_append]; rfl
  by_cases hroom:t.size+s.size≤l1.c
  ·have hap:=fun ty=>Lib.run_append_room_string (P:=Tryd.prog) w 69 9 ty 5 i0 Tryd.underlying69 Tryd.underlying9 hi hz1 g t.size l1.c cs hg1 s hroom (by omega);refine ⟨_,_,_,_,g,hap,rfl,.inl rfl,rfl,rfl,rfl,Nat.le_refl _,by simp [World.setRow],fun k _ hk=>by simp [World.setRow,Array.getElem?_modify,Ne.symm hk],by simp [World.setRow,Array.getElem?_modify,hg1]; rfl,hroom,q4,?_,?_⟩
   ·rw [List.size_toArray,List.length_append,List.length_append,List.length_take,Lib.strCells_length,List.length_drop,Array.length_toList]; omega
   ·rw [hcat,←q6];show (cs.toList.take t.size++(Lib.strCells s++cs.toList.drop (t.size+s.size))).take (t.size+s.size)=_;rw [←List.append_assoc,List.take_left' (by rw [List.length_append,List.length_take,Lib.strCells_length,Array.length_toList]; omega)]
  ·have hap:=fun ty=>Lib.run_append_grow_string (P:=Tryd.prog) w 69 9 ty 5 i0 (.int .u8 0) Tryd.underlying69 Tryd.underlying9 hi hz0 ⟨g,0,none⟩ t.size l1.c (t.data.toList.map fun b=>Value.int .u8 b.toNat) (by rw [List.length_map,hz1,Nat.mul_one]; rfl) (fun j v hj=>by
    have e:(⟨g,0,none⟩:Addr).add j=⟨g,j,none⟩:=by unfold Addr.add; split<;>simp_all
    rw [e,Lib.cell_of_heap hg1,←Array.getElem?_toList];rw [←q6,List.getElem?_take] at hj
    split at hj
    ·exact hj
    ·cases hj) s (by omega) (by omega) (growslice_fits (by omega) (by rw [hz2]; omega))
   have hge:=grownCap_ge w (t.size+s.size) l1.c 5;have hle:grownCap w (t.size+s.size) l1.c 5≤maxLen:=grownCap_le_maxLen _ _ _ 5 (by unfold maxLen; omega);refine ⟨_,_,_,_,w.heap.size,hap,rfl,.inr ⟨rfl,by show w.heap.size<(w.heap.push _).size; rw [Array.size_push]; omega⟩,rfl,rfl,rfl,Nat.le_succ _,by show w.heap.size≤(w.heap.push _).size; rw [Array.size_push]; omega,fun k hk _=>Lib.alloc_old w.drew _ k hk,heap_alloc_new w.drew _,hge,hle,?_,?_⟩
   ·have:(Value.int IntKind.u8 0).cells.size=1:=rfl;simp only [Array.size_append,List.size_toArray,size_zeroCells,this,List.length_map,Lib.strCells_length];show t.size+s.size+_=_;omega
   ·rw [hcat,Array.toList_append,Array.toList_append,List.take_left' (by simp only [List.length_append,List.length_map,Lib.strCells_length]; rfl)]
 subst hA2;have hWb:W.heap[b]?=some (.cells #[ptrB b,.slice (some ⟨g,0,none⟩) t.size l1.c] 71 (0,0)):=by rw [hW6 b hlt hbg]; exact hg
 have hrun:=ws_run (P:=Tryd.prog) (ρ:=bu_r) { bu_l with } bu_x b s w w W (.slice (some ⟨g,0,none⟩) t.size l1.c) _ _ _
  (Any.Builder_copyCheck_used { bu_l with } bu_x.toX72 b w (by rw [Lib.cell_of_heap hg]; rfl)) hg hap hWb
 refine hrun.mono fun e w' ⟨he,hw⟩=>?_;subst hw;have hg2b:g2≠b:=by rcases hor with e | ⟨e,_⟩<;>rw [e]<;>omega
 let l2:Loc:=⟨some (g2,0),(scat t s).size,c,1⟩
 obtain ⟨m1,m2⟩:=hH.move (w':=W) hH.free hl1 l2 (.brow 5 (scat t s)) hW1 hW2 ⟨hW3,hW4⟩ hW5 (fun k hk hn=>hW6 k hk fun e=>hn 0 (by rw [e]; exact hA1)) (fun b' p' h=>by
  cases h;rcases hor with e | ⟨e,h⟩
  ·exact .inl ⟨0,by rw [e]; exact hA1⟩
  ·exact .inr ⟨by rw [e]; exact Nat.le_refl _,by rw [e]; exact h⟩) (fun _=>by
  simp only [OR];exact ⟨trivial,rfl,g2,arr,rfl,hW7,rfl,by show (scat t s).size≤c; rw [hsz]; exact hc1,hc2,hc3,by rw [hsz]; exact hc4⟩)
 have p0:((φ.set 1 .dead).set 2 (.at false l2)) 0 = .at false l:=by rw [Phi.set_ne (by omega),Phi.set_ne (by omega)]; exact hl
 have p2:((φ.set 1 .dead).set 2 (.at false l2)) 2 = .at false l2:=Phi.set_self;have m3:=m1.write (w':=W.setCell ⟨b,1,none⟩ (.slice (some ⟨g2,0,none⟩) (t.size+s.size) c)) (x:=bxU 2) p0 hA rfl rfl ⟨rfl,Nat.le_refl _⟩ set_size (fun k h=>Qce h) (by
  simp only [OR];refine ⟨trivial,b,[ptrB b,.slice (some ⟨g2,0,none⟩) (t.size+s.size) c],hA,set_heap hWb,?_⟩;simp only [VRL];refine ⟨_,_,rfl,rfl,vr_ptr p0 hA,_,_,rfl,rfl,?_,rfl⟩;have:=vr_own (w':=W.setCell ⟨b,1,none⟩ (.slice (some ⟨g2,0,none⟩) (t.size+s.size) c)) (Y:=YOf X ((φ.set 1 .dead).set 2 (.at false l2))) p2;simpa [Loc.addr,l2,hsz] using this)
 have e3:=Ev.write (w:=W) (w':=W.setCell ⟨b,1,none⟩ (.slice (some ⟨g2,0,none⟩) (t.size+s.size) c)) p0 hA rfl rfl ⟨rfl,Nat.le_refl _⟩ set_size (fun k h=>Qce h);exact ret_mk he (by simp only [VR,VRT,PR]; exact ⟨_,rfl,_,_,rfl,rfl,_,_,rfl,rfl,rfl⟩) m3 (m2.trans e3) (by simp) (fun k hk e=>by
  have hk:k<2:=hk;rw [Phi.set_ne (by omega),Phi.set_ne (fun e2=>by rw [e2,hl1] at e; cases e)]; exact e)
theorem ws_str{t:ByteArray}(h0:0<t.size):Qo Tryd.prog true 34 [.bp 0 0] [some (bxU 1),some (.brow 5 t)] (.pl (.str t)) [some (bxU 1),none]:=by
 refine ⟨Qbp Tryd.func34 (by kernel_rfl) rfl,⟨(fun (h:true=false)=>by cases h),fun _ X φ w vs hH hvs=>?_⟩⟩;simp only [VRT] at hvs;obtain ⟨v0,_,rfl,hv0,rfl⟩:=hvs;obtain ⟨l,b,u0,u1,hl,hA,hg,hu0,_,hu1,_⟩:=bu_open hH rfl;obtain rfl:=bu_ptr hl hA hv0;obtain ⟨z,l1,hl1,hO⟩:=hH.ob 1 _ rfl;simp only [OR] at hO;obtain ⟨rfl,q1,g,cs,hA1,hg1,q2,q3,q4,q5,q6⟩:=hO;simp only [VR] at hu1;obtain rfl:=hu1.2.2 _ l1 hl1;have hbg:b≠g:=fun e=>by
  subst e;have:=hH.inj 0 1 l l1 b 0 0 hl hl1 hA hA1;cases this
 have ha:l1.addr 0=some ⟨g,0,none⟩:=by simp [Loc.addr,hA1]
 rw [ha,q2] at hg;have hlen:t.data.toList.length=t.size:=rfl;have hrun:=str_run (P:=Tryd.prog) (ρ:=bu_r) { bu_l with } bu_x b g l1.c u0 cs t.data.toList w (fun e=>by rw [e] at hlen; simp at hlen; omega) (by rw [hlen]; exact hg) hg1 (by rw [hlen,←q2]; exact q3) q4 q5 (by rw [hlen]; exact q6);refine hrun.mono fun e w' ⟨he,hw⟩=>?_;subst hw;have hfz:∀k,k≠g→(w.drew.freeze ⟨g,0,none⟩ t.data.toList.length).heap[k]?=w.heap[k]?:=fun k hk=>by
  unfold World.freeze
  split
  ·rfl
  ·show (w.heap.modify g _)[k]?=_;rw [Array.getElem?_modify,if_neg (Ne.symm hk)]
 have hfs:(w.drew.freeze ⟨g,0,none⟩ t.data.toList.length).heap.size=w.heap.size:=by
  unfold World.freeze
  split
  ·rfl
  ·show (w.heap.modify g _).size=_;rw [Array.size_modify]
 have hfo:(w.drew.freeze ⟨g,0,none⟩ t.data.toList.length).os=w.os∧(w.drew.freeze ⟨g,0,none⟩ t.data.toList.length).tape=w.tape∧(w.drew.freeze ⟨g,0,none⟩ t.data.toList.length).output=w.output∧w.drawn≤(w.drew.freeze ⟨g,0,none⟩ t.data.toList.length).drawn:=by
  unfold World.freeze
  split<;>exact ⟨rfl,rfl,rfl,Nat.le_succ _⟩
 have blk:∀k,blkOf (φ.set 1 .dead) k→blkOf φ k:=fun k ⟨o,l',p,ho,hA'⟩=>by
  by_cases e:o=1
  ·subst e; rw [Phi.set_self] at ho; cases ho
  ·rw [Phi.set_ne e] at ho; exact ⟨o,l',p,ho,hA'⟩
 have ev:Ev φ w (φ.set 1 .dead) (w.drew.freeze ⟨g,0,none⟩ t.data.toList.length):=by
  refine ⟨hfo.1,hfo.2.1,⟨hfo.2.2.1,hfo.2.2.2⟩,by rw [hfs]; exact Nat.le_refl _,fun k hk hn=>hfz k fun e=>hn ⟨1,l1,0,hl1,by rw [e]; exact hA1⟩,fun k _ hc=>blk k hc,fun o ho=>?_⟩
  by_cases e:o=1
  ·subst e; exact .inr (.inl Phi.set_self)
  ·exact .inl (Phi.set_ne e)
 refine ret_mk (v':=.string ⟨t.data.toList.toArray⟩) he (by simp only [VR,PR]) (hH.next ev (fun o ho=>?_) (fun o z l' ho=>?_) (fun o y hy=>?_) (fun o l' b' p ho hA'=>?_)) ev (by simp) (fun k hk e=>by
  rw [Phi.set_ne (fun e2=>by rw [e2,hl1] at e; cases e)]; exact e)
 ·have h2:2≤o:=ho;rw [Phi.set_ne (by omega)]; exact hH.fresh o ho
 ·by_cases e:o=1
  ·subst e; rw [Phi.set_self] at ho; cases ho
  ·rw [Phi.set_ne e] at ho;have:=hH.lt ho;obtain rfl:o=0:=by simp only [List.length_cons,List.length_nil] at this; omega
   exact ⟨bxU 1,rfl⟩
 ·match o,hy with
  | 0,hy =>
   obtain rfl:y=bxU 1:=by simpa [hget] using hy.symm
   refine .inl ⟨rfl,Phi.set_ne (by omega),fun l' b' p hl' hA'=>?_⟩;rw [hl] at hl'; cases hl';rw [hA] at hA'; cases hA';exact hfz b hbg
  | 1,hy=>simp [hget] at hy
  | o+2,hy=>simp [hget] at hy
 ·by_cases e:o=1
  ·subst e; rw [Phi.set_self] at ho; cases ho
  ·rw [Phi.set_ne e] at ho; exact .inl ho
theorem ws_grow{n:Int}(h0:0<n)(h1:n≤281474976710656):Qo Tryd.prog true 57 [.bp 0 0,.pl (.int .i64 n)] [some bxN] (.tup []) [some (bxU 1),some (.brow 5 ⟨#[]⟩)]:=by
 refine ⟨Qbp Tryd.func57 (by kernel_rfl) rfl,⟨(fun (h:true=false)=>by cases h),fun _ X φ w vs hH hvs=>?_⟩⟩;simp only [VRT] at hvs;obtain ⟨v0,_,rfl,hv0,v1,_,rfl,hv1,rfl⟩:=hvs;simp only [VR,PR] at hv1;subst hv1;obtain ⟨l,b,u0,u1,hl,hA,hg,hu0,_,hu1,_⟩:=bu_open hH rfl;obtain rfl:=bu_ptr hl hA hv0;simp only [VR,PR,flOk] at hu0 hu1;subst hu0;obtain ⟨A,c,rfl,_,_,⟨rfl,rfl⟩,_⟩:=hu1;obtain ⟨m,rfl⟩:∃m:Nat,n=(m:Int):=⟨n.toNat,by omega⟩;have hlt:b<w.heap.size:=(Array.getElem?_eq_some_iff.1 hg).1;have hrun:=Grow_run (P:=Tryd.prog) (ρ:=bu_r) { bu_l with } bu_x b m w hg (by omega) (by omega);refine hrun.mono fun e w' ⟨he,arr,k,h2,h3,hw⟩=>?_;subst hw;have g1:(w.setCell ⟨b,0,none⟩ (ptrB b)).heap[b]?=some (.cells #[ptrB b,.slice none 0 0] 71 (0,0)):=set_heap hg
 have hs1:((w.setCell ⟨b,0,none⟩ (ptrB b)).setCell ⟨b,1,none⟩ (.slice (some ⟨w.heap.size,0,none⟩) 0 arr.size)).heap.size=w.heap.size:=by rw [set_size,set_size]
 obtain ⟨φ',k1,k2,k3⟩:=bu_new (s:=⟨#[]⟩) (W:=((((w.setCell ⟨b,0,none⟩ (ptrB b)).setCell ⟨b,1,none⟩ (.slice (some ⟨w.heap.size,0,none⟩) 0 arr.size)).alloc (.cells arr 5)).drewN k)) (arr:=arr) hH hl hA hlt (Nat.zero_le _) h3 rfl rfl rfl rfl (Nat.le_add_right _ _)
  (by show w.heap.size<(((w.setCell ⟨b,0,none⟩ (ptrB b)).setCell ⟨b,1,none⟩ (.slice (some ⟨w.heap.size,0,none⟩) 0 arr.size)).heap.push _).size; rw [Array.size_push,hs1]; omega)
  (fun j hj hne=>by
   show (((w.setCell ⟨b,0,none⟩ (ptrB b)).setCell ⟨b,1,none⟩ (.slice (some ⟨w.heap.size,0,none⟩) 0 arr.size)).alloc (.cells arr 5)).heap[j]?=_;rw [Lib.alloc_old _ _ _ (by rw [hs1]; exact hj),Qce hne,Qce hne])
  (by
   show (((w.setCell ⟨b,0,none⟩ (ptrB b)).setCell ⟨b,1,none⟩ (.slice (some ⟨w.heap.size,0,none⟩) 0 arr.size)).alloc (.cells arr 5)).heap[b]?=_;rw [Lib.alloc_old _ _ _ (by rw [hs1]; exact hlt),set_heap g1]; rfl)
  (by
   have:=heap_alloc_new ((w.setCell ⟨b,0,none⟩ (ptrB b)).setCell ⟨b,1,none⟩ (.slice (some ⟨w.heap.size,0,none⟩) 0 arr.size)) (.cells arr 5);rw [hs1] at this;exact this)
 exact ret_mk he (by simp only [VR,VRT]; exact ⟨_,rfl,rfl⟩) k1 k2 (by simp) k3
def itoaB(n:Int):ByteArray:=⟨(Lib.itoa n).toArray⟩
theorem itoa_call{n:Int}(h0:-9223372036854775808≤n)(h1:n≤9223372036854775807):Qo Tryd.prog false 31 [.pl (.int .i64 n)] [] (.pl (.str (itoaB n))) []:=by
 refine ⟨Qbp Tryd.func31 (by kernel_rfl) rfl,fun _=>rfl,fun _ X φ w vs hH hvs=>?_⟩;simp only [VRT] at hvs;obtain ⟨v0,_,rfl,hv0,rfl⟩:=hvs;simp only [VR,PR] at hv0;subst hv0;have hφ:φ=Qby:=funext fun o=>hH.fresh o (Nat.zero_le _);subst hφ;obtain ⟨_,t,fr,htab⟩:=hH.xlt.tab _ (show _∈tabL from List.mem_singleton.2 rfl);refine (Any.strconv_Itoa it_l n h0 h1 w ?_).mono fun e w' ⟨he,k,os,hw⟩=>?_
 ·unfold Lib.TabIs World.var?;rw [it_l.m17];simp only [Option.bind_some];have:w.heap[it_r.g 17]?=_:=htab;rw [this]; rfl
 ·subst hw;have ev:Ev Qby w Qby (Sort.grow (w.drewN k) os):=⟨rfl,rfl,⟨rfl,Nat.le_add_right _ _⟩,by show w.heap.size≤(w.heap++os).size; rw [Array.size_append]; omega,fun j hj _=>by show (w.heap++os)[j]?=_; rw [Array.getElem?_append_left hj],fun b _ hc=>absurd hc (noBlk b),fun o ho=>absurd rfl ho⟩;exact ret_mk he (by simp only [VR,PR]; rfl) (hH.next ev hH.fresh hH.live (fun o x hx=>by simp [hget] at hx) (fun o l b p h=>by cases h)) ev (Nat.le_refl _) (fun _ _ h=>h)
end Go.Proofs.YtfeklaffeigilaaDoor
namespace Go.Proofs.YtfeklaffeigilaaDoor
set_option linter.unusedVariables false
set_option linter.unusedSimpArgs false
set_option maxRecDepth 100000
open Go.RowKit
structure Qa where
 Account:ByteArray
 Ccy:ByteArray
 In:Int
 Out:Int
def Qa.cells(x:Qa):List PV:=[.str x.Account,.str x.Ccy,.int .i64 x.In,.int .i64 x.Out]
theorem Qa.cells_eq(x y:Qa):(Qa.cells x=Qa.cells y)=(x=y):=propext ⟨fun h=>by
 cases x; cases y
 simp_all [Qa.cells],fun h=>by rw [h]⟩
theorem Qa.map_eq(x y:List Qa):(x.map Qa.cells=y.map Qa.cells)=(x=y):=map_eq_of fun a b h=>by rwa [Qa.cells_eq] at h
structure Qj where
 From:Int
 To:Int
 Known:Int
 Rows:List Qa
def Qj.cells(x:Qj):List PV:=[.int .i64 x.From,.int .i64 x.To,.int .i64 x.Known,.sl .any 4 (x.Rows.map Qa.cells)]
theorem Qj.cells_eq(x y:Qj):(Qj.cells x=Qj.cells y)=(x=y):=propext ⟨fun h=>by
 cases x; cases y
 simp_all [Qj.cells,Qa.cells,Qa.cells_eq,Qa.map_eq],fun h=>by rw [h]⟩
theorem Qj.map_eq(x y:List Qj):(x.map Qj.cells=y.map Qj.cells)=(x=y):=map_eq_of fun a b h=>by rwa [Qj.cells_eq] at h
structure Key_ where
 account:ByteArray
 ccy:ByteArray
def Key_.cells(x:Key_):List PV:=[.str x.account,.str x.ccy]
theorem Key_.cells_eq(x y:Key_):(Key_.cells x=Key_.cells y)=(x=y):=propext ⟨fun h=>by
 cases x; cases y
 simp_all [Key_.cells],fun h=>by rw [h]⟩
theorem Key_.map_eq(x y:List Key_):(x.map Key_.cells=y.map Key_.cells)=(x=y):=map_eq_of fun a b h=>by rwa [Key_.cells_eq] at h
structure Qb where
 Account:ByteArray
 Ccy:ByteArray
 Amount:Int
def Qb.cells(x:Qb):List PV:=[.str x.Account,.str x.Ccy,.int .i64 x.Amount]
theorem Qb.cells_eq(x y:Qb):(Qb.cells x=Qb.cells y)=(x=y):=propext ⟨fun h=>by
 cases x; cases y
 simp_all [Qb.cells],fun h=>by rw [h]⟩
theorem Qb.map_eq(x y:List Qb):(x.map Qb.cells=y.map Qb.cells)=(x=y):=map_eq_of fun a b h=>by rwa [Qb.cells_eq] at h
structure Qc where
 Day:Int
 Text:ByteArray
 Lines:List Qb
def Qc.cells(x:Qc):List PV:=[.int .i64 x.Day,.str x.Text,.sl .any 3 (x.Lines.map Qb.cells)]
theorem Qc.cells_eq(x y:Qc):(Qc.cells x=Qc.cells y)=(x=y):=propext ⟨fun h=>by
 cases x; cases y
 simp_all [Qc.cells,Qb.cells,Qb.cells_eq,Qb.map_eq],fun h=>by rw [h]⟩
theorem Qc.map_eq(x y:List Qc):(x.map Qc.cells=y.map Qc.cells)=(x=y):=map_eq_of fun a b h=>by rwa [Qc.cells_eq] at h
structure Qi where
 Records:List Qc
def Qi.cells(x:Qi):List PV:=[.sl .any 3 (x.Records.map Qc.cells)]
theorem Qi.cells_eq(x y:Qi):(Qi.cells x=Qi.cells y)=(x=y):=propext ⟨fun h=>by
 cases x; cases y
 simp_all [Qi.cells,Qc.cells,Qc.cells_eq,Qc.map_eq],fun h=>by rw [h]⟩
theorem Qi.map_eq(x y:List Qi):(x.map Qi.cells=y.map Qi.cells)=(x=y):=map_eq_of fun a b h=>by rwa [Qi.cells_eq] at h
structure Qf where
 name:ByteArray
 ccy:ByteArray
def Qf.cells(x:Qf):List PV:=[.str x.name,.str x.ccy]
theorem Qf.cells_eq(x y:Qf):(Qf.cells x=Qf.cells y)=(x=y):=propext ⟨fun h=>by
 cases x; cases y
 simp_all [Qf.cells],fun h=>by rw [h]⟩
theorem Qf.map_eq(x y:List Qf):(x.map Qf.cells=y.map Qf.cells)=(x=y):=map_eq_of fun a b h=>by rwa [Qf.cells_eq] at h
structure Qq where
 e0:Int
 e1:Int
 e2:Int
 e3:Int
 e4:Int
 e5:Int
 e6:Int
 e7:Int
 e8:Int
 e9:Int
 e10:Int
 e11:Int
 e12:Int
def Qq.cells(x:Qq):List PV:=[.int .i64 x.e0,.int .i64 x.e1,.int .i64 x.e2,.int .i64 x.e3,.int .i64 x.e4,.int .i64 x.e5,.int .i64 x.e6,.int .i64 x.e7,.int .i64 x.e8,.int .i64 x.e9,.int .i64 x.e10,.int .i64 x.e11,.int .i64 x.e12]
theorem Qq.cells_eq(x y:Qq):(Qq.cells x=Qq.cells y)=(x=y):=propext ⟨fun h=>by
 cases x; cases y
 simp_all [Qq.cells],fun h=>by rw [h]⟩
theorem Qq.map_eq(x y:List Qq):(x.map Qq.cells=y.map Qq.cells)=(x=y):=map_eq_of fun a b h=>by rwa [Qq.cells_eq] at h
def Key_.eqb(x y:Key_):Bool:=seq x.account y.account&&seq x.ccy y.ccy
theorem Key_.eqb_ok(x y:Key_):eqV cfg.ty 115 (.agg (Key_.cells x)) (.agg (Key_.cells y))=some (Key_.eqb x y):=by
 unfold Key_.eqb;have e:eqV cfg.ty 115 (.agg (Key_.cells x)) (.agg (Key_.cells y))=(match some (decide (x.account.data.toList=y.account.data.toList)) with | some true=>(match some (decide (x.ccy.data.toList=y.ccy.data.toList)) with | some true=>(some true) | some false=>some false | none=>none) | some false=>some false | none=>none):=by kernel_rfl
 rw [e]
 try simp only [seq]
 cases decide (x.account.data.toList=y.account.data.toList)<;>cases decide (x.ccy.data.toList=y.ccy.data.toList)<;>rfl
def Qa.eqb(x y:Qa):Bool:=seq x.Account y.Account&&seq x.Ccy y.Ccy&&decide (x.In=y.In)&&decide (x.Out=y.Out)
theorem Qa.eqb_ok(x y:Qa):eqV cfg.ty 39 (.agg (Qa.cells x)) (.agg (Qa.cells y))=some (Qa.eqb x y):=by
 unfold Qa.eqb;have e:eqV cfg.ty 39 (.agg (Qa.cells x)) (.agg (Qa.cells y))=(match some (decide (x.Account.data.toList=y.Account.data.toList)) with | some true=>(match some (decide (x.Ccy.data.toList=y.Ccy.data.toList)) with | some true=>(match some (decide (x.In=y.In)) with | some true=>(match some (decide (x.Out=y.Out)) with | some true=>(some true) | some false=>some false | none=>none) | some false=>some false | none=>none) | some false=>some false | none=>none) | some false=>some false | none=>none):=by kernel_rfl
 rw [e]
 try simp only [seq]
 cases decide (x.Account.data.toList=y.Account.data.toList)<;>cases decide (x.Ccy.data.toList=y.Ccy.data.toList)<;>cases decide (x.In=y.In)<;>cases decide (x.Out=y.Out)<;>rfl
def Qf.eqb(x y:Qf):Bool:=seq x.name y.name&&seq x.ccy y.ccy
theorem Qf.eqb_ok(x y:Qf):eqV cfg.ty 107 (.agg (Qf.cells x)) (.agg (Qf.cells y))=some (Qf.eqb x y):=by
 unfold Qf.eqb;have e:eqV cfg.ty 107 (.agg (Qf.cells x)) (.agg (Qf.cells y))=(match some (decide (x.name.data.toList=y.name.data.toList)) with | some true=>(match some (decide (x.ccy.data.toList=y.ccy.data.toList)) with | some true=>(some true) | some false=>some false | none=>none) | some false=>some false | none=>none):=by kernel_rfl
 rw [e]
 try simp only [seq]
 cases decide (x.name.data.toList=y.name.data.toList)<;>cases decide (x.ccy.data.toList=y.ccy.data.toList)<;>rfl
theorem key_9:KeyOK cfg 9 pStr seq:=key_str (fun _ _=>by kernel_rfl) (fun _=>by kernel_rfl)
theorem Key_.eqb_eq{x y:Key_}(h:Key_.eqb x y=true):x=y:=by
 cases x; cases y;simp only [Key_.eqb,Bool.and_eq_true,decide_eq_true_eq,beq_iff_eq] at h;simp only [Key_.mk.injEq];refine ⟨?_,?_⟩<;>first | exact seq_eq' (by simp_all) | simp_all
theorem key_115:KeyOK cfg 115 (pAgg Key_.cells) Key_.eqb:=⟨fun a b=>Key_.eqb_ok a b,fun _=>by kernel_rfl,fun a b h=>Key_.eqb_eq h,fun a=>by simp [pAgg,Key_.cells,eqC,eqCL,eqC1,kindEq]⟩
theorem Qf.eqb_eq{x y:Qf}(h:Qf.eqb x y=true):x=y:=by
 cases x; cases y;simp only [Qf.eqb,Bool.and_eq_true,decide_eq_true_eq,beq_iff_eq] at h;simp only [Qf.mk.injEq];refine ⟨?_,?_⟩<;>first | exact seq_eq' (by simp_all) | simp_all
theorem key_107:KeyOK cfg 107 (pAgg Qf.cells) Qf.eqb:=⟨fun a b=>Qf.eqb_ok a b,fun _=>by kernel_rfl,fun a b h=>Qf.eqb_eq h,fun a=>by simp [pAgg,Qf.cells,eqC,eqCL,eqC1,kindEq]⟩
def Qp:ByteArray:=⟨#[114,101,112,111,114,116,32,49,48,32,49,49,32,51,10,65,110,110,32,69,85,82,32,53,32,50,32,51,10,66,111,98,32,69,85,82,32,50,32,53,32,45,51,10]⟩
def Qax:ByteArray:=⟨#[102,111,114,32]⟩
def str_b:ByteArray:=⟨#[98]⟩
def Qaa:ByteArray:=⟨#[102,111,114,32,49,57,48,48,45,48,49,45,49,49,32,102,105,120]⟩
def str_a:ByteArray:=⟨#[97]⟩
def str_Bob:ByteArray:=⟨#[66,111,98]⟩
def Qap:ByteArray:=⟨#[69,85,82]⟩
def str_Ann:ByteArray:=⟨#[65,110,110]⟩
def str_x0a:ByteArray:=⟨#[10]⟩
def str_x20:ByteArray:=⟨#[32]⟩
def str_report:ByteArray:=⟨#[114,101,112,111,114,116]⟩
def Qs:ByteArray:=⟨#[]⟩
def ti39:TI:=⟨.struct [(9,0),(9,1),(3,2),(3,3)],4,48,[.str ByteArray.empty,.str ByteArray.empty,.int .i64 0,.int .i64 0]⟩
def ti9:TI:=⟨.str,1,16,[.str ByteArray.empty]⟩
def ti3:TI:=⟨.int .i64,1,8,[.int .i64 0]⟩
def ti92:TI:=⟨.struct [(9,0),(9,1),(3,2)],3,40,[.str ByteArray.empty,.str ByteArray.empty,.int .i64 0]⟩
def ti46:TI:=⟨.struct [(3,0),(9,1),(44,2)],3,48,[.int .i64 0,.str ByteArray.empty,.sl .nil 0 []]⟩
def ti44:TI:=⟨.sl 92,1,24,[.sl .nil 0 []]⟩
def ti41:TI:=⟨.sl 46,1,24,[.sl .nil 0 []]⟩
def ti43:TI:=⟨.struct [(41,0)],1,24,[.sl .nil 0 []]⟩
def Qa.ok(x:Qa):Prop:=(fun s:ByteArray=>s.size≤maxLen) x.Account∧(fun s:ByteArray=>s.size≤maxLen) x.Ccy∧(okInt .i64) x.In∧(okInt .i64) x.Out∧True
def Qj.ok(x:Qj):Prop:=(okInt .i64) x.From∧(okInt .i64) x.To∧(okInt .i64) x.Known∧(fun l:List Qa=>l.length≤maxLen∧∀x∈l,Qa.ok x) x.Rows∧True
def Key_.ok(x:Key_):Prop:=(fun s:ByteArray=>s.size≤maxLen) x.account∧(fun s:ByteArray=>s.size≤maxLen) x.ccy∧True
def Qb.ok(x:Qb):Prop:=(fun s:ByteArray=>s.size≤maxLen) x.Account∧(fun s:ByteArray=>s.size≤maxLen) x.Ccy∧(okInt .i64) x.Amount∧True
def Qc.ok(x:Qc):Prop:=(okInt .i64) x.Day∧(fun s:ByteArray=>s.size≤maxLen) x.Text∧(fun l:List Qb=>l.length≤maxLen∧∀x∈l,Qb.ok x) x.Lines∧True
def Qi.ok(x:Qi):Prop:=(fun l:List Qc=>l.length≤maxLen∧∀x∈l,Qc.ok x) x.Records∧True
def Qf.ok(x:Qf):Prop:=(fun s:ByteArray=>s.size≤maxLen) x.name∧(fun s:ByteArray=>s.size≤maxLen) x.ccy∧True
def Qq.ok(x:Qq):Prop:=(okInt .i64) x.e0∧(okInt .i64) x.e1∧(okInt .i64) x.e2∧(okInt .i64) x.e3∧(okInt .i64) x.e4∧(okInt .i64) x.e5∧(okInt .i64) x.e6∧(okInt .i64) x.e7∧(okInt .i64) x.e8∧(okInt .i64) x.e9∧(okInt .i64) x.e10∧(okInt .i64) x.e11∧(okInt .i64) x.e12∧True
theorem of_3{d:Nat}{ps:List PV}(h:WT cfg.ty (d+1) 3 ps):∃x:Int,ps=(cInt .i64) x∧(okInt .i64) x:=by
 obtain ⟨n,rfl,k⟩:=wt_int (ti:=ti3) (by kernel_rfl) rfl h;exact ⟨n,rfl,k⟩
theorem of_9{d:Nat}{ps:List PV}(h:WT cfg.ty (d+1) 9 ps):∃x:ByteArray,ps=cStr x∧(fun s:ByteArray=>s.size≤maxLen) x:=by
 obtain ⟨n,rfl,k⟩:=wt_str (ti:=ti9) (by kernel_rfl) rfl h;exact ⟨n,rfl,k⟩
theorem of_92{d:Nat}{ps:List PV}(h:WT cfg.ty (d+2) 92 ps):∃x:Qb,ps=Qb.cells x∧Qb.ok x:=by
 have g:=wt_struct (ti:=ti92) (by kernel_rfl) rfl h
 clear h
 obtain ⟨_,_,_,rfl,_,_,h0,g0⟩:=g;obtain ⟨x0,rfl,k0⟩:=of_9 h0;obtain ⟨_,_,_,rfl,_,_,h1,g1⟩:=g0;obtain ⟨x1,rfl,k1⟩:=of_9 h1;obtain ⟨_,_,_,rfl,_,_,h2,g2⟩:=g1;obtain ⟨x2,rfl,k2⟩:=of_3 h2;have e:_=[]:=g2;subst e;exact ⟨⟨x0,x1,x2⟩,rfl,k0,k1,k2,trivial⟩
theorem of_44{d:Nat}{ps:List PV}(h:WT cfg.ty (d+3) 44 ps):∃x:List Qb,ps=(cLst 3 Qb.cells) x∧(fun l:List Qb=>l.length≤maxLen∧∀x∈l,Qb.ok x) x:=by
 obtain ⟨te,es,e1,rfl,hl,hh⟩:=wt_sl (ti:=ti44) (by kernel_rfl) rfl h;obtain rfl:te=ti92:=Qd (e1.symm.trans (by kernel_rfl:cfg.ty 92=some ti92));obtain ⟨xs,rfl,hx⟩:=list_of (c:=Qb.cells) (ok:=Qb.ok) (fun ps h=>of_92 h) es (fun c hc=>(hh c hc).2);exact ⟨xs,rfl,by simpa using hl,hx⟩
theorem of_46{d:Nat}{ps:List PV}(h:WT cfg.ty (d+4) 46 ps):∃x:Qc,ps=Qc.cells x∧Qc.ok x:=by
 have g:=wt_struct (ti:=ti46) (by kernel_rfl) rfl h
 clear h
 obtain ⟨_,_,_,rfl,_,_,h0,g0⟩:=g;obtain ⟨x0,rfl,k0⟩:=of_3 h0;obtain ⟨_,_,_,rfl,_,_,h1,g1⟩:=g0;obtain ⟨x1,rfl,k1⟩:=of_9 h1;obtain ⟨_,_,_,rfl,_,_,h2,g2⟩:=g1;obtain ⟨x2,rfl,k2⟩:=of_44 h2;have e:_=[]:=g2;subst e;exact ⟨⟨x0,x1,x2⟩,rfl,k0,k1,k2,trivial⟩
theorem of_41{d:Nat}{ps:List PV}(h:WT cfg.ty (d+5) 41 ps):∃x:List Qc,ps=(cLst 3 Qc.cells) x∧(fun l:List Qc=>l.length≤maxLen∧∀x∈l,Qc.ok x) x:=by
 obtain ⟨te,es,e1,rfl,hl,hh⟩:=wt_sl (ti:=ti41) (by kernel_rfl) rfl h;obtain rfl:te=ti46:=Qd (e1.symm.trans (by kernel_rfl:cfg.ty 46=some ti46));obtain ⟨xs,rfl,hx⟩:=list_of (c:=Qc.cells) (ok:=Qc.ok) (fun ps h=>of_46 h) es (fun c hc=>(hh c hc).2);exact ⟨xs,rfl,by simpa using hl,hx⟩
theorem of_43{d:Nat}{ps:List PV}(h:WT cfg.ty (d+6) 43 ps):∃x:Qi,ps=Qi.cells x∧Qi.ok x:=by
 have g:=wt_struct (ti:=ti43) (by kernel_rfl) rfl h
 clear h
 obtain ⟨_,_,_,rfl,_,_,h0,g0⟩:=g;obtain ⟨x0,rfl,k0⟩:=of_41 h0;have e:_=[]:=g0;subst e;exact ⟨⟨x0⟩,rfl,k0,trivial⟩
theorem arg_43{p:PV}(h:WV cfg.ty 6 43 p):∃x:Qi,p = .agg (Qi.cells x)∧Qi.ok x:=by
 obtain ⟨cs,rfl,g⟩:=wv_row (ti:=ti43) (by kernel_rfl) rfl h;obtain ⟨x,rfl,k⟩:=of_43 (d:=0) g;exact ⟨x,rfl,k⟩
theorem arg_3{p:PV}(h:WV cfg.ty 1 3 p):∃x:Int,p=(.int .i64 x)∧(okInt .i64) x:=by
 obtain ⟨_,g⟩:=wv_one (ti:=ti3) (by kernel_rfl) rfl h;obtain ⟨x,e,k⟩:=of_3 (d:=0) g;exact ⟨x,(List.cons.inj e).1,k⟩
end Go.Proofs.YtfeklaffeigilaaDoor
namespace Go.Proofs.YtfeklaffeigilaaDoor
set_option linter.unusedVariables false
set_option linter.unusedSimpArgs false
set_option maxRecDepth 100000
open Go.RowKit

noncomputable def c39:Code:=Tryd.f39.body.getD .skip
inductive f39n0O where
 | ret (v7:Bool)
def f39n0E(a1 a2:Int):f39n0O→Ex×Tr×Hp
 | .ret v7=>(.ret,mkS [(4,(jB v7))],[])
def f39n0S(a1 a2:Int):Tr×Hp:=(Qae [(jI a1),(jI a2)] 0 .leaf,[])
noncomputable def f39n0(a1 a2:Int):Option f39n0O :=
 bif decide (0≤a1) then
  bif decide (a1≤a2) then
   some (.ret (decide (a2≤100000)))
  else
   some (.ret false)
 else
  some (.ret false)
theorem f39n0_ok(a1 a2:Int){o:f39n0O}(h:f39n0 a1 a2=some o):T Tryd.prog Tryd.f39.ntmps 0 c39 (f39n0S a1 a2) (·=f39n0E a1 a2 o):=by
 unfold f39n0 at h;rcases Qg h with ⟨h5,h⟩|⟨h5,h⟩
 ·rcases Qg h with ⟨h6,h⟩|⟨h6,h⟩
  ·obtain rfl:=Qd h;exact rE Qh [j3,(jT [3,4,5,8,9],[(6,.bool true),(10,.bool true)],[])] [] [] [] [4] (.ret,(f39n0E a1 a2 (.ret (decide (a2≤100000)))).2) (ap4 h5 (ap3 h6 an)) rfl
  ·obtain rfl:=Qd h;exact rE Qh [j3,(jF [8,9]++jT [3,4,5],[(6,.bool true),(10,.bool false)],[])] [] [] [] [4] (.ret,(f39n0E a1 a2 (.ret false)).2) (ap4 h5 (ap3 h6 an)) rfl
 ·obtain rfl:=Qd h;exact rE Qh [j3,(jF [3,4,5],[(6,.bool false)],[])] [] [] [] [4] (.ret,(f39n0E a1 a2 (.ret false)).2) (ap4 h5 an) rfl
noncomputable def f39(a1 a2:Int):Option Bool:=(f39n0 a1 a2).bind fun o=>match o with
 | .ret v7=>some v7
theorem f39_ok(a1 a2:Int){r:Bool}(h:f39 a1 a2=some r):Qo Tryd.prog false 39 [(jI a1),(jI a2)] [] (jB r) []:=by
 unfold f39 at h;obtain ⟨o,ho,h⟩:=Qe h;cases o with
 | ret v7 =>
  obtain rfl:=Qd h;exact Qo.plain Qh (f:=Tryd.f39) (c:=c39) (by kernel_rfl) (by kernel_rfl) (by kernel_rfl) (by kernel_rfl) ((f39n0_ok a1 a2 ho).mono fun r e=>by subst e; exact ⟨.inl rfl,(jB v7),(jB v7),by kernel_rfl,by kernel_rfl,((Wk.refl _):Wk (jB v7) (jB v7))⟩)

noncomputable def c60:Code:=Tryd.f60.body.getD .skip
inductive f60n0O where
 | ret (v10:Bool)
def f60n0E(a1:Int):f60n0O→Ex×Tr×Hp
 | .ret v10=>(.ret,mkS [(2,(jB v10))],[])
def f60n0S(a1:Int):Tr×Hp:=(Qae [(.pl (.int .u8 a1))] 0 .leaf,[])
noncomputable def f60n0(a1:Int):Option f60n0O :=
 bif decide (97≤a1) then
  bif decide (a1≤122) then
   some (.ret true)
  else
   bif decide (65≤a1) then
    some (.ret (decide (a1≤90)))
   else
    some (.ret false)
 else
  bif decide (65≤a1) then
   some (.ret (decide (a1≤90)))
  else
   some (.ret false)
theorem f60n0_ok(a1:Int){o:f60n0O}(h:f60n0 a1=some o):T Tryd.prog Tryd.f60.ntmps 0 c60 (f60n0S a1) (·=f60n0E a1 o):=by
 unfold f60n0 at h;rcases Qg h with ⟨h6,h⟩|⟨h6,h⟩
 ·rcases Qg h with ⟨h7,h⟩|⟨h7,h⟩
  ·obtain rfl:=Qd h;exact rE Qh [j3,(jT [3,4,7,8,9,12],[(5,.bool true),(13,.bool true)],[])] [] [] [] [2] (.ret,(f60n0E a1 (.ret true)).2) (ap3 h6 (ap h7 (ap4 h7 an))) rfl
  ·rcases Qg h with ⟨h8,h⟩|⟨h8,h⟩
   ·obtain rfl:=Qd h;exact rE Qh [j3,(jF [7,8,9,12]++jT [3,4,10,11],[(5,.bool true),(12,.bool true),(13,.bool false)],[])] [] [] [] [2] (.ret,(f60n0E a1 (.ret (decide (a1≤90)))).2) (ap3 h6 (ap3 h7 (ap2 h8 (ap h7 (ap h8 (ap h7 an)))))) rfl
   ·obtain rfl:=Qd h;exact rE Qh [j3,(jF [7,8,9,10,11,12]++jT [3,4],[(5,.bool true),(12,.bool false),(13,.bool false)],[])] [] [] [] [2] (.ret,(f60n0E a1 (.ret false)).2) (ap3 h6 (ap3 h7 (ap2 h8 (ap h7 (ap h8 (ap h7 an)))))) rfl
 ·rcases Qg h with ⟨h9,h⟩|⟨h9,h⟩
  ·obtain rfl:=Qd h;exact rE Qh [j3,(jF [3,4]++jT [10,11],[(5,.bool false),(12,.bool true)],[])] [] [] [] [2] (.ret,(f60n0E a1 (.ret (decide (a1≤90)))).2) (ap3 h6 (ap3 h9 an)) rfl
  ·obtain rfl:=Qd h;exact rE Qh [j3,(jF [3,4,10,11],[(5,.bool false),(12,.bool false)],[])] [] [] [] [2] (.ret,(f60n0E a1 (.ret false)).2) (ap3 h6 (ap3 h9 an)) rfl
noncomputable def f60(a1:Int):Option Bool:=(f60n0 a1).bind fun o=>match o with
 | .ret v10=>some v10
theorem f60_ok(a1:Int){r:Bool}(h:f60 a1=some r):Qo Tryd.prog false 60 [(.pl (.int .u8 a1))] [] (jB r) []:=by
 unfold f60 at h;obtain ⟨o,ho,h⟩:=Qe h;cases o with
 | ret v10 =>
  obtain rfl:=Qd h;exact Qo.plain Qh (f:=Tryd.f60) (c:=c60) (by kernel_rfl) (by kernel_rfl) (by kernel_rfl) (by kernel_rfl) ((f60n0_ok a1 ho).mono fun r e=>by subst e; exact ⟨.inl rfl,(jB v10),(jB v10),by kernel_rfl,by kernel_rfl,((Wk.refl _):Wk (jB v10) (jB v10))⟩)

noncomputable def c40:Code:=Tryd.f40.body.getD .skip
inductive f40n3O where
 | norm (v148:Bool)
def f40n3E(bb1:ByteArray)(bc2:UInt8)(bd3:Int):f40n3O→Ex×Tr×Hp
 | .norm v148=>(.norm,mkS [(0,(jS bb1)),(20,(jI (bb1.size:Int))),(21,(jI bd3)),(45,(jB v148))],[])
def f40n3S(bb1:ByteArray)(bc2:UInt8)(bd3:Int):Tr×Hp:=(mkS [(0,(jS bb1)),(4,(.pl (.int .u8 (bc2.toNat:Int)))),(20,(jI (bb1.size:Int))),(21,(jI bd3))],[])
noncomputable def f40n3(bb1:ByteArray)(bc2:UInt8)(bd3:Int):Option f40n3O :=
 (f60 (bc2.toNat:Int)).bind fun x141 =>
 bif x141 then
  some (.norm false)
 else
  bif decide ((bc2.toNat:Int)<48) then
   bif decide ((bc2.toNat:Int)=95) then
    some (.norm false)
   else
    some (.norm (!(decide ((bc2.toNat:Int)=45))))
  else
   bif decide (57<(bc2.toNat:Int)) then
    bif decide ((bc2.toNat:Int)=95) then
     some (.norm false)
    else
     some (.norm (!(decide ((bc2.toNat:Int)=45))))
   else
    some (.norm false)
theorem f40n3_ok(bb1:ByteArray)(bc2:UInt8)(bd3:Int){o:f40n3O}(h:f40n3 bb1 bc2 bd3=some o):T Tryd.prog Tryd.f40.ntmps 0 (cL (Qn 2 (cL (cL (Qn 2 (cL (cL (Qn 1 (cL (Qn 2 c40)))))))))) (f40n3S bb1 bc2 bd3) (·=f40n3E bb1 bc2 bd3 o):=by
 unfold f40n3 at h;obtain ⟨x141,h142,h⟩:=Qe h;rcases Qg h with ⟨h143,h⟩|⟨h143,h⟩
 ·obtain rfl:=Qd h;exact rE Qh [(jF [4,5,6,9],[jH 1 (jB x141),(10,.bool false)],[])] [] [] [] [0,20,21,45] (.norm,(f40n3E bb1 bc2 bd3 (.norm false)).2) (ap (Qm h143) (ap4 (Qm h143) (ap (f60_ok (bc2.toNat:Int) h142) an))) rfl
 ·rcases Qg h with ⟨h144,h⟩|⟨h144,h⟩
  ·rcases Qg h with ⟨h145,h⟩|⟨h145,h⟩
   ·obtain rfl:=Qd h;exact rE Qh [(jF [16,17]++jT [4,5,6,7,8,9],[jH 1 (jB x141),(9,.bool true),(10,.bool true),(18,.bool false)],[])] [] [] [] [0,20,21,45] (.norm,(f40n3E bb1 bc2 bd3 (.norm false)).2) (ap3 (Qx h143) (ap2 h144 (ap (Qx h143) (ap h144 (ap (Qx h143) (ap3 (Qm h145) (ap (f60_ok (bc2.toNat:Int) h142) an))))))) rfl
   ·obtain rfl:=Qd h;exact rE Qh [(jT [4,5,6,7,8,9,16,17],[jH 1 (jB x141),(9,.bool true),(10,.bool true),(18,.bool true)],[])] [] [] [] [0,20,21,45] (.norm,(f40n3E bb1 bc2 bd3 (.norm (!(decide ((bc2.toNat:Int)=45))))).2) (ap3 (Qx h143) (ap2 h144 (ap (Qx h143) (ap h144 (ap (Qx h143) (ap3 (Qx h145) (ap (f60_ok (bc2.toNat:Int) h142) an))))))) rfl
  ·rcases Qg h with ⟨h146,h⟩|⟨h146,h⟩
   ·rcases Qg h with ⟨h147,h⟩|⟨h147,h⟩
    ·obtain rfl:=Qd h;exact rE Qh [(jF [7,8,16,17]++jT [4,5,6,9,12,13],[jH 1 (jB x141),(9,.bool false),(10,.bool true),(14,.bool true),(18,.bool false)],[])] [] [] [] [0,20,21,45] (.norm,(f40n3E bb1 bc2 bd3 (.norm false)).2) (ap3 (Qx h143) (ap2 h144 (ap (Qx h143) (ap h144 (ap (Qx h143) (ap3 h146 (ap3 (Qm h147) (ap (f60_ok (bc2.toNat:Int) h142) an)))))))) rfl
    ·obtain rfl:=Qd h;exact rE Qh [(jF [7,8]++jT [4,5,6,9,12,13,16,17],[jH 1 (jB x141),(9,.bool false),(10,.bool true),(14,.bool true),(18,.bool true)],[])] [] [] [] [0,20,21,45] (.norm,(f40n3E bb1 bc2 bd3 (.norm (!(decide ((bc2.toNat:Int)=45))))).2) (ap3 (Qx h143) (ap2 h144 (ap (Qx h143) (ap h144 (ap (Qx h143) (ap3 h146 (ap3 (Qx h147) (ap (f60_ok (bc2.toNat:Int) h142) an)))))))) rfl
   ·obtain rfl:=Qd h;exact rE Qh [(jF [7,8,12,13]++jT [4,5,6,9],[jH 1 (jB x141),(9,.bool false),(10,.bool true),(14,.bool false)],[])] [] [] [] [0,20,21,45] (.norm,(f40n3E bb1 bc2 bd3 (.norm false)).2) (ap3 (Qx h143) (ap2 h144 (ap (Qx h143) (ap h144 (ap (Qx h143) (ap3 h146 (ap (f60_ok (bc2.toNat:Int) h142) an))))))) rfl
inductive f40n2O where
 | norm
 | ret
def f40n2E(bb1:ByteArray)(bd2:Int):f40n2O→Ex×Tr×Hp
 | .norm=>(.norm,mkS [(0,(jS bb1)),(20,(jI (bb1.size:Int))),(21,(jI bd2))],[])
 | .ret=>(.ret,mkS [(2,(jB false))],[])
def f40n2S(bb1:ByteArray)(bd2:Int):Tr×Hp:=(mkS [(0,(jS bb1)),(20,(jI (bb1.size:Int))),(21,(jI bd2))],[])
noncomputable def f40n2(bb1:ByteArray)(bd2:Int):Option f40n2O :=
 (at? bb1.data.toList bd2).bind fun x125 =>
 (f40n3 bb1 x125 bd2).bind fun o149=>match o149 with
 | .norm v151=>bif v151 then
   some .ret
  else
   some .norm
theorem f40n2_ok(bb1:ByteArray)(bd2:Int){o:f40n2O}(h:f40n2 bb1 bd2=some o):T Tryd.prog Tryd.f40.ntmps 0 (cL (Qn 2 (cL (cL (Qn 1 (cL (Qn 2 c40))))))) (f40n2S bb1 bd2) (·=f40n2E bb1 bd2 o):=by
 unfold f40n2 at h;refine T.block' (i:=1) (by kernel_rfl) ?_;obtain ⟨x125,h126,h⟩:=Qe h;refine rN Qh 2 [j3,([],[(2,.byte (Int.toNat bd2) x125)],[])] [] [] [] [0,4,20,21] (f40n3S bb1 x125 bd2) (ap (Qk h126).1 (ap (Qk h126).2 an)) ?_;obtain ⟨o149,h150,h⟩:=Qe h;cases o149 with
 | norm v151 =>
  refine T.oneN (by kernel_rfl) (f40n3_ok bb1 x125 bd2 h150) (st2:=(f40n3E bb1 x125 bd2 (.norm v151)).2) rfl ?_;rcases Qg h with ⟨h153,h⟩|⟨h153,h⟩
  ·obtain rfl:=Qd h;exact rE Qh [j3] [some true] [] [] [2] (.ret,(f40n2E bb1 bd2 .ret).2) (ap h153 an) rfl
  ·obtain rfl:=Qd h;exact rE Qh [] [some false] [] [] [0,20,21] (.norm,(f40n2E bb1 bd2 .norm).2) (ap h153 an) rfl
inductive f40n4O where
 | exit0
 | ret
def f40n4E(bb1:ByteArray):f40n4O→Ex×Tr×Hp
 | .exit0=>((.exit 0),mkS [],[])
 | .ret=>(.ret,mkS [(2,(jB false))],[])
def f40n4S(bb1:ByteArray)(v109:Int):Tr×Hp:=(mkS [(0,(jS bb1)),(20,(jI (bb1.size:Int))),(21,(jI v109))],[])
noncomputable def f40n4:Nat→ByteArray→Int→Option f40n4O
 | 0,_,_=>none
 | f+1,bb1,v109 =>
  bif decide (v109<(bb1.size:Int)) then
   (f40n2 bb1 v109).bind fun o154=>match o154 with
   | .norm=>(f40n4 f bb1 (wr64 (v109+1)))
   | .ret=>some .ret
  else
   some .exit0
theorem f40n4_ok:∀(f:Nat)(bb1:ByteArray)(v109:Int){o:f40n4O},f40n4 f bb1 v109=some o→TL Tryd.prog Tryd.f40.ntmps 0 f (cL (cL (Qn 1 (cL (Qn 2 c40))))) (f40n4S bb1 v109) (·=f40n4E bb1 o)
 | 0,_,_,o,h=>by rw [f40n4] at h; cases h
 | f+1,bb1,v109,o,h=>by
  rw [f40n4] at h;refine TL.body (K:=fun s=>∃v109:Int,s=(f40n4S bb1 v109)∧f40n4 f bb1 v109=some o) ?_ (by rintro _ ⟨v109,rfl,hk⟩; exact f40n4_ok f _ _ hk);rcases Qg h with ⟨h111,h⟩|⟨h111,h⟩
  ·refine rN Qh 2 [j3] [some true] [] [] [0,20,21] (f40n2S bb1 v109) (ap h111 an) ?_;obtain ⟨o154,h155,h⟩:=Qe h;cases o154 with
   | norm =>
    refine T.oneN (by kernel_rfl) (f40n2_ok bb1 v109 h155) (st2:=(f40n2E bb1 v109 .norm).2) rfl ?_;exact rE Qh [j3] [] [] [] [0,20,21] (.norm,(f40n4S bb1 (wr64 (v109+1)))) an (Qv.norm ⟨(wr64 (v109+1)),rfl,h⟩)
   | ret =>
    obtain rfl:=Qd h;exact T.oneX' (by kernel_rfl) (f40n2_ok bb1 v109 h155) (tds:=[]) (m:=[]) (keep:=[2]) (st2:=(f40n4E bb1 .ret).2) (by kernel_rfl) an rfl (Qv.out rfl rfl)
  ·obtain rfl:=Qd h;exact rK Qh 2 [j3] [some false] [] [] [] (.exit 0) ((f40n4E bb1 .exit0).2) (ap h111 an) (Qv.out rfl rfl)
inductive f40n1O where
 | norm
 | ret
def f40n1E(bb1:ByteArray):f40n1O→Ex×Tr×Hp
 | .norm=>(.norm,mkS [],[])
 | .ret=>(.ret,mkS [(2,(jB false))],[])
def f40n1S(bb1:ByteArray):Tr×Hp:=(mkS [(0,(jS bb1))],[])
noncomputable def f40n1(bb1:ByteArray):Option f40n1O :=
 (f40n4 FUEL bb1 0).bind fun o156=>match o156 with
 | .exit0=>some .norm
 | .ret=>some .ret
theorem f40n1_ok(bb1:ByteArray){o:f40n1O}(h:f40n1 bb1=some o):T Tryd.prog Tryd.f40.ntmps 0 (cL (Qn 2 c40)) (f40n1S bb1) (·=f40n1E bb1 o):=by
 unfold f40n1 at h;refine rN Qh 1 [j3] [] [] [] [0,20,21] (f40n4S bb1 0) an ?_;obtain ⟨o156,h157,h⟩:=Qe h;cases o156 with
 | exit0 =>
  obtain rfl:=Qd h;exact T.last' (T.bl (i:=0) (by kernel_rfl) (by kernel_rfl) (f40n4_ok FUEL bb1 0 h157)) (tds:=[]) (m:=[]) (keep:=[]) (st2:=(f40n1E bb1 .norm).2) (by kernel_rfl) an rfl
 | ret =>
  obtain rfl:=Qd h;exact T.last' (T.bl (i:=0) (by kernel_rfl) (by kernel_rfl) (f40n4_ok FUEL bb1 0 h157)) (tds:=[]) (m:=[]) (keep:=[2]) (st2:=(f40n1E bb1 .ret).2) (by kernel_rfl) an rfl
inductive f40n0O where
 | ret (v160:Bool)
def f40n0E(a1:ByteArray):f40n0O→Ex×Tr×Hp
 | .ret v160=>(.ret,mkS [(2,(jB v160))],[])
def f40n0S(a1:ByteArray):Tr×Hp:=(Qae [(jS a1)] 0 .leaf,[])
noncomputable def f40n0(a1:ByteArray):Option f40n0O :=
 bif decide ((a1.size:Int)<1) then
  some (.ret false)
 else
  bif decide (40<(a1.size:Int)) then
   some (.ret false)
  else
   (at? a1.data.toList 0).bind fun x11 =>
   (f60 (x11.toNat:Int)).bind fun x13 =>
   bif x13 then
    (f40n1 a1).bind fun o158=>match o158 with
    | .norm=>some (.ret true)
    | .ret=>some (.ret false)
   else
    some (.ret false)
theorem f40n0_ok(a1:ByteArray){o:f40n0O}(h:f40n0 a1=some o):T Tryd.prog Tryd.f40.ntmps 0 c40 (f40n0S a1) (·=f40n0E a1 o):=by
 unfold f40n0 at h;rcases Qg h with ⟨h9,h⟩|⟨h9,h⟩
 ·obtain rfl:=Qd h;exact rK Qh 2 [j3,(jT [4,5,6],[(7,.bool true)],[]),j3] [none] [] [] [2] .ret ((f40n0E a1 (.ret false)).2) (ap4 h9 an) rfl
 ·rcases Qg h with ⟨h10,h⟩|⟨h10,h⟩
  ·obtain rfl:=Qd h;exact rK Qh 2 [j3,(jF [4,5,6]++jT [9,10,11,12],[(7,.bool false),(13,.bool true)],[]),j3] [none] [] [] [2] .ret ((f40n0E a1 (.ret false)).2) (ap4 h9 (ap h10 (ap4 h10 an))) rfl
  ·obtain ⟨x11,h12,h⟩:=Qe h;obtain ⟨x13,h14,h⟩:=Qe h;rcases Qg h with ⟨h15,h⟩|⟨h15,h⟩
   ·refine rN Qh 2 [j3,(jF [4,5,6,9,10,11,12],[(7,.bool false),(10,.byte (Int.toNat 0) x11),jH 11 (jB x13),(13,.bool false)],[])] [some false] [] [] [0] (f40n1S a1) (ap4 h9 (ap2 h10 (ap (Qk h12).1 (ap (Qk h12).2 (ap3 h10 (ap (f60_ok (x11.toNat:Int) h14) (ap (Qm h15) an))))))) ?_;obtain ⟨o158,h159,h⟩:=Qe h;cases o158 with
    | norm =>
     refine T.oneN (by kernel_rfl) (f40n1_ok a1 h159) (st2:=(f40n1E a1 .norm).2) rfl ?_;obtain rfl:=Qd h;exact rE Qh [j3] [] [] [] [2] (.ret,(f40n0E a1 (.ret true)).2) an rfl
    | ret =>
     obtain rfl:=Qd h;exact T.oneX' (by kernel_rfl) (f40n1_ok a1 h159) (tds:=[]) (m:=[]) (keep:=[2]) (st2:=(f40n0E a1 (.ret false)).2) (by kernel_rfl) an rfl rfl
   ·obtain rfl:=Qd h;exact rK Qh 2 [j3,(jF [4,5,6,9,10,11,12],[(7,.bool false),(10,.byte (Int.toNat 0) x11),jH 11 (jB x13),(13,.bool false)],[]),j3] [some true] [] [] [2] .ret ((f40n0E a1 (.ret false)).2) (ap4 h9 (ap2 h10 (ap (Qk h12).1 (ap (Qk h12).2 (ap3 h10 (ap (f60_ok (x11.toNat:Int) h14) (ap (Qx h15) an))))))) rfl
noncomputable def f40(a1:ByteArray):Option Bool:=(f40n0 a1).bind fun o=>match o with
 | .ret v160=>some v160
theorem Qai(a1:ByteArray){r:Bool}(h:f40 a1=some r):Qo Tryd.prog false 40 [(jS a1)] [] (jB r) []:=by
 unfold f40 at h;obtain ⟨o,ho,h⟩:=Qe h;cases o with
 | ret v160 =>
  obtain rfl:=Qd h;exact Qo.plain Qh (f:=Tryd.f40) (c:=c40) (by kernel_rfl) (by kernel_rfl) (by kernel_rfl) (by kernel_rfl) ((f40n0_ok a1 ho).mono fun r e=>by subst e; exact ⟨.inl rfl,(jB v160),(jB v160),by kernel_rfl,by kernel_rfl,((Wk.refl _):Wk (jB v160) (jB v160))⟩)

noncomputable def c80:Code:=Tryd.f80.body.getD .skip
inductive f80n0O where
 | ret
def f80n0E(a1:ByteArray):f80n0O→Ex×Tr×Hp
 | .ret=>(.ret,mkS [(2,(.pl (.bool (!(seq a1 a1)))))],[])
def f80n0S(a1:ByteArray):Tr×Hp:=(Qae [(jS a1)] 0 .leaf,[])
noncomputable def f80n0(a1:ByteArray):Option f80n0O :=
 some .ret
theorem f80n0_ok(a1:ByteArray){o:f80n0O}(h:f80n0 a1=some o):T Tryd.prog Tryd.f80.ntmps 0 c80 (f80n0S a1) (·=f80n0E a1 o):=by
 unfold f80n0 at h;obtain rfl:=Qd h;exact rE Qh [j3,j3] [] [] [] [2] (.ret,(f80n0E a1 .ret).2) an rfl
noncomputable def f80(a1:ByteArray):Option Bool:=(f80n0 a1).bind fun o=>match o with
 | .ret=>some (!(seq a1 a1))
theorem f80_ok(a1:ByteArray){r:Bool}(h:f80 a1=some r):Qo Tryd.prog false 80 [(jS a1)] [] (jB r) []:=by
 unfold f80 at h;obtain ⟨o,ho,h⟩:=Qe h;cases o with
 | ret =>
  obtain rfl:=Qd h;exact Qo.plain Qh (f:=Tryd.f80) (c:=c80) (by kernel_rfl) (by kernel_rfl) (by kernel_rfl) (by kernel_rfl) ((f80n0_ok a1 ho).mono fun r e=>by subst e; exact ⟨.inl rfl,(.pl (.bool (!(seq a1 a1)))),(.pl (.bool (!(seq a1 a1)))),by kernel_rfl,by kernel_rfl,((Wk.refl _):Wk (.pl (.bool (!(seq a1 a1)))) (.pl (.bool (!(seq a1 a1)))))⟩)

noncomputable def c62:Code:=Tryd.f62.body.getD .skip
inductive f62n0O where
 | ret (v21:Int)
def f62n0E(a1 a2:ByteArray):f62n0O→Ex×Tr×Hp
 | .ret v21=>(.ret,mkS [(4,(jI v21))],[])
def f62n0S(a1 a2:ByteArray):Tr×Hp:=(Qae [(jS a1),(jS a2)] 0 .leaf,[])
noncomputable def f62n0(a1 a2:ByteArray):Option f62n0O :=
 (f80 a1).bind fun x5 =>
 (f80 a2).bind fun x9 =>
 bif x5 then
  bif x9 then
   some (.ret 0)
  else
   some (.ret (-1))
 else
  bif x9 then
   some (.ret 1)
  else
   bif (slt a1 a2) then
    some (.ret (-1))
   else
    bif (slt a1 a2||seq a1 a2) then
     some (.ret 0)
    else
     some (.ret 1)
theorem f62n0_ok(a1 a2:ByteArray){o:f62n0O}(h:f62n0 a1 a2=some o):T Tryd.prog Tryd.f62.ntmps 0 c62 (f62n0S a1 a2) (·=f62n0E a1 a2 o):=by
 unfold f62n0 at h;obtain ⟨x5,h6,h⟩:=Qe h;obtain ⟨x9,h10,h⟩:=Qe h;rcases Qg h with ⟨h13,h⟩|⟨h13,h⟩
 ·rcases Qg h with ⟨h14,h⟩|⟨h14,h⟩
  ·obtain rfl:=Qd h;exact rK Qh 4 [j3,([],[jH 1 (jB x5)],[]),([],[jH 1 (jB x9)],[]),j3,j3,j3] [some true,some true] [] [] [4] .ret ((f62n0E a1 a2 (.ret 0)).2) (ap (f80_ok a1 h6) (ap (f80_ok a2 h10) (ap h13 (ap h14 an)))) rfl
  ·obtain rfl:=Qd h;exact rK Qh 4 [j3,([],[jH 1 (jB x5)],[]),([],[jH 1 (jB x9)],[]),j3,j3,j3] [some true,some false] [] [] [4] .ret ((f62n0E a1 a2 (.ret (-1))).2) (ap (f80_ok a1 h6) (ap (f80_ok a2 h10) (ap h13 (ap h14 an)))) rfl
 ·rcases Qg h with ⟨h16,h⟩|⟨h16,h⟩
  ·obtain rfl:=Qd h;exact rK Qh 5 [j3,([],[jH 1 (jB x5)],[]),([],[jH 1 (jB x9)],[]),j3,j3,j3] [some false,some true] [] [] [4] .ret ((f62n0E a1 a2 (.ret 1)).2) (ap (f80_ok a1 h6) (ap (f80_ok a2 h10) (ap h13 (ap h16 an)))) rfl
  ·rcases Qg h with ⟨h18,h⟩|⟨h18,h⟩
   ·obtain rfl:=Qd h;exact rK Qh 6 [j3,([],[jH 1 (jB x5)],[]),([],[jH 1 (jB x9)],[]),j3,j3,j3,j3] [some false,some false,some true] [] [] [4] .ret ((f62n0E a1 a2 (.ret (-1))).2) (ap (f80_ok a1 h6) (ap (f80_ok a2 h10) (ap h13 (ap h16 (ap h18 an))))) rfl
   ·rcases Qg h with ⟨h20,h⟩|⟨h20,h⟩
    ·obtain rfl:=Qd h;exact rE Qh [j3,([],[jH 1 (jB x5)],[]),([],[jH 1 (jB x9)],[]),j3,j3,j3,j3,j3] [some false,some false,some false,some false] [] [] [4] (.ret,(f62n0E a1 a2 (.ret 0)).2) (ap (f80_ok a1 h6) (ap (f80_ok a2 h10) (ap h13 (ap h16 (ap h18 (ap (Qm h20) an)))))) rfl
    ·obtain rfl:=Qd h;exact rK Qh 7 [j3,([],[jH 1 (jB x5)],[]),([],[jH 1 (jB x9)],[]),j3,j3,j3,j3,j3] [some false,some false,some false,some true] [] [] [4] .ret ((f62n0E a1 a2 (.ret 1)).2) (ap (f80_ok a1 h6) (ap (f80_ok a2 h10) (ap h13 (ap h16 (ap h18 (ap (Qx h20) an)))))) rfl
noncomputable def f62(a1 a2:ByteArray):Option Int:=(f62n0 a1 a2).bind fun o=>match o with
 | .ret v21=>some v21
theorem f62_ok(a1 a2:ByteArray){r:Int}(h:f62 a1 a2=some r):Qo Tryd.prog false 62 [(jS a1),(jS a2)] [] (jI r) []:=by
 unfold f62 at h;obtain ⟨o,ho,h⟩:=Qe h;cases o with
 | ret v21 =>
  obtain rfl:=Qd h;exact Qo.plain Qh (f:=Tryd.f62) (c:=c62) (by kernel_rfl) (by kernel_rfl) (by kernel_rfl) (by kernel_rfl) ((f62n0_ok a1 a2 ho).mono fun r e=>by subst e; exact ⟨.inl rfl,(jI v21),(jI v21),by kernel_rfl,by kernel_rfl,((Wk.refl _):Wk (jI v21) (jI v21))⟩)

noncomputable def c61:Code:=Tryd.f61.body.getD .skip
inductive f61n2O where
 | exit0
 | ret (v28:Int)
def f61n2E(bf1:List Int):f61n2O→Ex×Tr×Hp
 | .exit0=>((.exit 0),mkS [(3,(jI 0))],[])
 | .ret v28=>(.ret,mkS [(2,(jI v28))],[])
def f61n2S(bf1:List Int)(v19:Int):Tr×Hp:=(mkS [(3,(jI 0)),(6,(.pl (.sl .any 1 (bf1.map (cInt .i64))))),(7,(jI (bf1.length:Int))),(8,(jI v19))],[])
noncomputable def f61n2:Nat→List Int→Int→Option f61n2O
 | 0,_,_=>none
 | f+1,bf1,v19 =>
  bif decide (v19<(bf1.length:Int)) then
   (at? bf1 v19).bind fun x25 =>
   bif decide (x25=0) then
    (f61n2 f bf1 (wr64 (v19+1)))
   else
    some (.ret x25)
  else
   some .exit0
theorem f61n2_ok:∀(f:Nat)(bf1:List Int)(v19:Int){o:f61n2O},f61n2 f bf1 v19=some o→TL Tryd.prog Tryd.f61.ntmps 0 f (cL (cL (Qn 1 (cL (Qn 2 c61))))) (f61n2S bf1 v19) (·=f61n2E bf1 o)
 | 0,_,_,o,h=>by rw [f61n2] at h; cases h
 | f+1,bf1,v19,o,h=>by
  rw [f61n2] at h;refine TL.body (K:=fun s=>∃v19:Int,s=(f61n2S bf1 v19)∧f61n2 f bf1 v19=some o) ?_ (by rintro _ ⟨v19,rfl,hk⟩; exact f61n2_ok f _ _ hk);rcases Qg h with ⟨h21,h⟩|⟨h21,h⟩
  ·obtain ⟨x25,h26,h⟩:=Qe h;rcases Qg h with ⟨h27,h⟩|⟨h27,h⟩
   ·exact rE Qh [j3,([],[(0,.idx (Int.toNat v19) ((cInt .i64) x25))],[]),j3,j3] [some true,some false] [] [] [3,6,7,8] (.norm,(f61n2S bf1 (wr64 (v19+1)))) (ap h21 (ap (Qk h26).1 (ap (Qt (cInt .i64) (Qk h26).2) (ap (Qm h27) an)))) (Qv.norm ⟨(wr64 (v19+1)),rfl,h⟩)
   ·obtain rfl:=Qd h;exact rK Qh 3 [j3,([],[(0,.idx (Int.toNat v19) ((cInt .i64) x25))],[]),j3,j3] [some true,some true] [] [] [2] .ret ((f61n2E bf1 (.ret x25)).2) (ap h21 (ap (Qk h26).1 (ap (Qt (cInt .i64) (Qk h26).2) (ap (Qx h27) an)))) (Qv.out rfl rfl)
  ·obtain rfl:=Qd h;exact rK Qh 2 [j3] [some false] [] [] [3] (.exit 0) ((f61n2E bf1 .exit0).2) (ap h21 an) (Qv.out rfl rfl)
noncomputable def f61n2L(bf1:List Int):List Int→Int→Option f61n2O
 | [],v19 =>
  some .exit0
 | x0::rest,v19 =>
  bif decide (x0=0) then
   (f61n2L bf1 rest (v19+1))
  else
   some (.ret x0)
theorem f61n2L_eq(bf1:List Int):∀(rest:List Int)(f k:Nat),bf1.drop k=rest→bf1.length≤maxLen→rest.length<f→f61n2 f bf1 (k:Int)=f61n2L bf1 rest (k:Int)
 | _,0,_,_,_,hf=>absurd hf (Nat.not_lt_zero _)
 | [],f+1,k,hd,hm,hf=>by
  have hk:¬((k:Int)<(bf1.length:Int)):=by have:=Qak hd; omega
  rw [f61n2,f61n2L];simp only [decide_eq_false hk,cond_false]
 | x0::rest,f+1,k,hd,hm,hf=>by
  obtain ⟨hx,hlt,hd'⟩:=Qaj hd;have hk:(k:Int)<(bf1.length:Int):=by omega
  have hw:wr64 ((k:Int)+1)=(k:Int)+1:=Qbk (by omega) (by unfold maxLen at hm; omega);have ih:f61n2 f bf1 ((k:Int)+1)=f61n2L bf1 rest ((k:Int)+1):=f61n2L_eq bf1 rest f (k+1) hd' hm (by simpa using hf);rw [f61n2,f61n2L];simp only [decide_eq_true hk,cond_true,at_nat,hx,Option.bind_some,hw,ih]
theorem f61n2_run(bf1:List Int)(hm:bf1.length≤maxLen):f61n2 FUEL bf1 0=f61n2L bf1 bf1 0:=f61n2L_eq bf1 bf1 FUEL 0 List.drop_zero hm (Qbi hm)
inductive f61n1O where
 | norm
 | ret (v32:Int)
def f61n1E(bf1:List Int):f61n1O→Ex×Tr×Hp
 | .norm=>(.norm,mkS [(3,(jI 0))],[])
 | .ret v32=>(.ret,mkS [(2,(jI v32))],[])
def f61n1S(bf1:List Int):Tr×Hp:=(mkS [(0,(.pl (.sl .any 1 (bf1.map (cInt .i64))))),(3,(jI 0))],[])
noncomputable def f61n1(bf1:List Int):Option f61n1O :=
 (f61n2 FUEL bf1 0).bind fun o29=>match o29 with
 | .exit0=>some .norm
 | .ret v31=>some (.ret v31)
theorem f61n1_ok(bf1:List Int){o:f61n1O}(h:f61n1 bf1=some o):T Tryd.prog Tryd.f61.ntmps 0 (cL (Qn 2 c61)) (f61n1S bf1) (·=f61n1E bf1 o):=by
 unfold f61n1 at h;refine rN Qh 1 [([],[],[(1,.val (jI (bf1.length:Int)))])] [] [] [] [3,6,7,8] (f61n2S bf1 0) (ap (Qu (xs:=bf1) (c:=(cInt .i64))) an) ?_;obtain ⟨o29,h30,h⟩:=Qe h;cases o29 with
 | exit0 =>
  obtain rfl:=Qd h;exact T.last' (T.bl (i:=0) (by kernel_rfl) (by kernel_rfl) (f61n2_ok FUEL bf1 0 h30)) (tds:=[]) (m:=[]) (keep:=[3]) (st2:=(f61n1E bf1 .norm).2) (by kernel_rfl) an rfl
 | ret v31 =>
  obtain rfl:=Qd h;exact T.last' (T.bl (i:=0) (by kernel_rfl) (by kernel_rfl) (f61n2_ok FUEL bf1 0 h30)) (tds:=[]) (m:=[]) (keep:=[2]) (st2:=(f61n1E bf1 (.ret v31)).2) (by kernel_rfl) an rfl
inductive f61n0O where
 | ret (v36:Int)
def f61n0E(a1:List Int):f61n0O→Ex×Tr×Hp
 | .ret v36=>(.ret,mkS [(2,(jI v36))],[])
def f61n0S(a1:List Int):Tr×Hp:=(Qae [(.pl (.sl .any 1 (a1.map (cInt .i64))))] 0 .leaf,[])
noncomputable def f61n0(a1:List Int):Option f61n0O :=
 (f61n1 a1).bind fun o33=>match o33 with
 | .norm=>some (.ret 0)
 | .ret v35=>some (.ret v35)
theorem f61n0_ok(a1:List Int){o:f61n0O}(h:f61n0 a1=some o):T Tryd.prog Tryd.f61.ntmps 0 c61 (f61n0S a1) (·=f61n0E a1 o):=by
 unfold f61n0 at h;refine rN Qh 2 [j3,j3] [] [] [] [0,3] (f61n1S a1) an ?_;obtain ⟨o33,h34,h⟩:=Qe h;cases o33 with
 | norm =>
  refine T.oneN (by kernel_rfl) (f61n1_ok a1 h34) (st2:=(f61n1E a1 .norm).2) rfl ?_;obtain rfl:=Qd h;exact rE Qh [j3] [] [] [] [2] (.ret,(f61n0E a1 (.ret 0)).2) an rfl
 | ret v35 =>
  obtain rfl:=Qd h;exact T.oneX' (by kernel_rfl) (f61n1_ok a1 h34) (tds:=[]) (m:=[]) (keep:=[2]) (st2:=(f61n0E a1 (.ret v35)).2) (by kernel_rfl) an rfl rfl
noncomputable def f61(a1:List Int):Option Int:=(f61n0 a1).bind fun o=>match o with
 | .ret v36=>some v36
theorem f61_ok(a1:List Int){r:Int}(h:f61 a1=some r):Qo Tryd.prog false 61 [(.pl (.sl .any 1 (a1.map (cInt .i64))))] [] (jI r) []:=by
 unfold f61 at h;obtain ⟨o,ho,h⟩:=Qe h;cases o with
 | ret v36 =>
  obtain rfl:=Qd h;exact Qo.plain Qh (f:=Tryd.f61) (c:=c61) (by kernel_rfl) (by kernel_rfl) (by kernel_rfl) (by kernel_rfl) ((f61n0_ok a1 ho).mono fun r e=>by subst e; exact ⟨.inl rfl,(jI v36),(jI v36),by kernel_rfl,by kernel_rfl,((Wk.refl _):Wk (jI v36) (jI v36))⟩)

noncomputable def c41:Code:=Tryd.f41.body.getD .skip
inductive f41n0O where
 | ret (v15:Int)
def f41n0E(a1 a2:Qa):f41n0O→Ex×Tr×Hp
 | .ret v15=>(.ret,mkS [(4,(jI v15))],[])
def f41n0S(a1 a2:Qa):Tr×Hp:=(Qae [(jA Qa.cells a1),(jA Qa.cells a2)] 0 .leaf,[])
noncomputable def f41n0(a1 a2:Qa):Option f41n0O :=
 (f62 a1.Account a2.Account).bind fun x9 =>
 (f62 a1.Ccy a2.Ccy).bind fun x11 =>
 (f61 [x9,x11]).bind fun x13 =>
 some (.ret x13)
theorem f41n0_ok(a1 a2:Qa){o:f41n0O}(h:f41n0 a1 a2=some o):T Tryd.prog Tryd.f41.ntmps 0 c41 (f41n0S a1 a2) (·=f41n0E a1 a2 o):=by
 unfold f41n0 at h;obtain ⟨x9,h10,h⟩:=Qe h;obtain ⟨x11,h12,h⟩:=Qe h;obtain ⟨x13,h14,h⟩:=Qe h;obtain rfl:=Qd h
 exact rE Qh [j3,([],[jH 4 (jI x9),jH 9 (jI x11),jH 11 (jI x13)],[])] [] [] [] [4] (.ret,(f41n0E a1 a2 (.ret x13)).2) (ap (Qab (e:=⟨false,62,[(jS a1.Account),(jS a2.Account)],[],(jI x9),[]⟩) (f:=⟨false,62,[(jS a1.Ccy),(jS a2.Ccy)],[],(jI x11),[]⟩) (fun k=>by simp only [jL,jS,jI,jB,jA,Qa.cells_eq,Qa.map_eq,Qj.cells_eq,Qj.map_eq,Key_.cells_eq,Key_.map_eq,Qb.cells_eq,Qb.map_eq,Qc.cells_eq,Qc.map_eq,Qi.cells_eq,Qi.map_eq,Qf.cells_eq,Qf.map_eq,Qq.cells_eq,Qq.map_eq,List.cons.injEq,AV.pl.injEq,PV.str.injEq,PV.int.injEq,PV.bool.injEq,PV.agg.injEq,PV.sl.injEq,and_true,true_and] at k; have e0:x9=x11:=Option.some.inj (by rw [←h10,←h12]; first | exact congrArg _ k | (obtain ⟨k1,_⟩:=k; simp only [k1]; done) | simp only [k]); exact ⟨by rw [e0],rfl⟩)) (ap (f62_ok a1.Account a2.Account h10) (ap (f62_ok a1.Ccy a2.Ccy h12) (ap (f61_ok [x9,x11] h14) an)))) rfl
noncomputable def f41(a1 a2:Qa):Option Int:=(f41n0 a1 a2).bind fun o=>match o with
 | .ret v15=>some v15
theorem f41_ok(a1 a2:Qa){r:Int}(h:f41 a1 a2=some r):Qo Tryd.prog false 41 [(jA Qa.cells a1),(jA Qa.cells a2)] [] (jI r) []:=by
 unfold f41 at h;obtain ⟨o,ho,h⟩:=Qe h;cases o with
 | ret v15 =>
  obtain rfl:=Qd h;exact Qo.plain Qh (f:=Tryd.f41) (c:=c41) (by kernel_rfl) (by kernel_rfl) (by kernel_rfl) (by kernel_rfl) ((f41n0_ok a1 a2 ho).mono fun r e=>by subst e; exact ⟨.inl rfl,(jI v15),(jI v15),by kernel_rfl,by kernel_rfl,((Wk.refl _):Wk (jI v15) (jI v15))⟩)

noncomputable def c15:Code:=Tryd.f15.body.getD .skip
inductive f15n4O where
 | norm (v396:Bool)
def f15n4E(bd1 bd2 bd3:Int)(ba4:Qj)(bg5:List (ByteArray×Int))(be6:Qa):f15n4O→Ex×Tr×Hp
 | .norm v396=>(.norm,mkS [(1,(.bp 0 0)),(3,(jI bd1)),(4,(jI bd2)),(5,(.mp 1)),(7,(.bp 2 0)),(28,(jL 4 Qa.cells ba4.Rows)),(29,(jI (ba4.Rows.length:Int))),(30,(jI bd3)),(93,(jB v396))],[some (.box 24 ((Qj.cells ba4).map .pl)),some (.map (bg5.map (mkv pStr (pInt .i64)))),some (.box 39 ((Qa.cells be6).map .pl))])
def f15n4S(bd1 bd2 bd3:Int)(ba4:Qj)(bg5:List (ByteArray×Int))(be6:Qa):Tr×Hp:=(mkS [(1,(.bp 0 0)),(3,(jI bd1)),(4,(jI bd2)),(5,(.mp 1)),(6,(jI bd3)),(7,(.bp 2 0)),(28,(jL 4 Qa.cells ba4.Rows)),(29,(jI (ba4.Rows.length:Int))),(30,(jI bd3))],[some (.box 24 ((Qj.cells ba4).map .pl)),some (.map (bg5.map (mkv pStr (pInt .i64)))),some (.box 39 ((Qa.cells be6).map .pl))])
noncomputable def f15n4(bd1 bd2 bd3:Int)(ba4:Qj)(bg5:List (ByteArray×Int))(be6:Qa):Option f15n4O :=
 (f40 be6.Account).bind fun x372 =>
 bif x372 then
  (f40 be6.Ccy).bind fun x375 =>
  bif x375 then
   bif decide (0<bd3) then
    (at? ba4.Rows (wr64 (bd3-1))).bind fun x379 =>
    (f41 x379 be6).bind fun x381 =>
    bif decide (0≤x381) then
     some (.norm true)
    else
     bif decide (be6.In<0) then
      some (.norm true)
     else
      bif decide (be6.Out<0) then
       some (.norm true)
      else
       bif decide (be6.In=0) then
        bif decide (be6.Out=0) then
         some (.norm true)
        else
         bif (decide ((wr64 (4503599627370496000-bd1))<be6.In)) then
          some (.norm true)
         else
          some (.norm (decide ((wr64 (4503599627370496000-bd2))<be6.Out)))
       else
        bif (decide ((wr64 (4503599627370496000-bd1))<be6.In)) then
         some (.norm true)
        else
         some (.norm (decide ((wr64 (4503599627370496000-bd2))<be6.Out)))
   else
    bif decide (be6.In<0) then
     some (.norm true)
    else
     bif decide (be6.Out<0) then
      some (.norm true)
     else
      bif decide (be6.In=0) then
       bif decide (be6.Out=0) then
        some (.norm true)
       else
        bif (decide ((wr64 (4503599627370496000-bd1))<be6.In)) then
         some (.norm true)
        else
         some (.norm (decide ((wr64 (4503599627370496000-bd2))<be6.Out)))
      else
       bif (decide ((wr64 (4503599627370496000-bd1))<be6.In)) then
        some (.norm true)
       else
        some (.norm (decide ((wr64 (4503599627370496000-bd2))<be6.Out)))
  else
   some (.norm true)
 else
  some (.norm true)
theorem f15n4_ok(bd1 bd2 bd3:Int)(ba4:Qj)(bg5:List (ByteArray×Int))(be6:Qa){o:f15n4O}(h:f15n4 bd1 bd2 bd3 ba4 bg5 be6=some o):T Tryd.prog Tryd.f15.ntmps 0 (cL (Qn 0 (cL (Qn 1 (cL (cL (Qn 2 (cL (cL (Qn 1 (cL (Qn 4 c15)))))))))))) (f15n4S bd1 bd2 bd3 ba4 bg5 be6) (·=f15n4E bd1 bd2 bd3 ba4 bg5 be6 o):=by
 unfold f15n4 at h;obtain ⟨x372,h373,h⟩:=Qe h;rcases Qg h with ⟨h374,h⟩|⟨h374,h⟩
 ·obtain ⟨x375,h376,h⟩:=Qe h;rcases Qg h with ⟨h377,h⟩|⟨h377,h⟩
  ·rcases Qg h with ⟨h378,h⟩|⟨h378,h⟩
   ·obtain ⟨x379,h380,h⟩:=Qe h;obtain ⟨x381,h382,h⟩:=Qe h;rcases Qg h with ⟨h383,h⟩|⟨h383,h⟩
    ·obtain rfl:=Qd h
     exact rE Qh [(jF [5,6,7,8,11,12,13,23]++jT [14,15,16,17,18,19,20,21,22,26,27,28],[jH 2 (jB x372),jH 7 (jB x375),(9,.bool false),(18,.idx (Int.toNat (wr64 (bd3-1))) (Qa.cells x379)),jH 21 (jI x381),(23,.bool true),(24,.bool false),(29,.bool true)],[])] [] [] [0,1,2] [1,3,4,5,7,28,29,30,93] (.norm,(f15n4E bd1 bd2 bd3 ba4 bg5 be6 (.norm true)).2) (ap (Qm h374) (ap4 (Qm h374) (ap3 (Qm h377) (ap h378 (ap4 h378 (ap (Qk h380).1 (ap (Qt Qa.cells (Qk h380).2) (ap4 h378 (ap (Qm h377) (ap h378 (ap (Qm h377) (ap4 h383 (ap (Qab (e:=⟨false,40,[(jS be6.Account)],[],(jB x372),[]⟩) (f:=⟨false,40,[(jS be6.Ccy)],[],(jB x375),[]⟩) (fun k=>by simp only [jL,jS,jI,jB,jA,Qa.cells_eq,Qa.map_eq,Qj.cells_eq,Qj.map_eq,Key_.cells_eq,Key_.map_eq,Qb.cells_eq,Qb.map_eq,Qc.cells_eq,Qc.map_eq,Qi.cells_eq,Qi.map_eq,Qf.cells_eq,Qf.map_eq,Qq.cells_eq,Qq.map_eq,List.cons.injEq,AV.pl.injEq,PV.str.injEq,PV.int.injEq,PV.bool.injEq,PV.agg.injEq,PV.sl.injEq,and_true,true_and] at k; have e0:x372=x375:=Option.some.inj (by rw [←h373,←h376]; first | exact congrArg _ k | (obtain ⟨k1,_⟩:=k; simp only [k1]; done) | simp only [k]); exact ⟨by rw [e0],rfl⟩)) (ap (Qai be6.Account h373) (ap (Qai be6.Ccy h376) (ap (f41_ok x379 be6 h382) an)))))))))))))))) rfl
    ·rcases Qg h with ⟨h384,h⟩|⟨h384,h⟩
     ·obtain rfl:=Qd h
      exact rE Qh [(jF [5,6,7,8,11,12,13,23,26,27,28]++jT [14,15,16,17,18,19,20,21,22,31,32,33],[jH 2 (jB x372),jH 7 (jB x375),(9,.bool false),(18,.idx (Int.toNat (wr64 (bd3-1))) (Qa.cells x379)),jH 21 (jI x381),(23,.bool true),(24,.bool false),(29,.bool false),(34,.bool true)],[])] [] [] [0,1,2] [1,3,4,5,7,28,29,30,93] (.norm,(f15n4E bd1 bd2 bd3 ba4 bg5 be6 (.norm true)).2) (ap (Qm h374) (ap4 (Qm h374) (ap3 (Qm h377) (ap h378 (ap4 h378 (ap (Qk h380).1 (ap (Qt Qa.cells (Qk h380).2) (ap4 h378 (ap (Qm h377) (ap h378 (ap (Qm h377) (ap4 h383 (ap4 h384 (ap (Qab (e:=⟨false,40,[(jS be6.Account)],[],(jB x372),[]⟩) (f:=⟨false,40,[(jS be6.Ccy)],[],(jB x375),[]⟩) (fun k=>by simp only [jL,jS,jI,jB,jA,Qa.cells_eq,Qa.map_eq,Qj.cells_eq,Qj.map_eq,Key_.cells_eq,Key_.map_eq,Qb.cells_eq,Qb.map_eq,Qc.cells_eq,Qc.map_eq,Qi.cells_eq,Qi.map_eq,Qf.cells_eq,Qf.map_eq,Qq.cells_eq,Qq.map_eq,List.cons.injEq,AV.pl.injEq,PV.str.injEq,PV.int.injEq,PV.bool.injEq,PV.agg.injEq,PV.sl.injEq,and_true,true_and] at k; have e0:x372=x375:=Option.some.inj (by rw [←h373,←h376]; first | exact congrArg _ k | (obtain ⟨k1,_⟩:=k; simp only [k1]; done) | simp only [k]); exact ⟨by rw [e0],rfl⟩)) (ap (Qai be6.Account h373) (ap (Qai be6.Ccy h376) (ap (f41_ok x379 be6 h382) an))))))))))))))))) rfl
     ·rcases Qg h with ⟨h385,h⟩|⟨h385,h⟩
      ·obtain rfl:=Qd h
       exact rE Qh [(jF [5,6,7,8,11,12,13,23,26,27,28,31,32,33]++jT [14,15,16,17,18,19,20,21,22,36,37,38,39,43],[jH 2 (jB x372),jH 7 (jB x375),(9,.bool false),(18,.idx (Int.toNat (wr64 (bd3-1))) (Qa.cells x379)),jH 21 (jI x381),(23,.bool true),(24,.bool false),(29,.bool false),(34,.bool false),(44,.bool true)],[])] [] [] [0,1,2] [1,3,4,5,7,28,29,30,93] (.norm,(f15n4E bd1 bd2 bd3 ba4 bg5 be6 (.norm true)).2) (ap (Qm h374) (ap4 (Qm h374) (ap3 (Qm h377) (ap h378 (ap4 h378 (ap (Qk h380).1 (ap (Qt Qa.cells (Qk h380).2) (ap4 h378 (ap (Qm h377) (ap h378 (ap (Qm h377) (ap4 h383 (ap4 h384 (ap2 h385 (ap4 h385 (ap (Qab (e:=⟨false,40,[(jS be6.Account)],[],(jB x372),[]⟩) (f:=⟨false,40,[(jS be6.Ccy)],[],(jB x375),[]⟩) (fun k=>by simp only [jL,jS,jI,jB,jA,Qa.cells_eq,Qa.map_eq,Qj.cells_eq,Qj.map_eq,Key_.cells_eq,Key_.map_eq,Qb.cells_eq,Qb.map_eq,Qc.cells_eq,Qc.map_eq,Qi.cells_eq,Qi.map_eq,Qf.cells_eq,Qf.map_eq,Qq.cells_eq,Qq.map_eq,List.cons.injEq,AV.pl.injEq,PV.str.injEq,PV.int.injEq,PV.bool.injEq,PV.agg.injEq,PV.sl.injEq,and_true,true_and] at k; have e0:x372=x375:=Option.some.inj (by rw [←h373,←h376]; first | exact congrArg _ k | (obtain ⟨k1,_⟩:=k; simp only [k1]; done) | simp only [k]); exact ⟨by rw [e0],rfl⟩)) (ap (Qai be6.Account h373) (ap (Qai be6.Ccy h376) (ap (f41_ok x379 be6 h382) an))))))))))))))))))) rfl
      ·rcases Qg h with ⟨h386,h⟩|⟨h386,h⟩
       ·rcases Qg h with ⟨h387,h⟩|⟨h387,h⟩
        ·obtain rfl:=Qd h
         exact rE Qh [(jF [5,6,7,8,11,12,13,23,26,27,28,31,32,33,36,37,38,39,43]++jT [14,15,16,17,18,19,20,21,22,40,41,42,46,47,48,49,50],[jH 2 (jB x372),jH 7 (jB x375),(9,.bool false),(18,.idx (Int.toNat (wr64 (bd3-1))) (Qa.cells x379)),jH 21 (jI x381),(23,.bool true),(24,.bool false),(29,.bool false),(34,.bool false),(43,.bool true),(44,.bool false),(51,.bool true)],[])] [] [] [0,1,2] [1,3,4,5,7,28,29,30,93] (.norm,(f15n4E bd1 bd2 bd3 ba4 bg5 be6 (.norm true)).2) (ap (Qm h374) (ap4 (Qm h374) (ap3 (Qm h377) (ap h378 (ap4 h378 (ap (Qk h380).1 (ap (Qt Qa.cells (Qk h380).2) (ap4 h378 (ap (Qm h377) (ap h378 (ap (Qm h377) (ap4 h383 (ap4 h384 (ap4 h385 (ap3 h386 (ap h385 (ap h386 (ap h385 (ap2 h387 (ap4 h387 (ap (Qab (e:=⟨false,40,[(jS be6.Account)],[],(jB x372),[]⟩) (f:=⟨false,40,[(jS be6.Ccy)],[],(jB x375),[]⟩) (fun k=>by simp only [jL,jS,jI,jB,jA,Qa.cells_eq,Qa.map_eq,Qj.cells_eq,Qj.map_eq,Key_.cells_eq,Key_.map_eq,Qb.cells_eq,Qb.map_eq,Qc.cells_eq,Qc.map_eq,Qi.cells_eq,Qi.map_eq,Qf.cells_eq,Qf.map_eq,Qq.cells_eq,Qq.map_eq,List.cons.injEq,AV.pl.injEq,PV.str.injEq,PV.int.injEq,PV.bool.injEq,PV.agg.injEq,PV.sl.injEq,and_true,true_and] at k; have e0:x372=x375:=Option.some.inj (by rw [←h373,←h376]; first | exact congrArg _ k | (obtain ⟨k1,_⟩:=k; simp only [k1]; done) | simp only [k]); exact ⟨by rw [e0],rfl⟩)) (ap (Qai be6.Account h373) (ap (Qai be6.Ccy h376) (ap (f41_ok x379 be6 h382) an)))))))))))))))))))))))) rfl
        ·rcases Qg h with ⟨h388,h⟩|⟨h388,h⟩
         ·obtain rfl:=Qd h
          exact rE Qh [(jF [5,6,7,8,11,12,13,23,26,27,28,31,32,33,36,37,38,39,43,46,47,48,49,50]++jT [14,15,16,17,18,19,20,21,22,40,41,42,53,54,55,56,57],[jH 2 (jB x372),jH 7 (jB x375),(9,.bool false),(18,.idx (Int.toNat (wr64 (bd3-1))) (Qa.cells x379)),jH 21 (jI x381),(23,.bool true),(24,.bool false),(29,.bool false),(34,.bool false),(43,.bool true),(44,.bool false),(51,.bool false),(58,.bool true)],[])] [] [] [0,1,2] [1,3,4,5,7,28,29,30,93] (.norm,(f15n4E bd1 bd2 bd3 ba4 bg5 be6 (.norm true)).2) (ap (Qm h374) (ap4 (Qm h374) (ap3 (Qm h377) (ap h378 (ap4 h378 (ap (Qk h380).1 (ap (Qt Qa.cells (Qk h380).2) (ap4 h378 (ap (Qm h377) (ap h378 (ap (Qm h377) (ap4 h383 (ap4 h384 (ap4 h385 (ap3 h386 (ap h385 (ap h386 (ap h385 (ap2 h387 (ap4 h387 (ap2 h388 (ap4 h388 (ap (Qab (e:=⟨false,40,[(jS be6.Account)],[],(jB x372),[]⟩) (f:=⟨false,40,[(jS be6.Ccy)],[],(jB x375),[]⟩) (fun k=>by simp only [jL,jS,jI,jB,jA,Qa.cells_eq,Qa.map_eq,Qj.cells_eq,Qj.map_eq,Key_.cells_eq,Key_.map_eq,Qb.cells_eq,Qb.map_eq,Qc.cells_eq,Qc.map_eq,Qi.cells_eq,Qi.map_eq,Qf.cells_eq,Qf.map_eq,Qq.cells_eq,Qq.map_eq,List.cons.injEq,AV.pl.injEq,PV.str.injEq,PV.int.injEq,PV.bool.injEq,PV.agg.injEq,PV.sl.injEq,and_true,true_and] at k; have e0:x372=x375:=Option.some.inj (by rw [←h373,←h376]; first | exact congrArg _ k | (obtain ⟨k1,_⟩:=k; simp only [k1]; done) | simp only [k]); exact ⟨by rw [e0],rfl⟩)) (ap (Qai be6.Account h373) (ap (Qai be6.Ccy h376) (ap (f41_ok x379 be6 h382) an)))))))))))))))))))))))))) rfl
         ·obtain rfl:=Qd h
          exact rE Qh [(jF [5,6,7,8,11,12,13,23,26,27,28,31,32,33,36,37,38,39,43,46,47,48,49,50,53,54,55,56,57]++jT [14,15,16,17,18,19,20,21,22,40,41,42],[jH 2 (jB x372),jH 7 (jB x375),(9,.bool false),(18,.idx (Int.toNat (wr64 (bd3-1))) (Qa.cells x379)),jH 21 (jI x381),(23,.bool true),(24,.bool false),(29,.bool false),(34,.bool false),(43,.bool true),(44,.bool false),(51,.bool false),(58,.bool false)],[])] [] [] [0,1,2] [1,3,4,5,7,28,29,30,93] (.norm,(f15n4E bd1 bd2 bd3 ba4 bg5 be6 (.norm (decide ((wr64 (4503599627370496000-bd2))<be6.Out)))).2) (ap (Qm h374) (ap4 (Qm h374) (ap3 (Qm h377) (ap h378 (ap4 h378 (ap (Qk h380).1 (ap (Qt Qa.cells (Qk h380).2) (ap4 h378 (ap (Qm h377) (ap h378 (ap (Qm h377) (ap4 h383 (ap4 h384 (ap4 h385 (ap3 h386 (ap h385 (ap h386 (ap h385 (ap2 h387 (ap4 h387 (ap2 h388 (ap4 h388 (ap (Qab (e:=⟨false,40,[(jS be6.Account)],[],(jB x372),[]⟩) (f:=⟨false,40,[(jS be6.Ccy)],[],(jB x375),[]⟩) (fun k=>by simp only [jL,jS,jI,jB,jA,Qa.cells_eq,Qa.map_eq,Qj.cells_eq,Qj.map_eq,Key_.cells_eq,Key_.map_eq,Qb.cells_eq,Qb.map_eq,Qc.cells_eq,Qc.map_eq,Qi.cells_eq,Qi.map_eq,Qf.cells_eq,Qf.map_eq,Qq.cells_eq,Qq.map_eq,List.cons.injEq,AV.pl.injEq,PV.str.injEq,PV.int.injEq,PV.bool.injEq,PV.agg.injEq,PV.sl.injEq,and_true,true_and] at k; have e0:x372=x375:=Option.some.inj (by rw [←h373,←h376]; first | exact congrArg _ k | (obtain ⟨k1,_⟩:=k; simp only [k1]; done) | simp only [k]); exact ⟨by rw [e0],rfl⟩)) (ap (Qai be6.Account h373) (ap (Qai be6.Ccy h376) (ap (f41_ok x379 be6 h382) an)))))))))))))))))))))))))) rfl
       ·rcases Qg h with ⟨h389,h⟩|⟨h389,h⟩
        ·obtain rfl:=Qd h
         exact rE Qh [(jF [5,6,7,8,11,12,13,23,26,27,28,31,32,33,36,37,38,39,40,41,42,43]++jT [14,15,16,17,18,19,20,21,22,53,54,55,56,57],[jH 2 (jB x372),jH 7 (jB x375),(9,.bool false),(18,.idx (Int.toNat (wr64 (bd3-1))) (Qa.cells x379)),jH 21 (jI x381),(23,.bool true),(24,.bool false),(29,.bool false),(34,.bool false),(43,.bool false),(44,.bool false),(58,.bool true)],[])] [] [] [0,1,2] [1,3,4,5,7,28,29,30,93] (.norm,(f15n4E bd1 bd2 bd3 ba4 bg5 be6 (.norm true)).2) (ap (Qm h374) (ap4 (Qm h374) (ap3 (Qm h377) (ap h378 (ap4 h378 (ap (Qk h380).1 (ap (Qt Qa.cells (Qk h380).2) (ap4 h378 (ap (Qm h377) (ap h378 (ap (Qm h377) (ap4 h383 (ap4 h384 (ap4 h385 (ap3 h386 (ap h385 (ap h386 (ap h385 (ap2 h389 (ap4 h389 (ap (Qab (e:=⟨false,40,[(jS be6.Account)],[],(jB x372),[]⟩) (f:=⟨false,40,[(jS be6.Ccy)],[],(jB x375),[]⟩) (fun k=>by simp only [jL,jS,jI,jB,jA,Qa.cells_eq,Qa.map_eq,Qj.cells_eq,Qj.map_eq,Key_.cells_eq,Key_.map_eq,Qb.cells_eq,Qb.map_eq,Qc.cells_eq,Qc.map_eq,Qi.cells_eq,Qi.map_eq,Qf.cells_eq,Qf.map_eq,Qq.cells_eq,Qq.map_eq,List.cons.injEq,AV.pl.injEq,PV.str.injEq,PV.int.injEq,PV.bool.injEq,PV.agg.injEq,PV.sl.injEq,and_true,true_and] at k; have e0:x372=x375:=Option.some.inj (by rw [←h373,←h376]; first | exact congrArg _ k | (obtain ⟨k1,_⟩:=k; simp only [k1]; done) | simp only [k]); exact ⟨by rw [e0],rfl⟩)) (ap (Qai be6.Account h373) (ap (Qai be6.Ccy h376) (ap (f41_ok x379 be6 h382) an)))))))))))))))))))))))) rfl
        ·obtain rfl:=Qd h
         exact rE Qh [(jF [5,6,7,8,11,12,13,23,26,27,28,31,32,33,36,37,38,39,40,41,42,43,53,54,55,56,57]++jT [14,15,16,17,18,19,20,21,22],[jH 2 (jB x372),jH 7 (jB x375),(9,.bool false),(18,.idx (Int.toNat (wr64 (bd3-1))) (Qa.cells x379)),jH 21 (jI x381),(23,.bool true),(24,.bool false),(29,.bool false),(34,.bool false),(43,.bool false),(44,.bool false),(58,.bool false)],[])] [] [] [0,1,2] [1,3,4,5,7,28,29,30,93] (.norm,(f15n4E bd1 bd2 bd3 ba4 bg5 be6 (.norm (decide ((wr64 (4503599627370496000-bd2))<be6.Out)))).2) (ap (Qm h374) (ap4 (Qm h374) (ap3 (Qm h377) (ap h378 (ap4 h378 (ap (Qk h380).1 (ap (Qt Qa.cells (Qk h380).2) (ap4 h378 (ap (Qm h377) (ap h378 (ap (Qm h377) (ap4 h383 (ap4 h384 (ap4 h385 (ap3 h386 (ap h385 (ap h386 (ap h385 (ap2 h389 (ap4 h389 (ap (Qab (e:=⟨false,40,[(jS be6.Account)],[],(jB x372),[]⟩) (f:=⟨false,40,[(jS be6.Ccy)],[],(jB x375),[]⟩) (fun k=>by simp only [jL,jS,jI,jB,jA,Qa.cells_eq,Qa.map_eq,Qj.cells_eq,Qj.map_eq,Key_.cells_eq,Key_.map_eq,Qb.cells_eq,Qb.map_eq,Qc.cells_eq,Qc.map_eq,Qi.cells_eq,Qi.map_eq,Qf.cells_eq,Qf.map_eq,Qq.cells_eq,Qq.map_eq,List.cons.injEq,AV.pl.injEq,PV.str.injEq,PV.int.injEq,PV.bool.injEq,PV.agg.injEq,PV.sl.injEq,and_true,true_and] at k; have e0:x372=x375:=Option.some.inj (by rw [←h373,←h376]; first | exact congrArg _ k | (obtain ⟨k1,_⟩:=k; simp only [k1]; done) | simp only [k]); exact ⟨by rw [e0],rfl⟩)) (ap (Qai be6.Account h373) (ap (Qai be6.Ccy h376) (ap (f41_ok x379 be6 h382) an)))))))))))))))))))))))) rfl
   ·rcases Qg h with ⟨h390,h⟩|⟨h390,h⟩
    ·obtain rfl:=Qd h
     exact rE Qh [(jF [5,6,7,8,11,12,13,14,15,16,17,18,19,20,21,22,23]++jT [31,32,33],[jH 2 (jB x372),jH 7 (jB x375),(9,.bool false),(23,.bool false),(24,.bool false),(34,.bool true)],[])] [] [] [0,1,2] [1,3,4,5,7,28,29,30,93] (.norm,(f15n4E bd1 bd2 bd3 ba4 bg5 be6 (.norm true)).2) (ap (Qm h374) (ap4 (Qm h374) (ap3 (Qm h377) (ap h378 (ap4 h378 (ap4 h378 (ap (Qm h377) (ap h378 (ap (Qm h377) (ap4 h390 (ap (Qab (e:=⟨false,40,[(jS be6.Account)],[],(jB x372),[]⟩) (f:=⟨false,40,[(jS be6.Ccy)],[],(jB x375),[]⟩) (fun k=>by simp only [jL,jS,jI,jB,jA,Qa.cells_eq,Qa.map_eq,Qj.cells_eq,Qj.map_eq,Key_.cells_eq,Key_.map_eq,Qb.cells_eq,Qb.map_eq,Qc.cells_eq,Qc.map_eq,Qi.cells_eq,Qi.map_eq,Qf.cells_eq,Qf.map_eq,Qq.cells_eq,Qq.map_eq,List.cons.injEq,AV.pl.injEq,PV.str.injEq,PV.int.injEq,PV.bool.injEq,PV.agg.injEq,PV.sl.injEq,and_true,true_and] at k; have e0:x372=x375:=Option.some.inj (by rw [←h373,←h376]; first | exact congrArg _ k | (obtain ⟨k1,_⟩:=k; simp only [k1]; done) | simp only [k]); exact ⟨by rw [e0],rfl⟩)) (ap (Qai be6.Account h373) (ap (Qai be6.Ccy h376) an))))))))))))) rfl
    ·rcases Qg h with ⟨h391,h⟩|⟨h391,h⟩
     ·obtain rfl:=Qd h
      exact rE Qh [(jF [5,6,7,8,11,12,13,14,15,16,17,18,19,20,21,22,23,31,32,33]++jT [36,37,38,39,43],[jH 2 (jB x372),jH 7 (jB x375),(9,.bool false),(23,.bool false),(24,.bool false),(34,.bool false),(44,.bool true)],[])] [] [] [0,1,2] [1,3,4,5,7,28,29,30,93] (.norm,(f15n4E bd1 bd2 bd3 ba4 bg5 be6 (.norm true)).2) (ap (Qm h374) (ap4 (Qm h374) (ap3 (Qm h377) (ap h378 (ap4 h378 (ap4 h378 (ap (Qm h377) (ap h378 (ap (Qm h377) (ap4 h390 (ap2 h391 (ap4 h391 (ap (Qab (e:=⟨false,40,[(jS be6.Account)],[],(jB x372),[]⟩) (f:=⟨false,40,[(jS be6.Ccy)],[],(jB x375),[]⟩) (fun k=>by simp only [jL,jS,jI,jB,jA,Qa.cells_eq,Qa.map_eq,Qj.cells_eq,Qj.map_eq,Key_.cells_eq,Key_.map_eq,Qb.cells_eq,Qb.map_eq,Qc.cells_eq,Qc.map_eq,Qi.cells_eq,Qi.map_eq,Qf.cells_eq,Qf.map_eq,Qq.cells_eq,Qq.map_eq,List.cons.injEq,AV.pl.injEq,PV.str.injEq,PV.int.injEq,PV.bool.injEq,PV.agg.injEq,PV.sl.injEq,and_true,true_and] at k; have e0:x372=x375:=Option.some.inj (by rw [←h373,←h376]; first | exact congrArg _ k | (obtain ⟨k1,_⟩:=k; simp only [k1]; done) | simp only [k]); exact ⟨by rw [e0],rfl⟩)) (ap (Qai be6.Account h373) (ap (Qai be6.Ccy h376) an))))))))))))))) rfl
     ·rcases Qg h with ⟨h392,h⟩|⟨h392,h⟩
      ·rcases Qg h with ⟨h393,h⟩|⟨h393,h⟩
       ·obtain rfl:=Qd h
        exact rE Qh [(jF [5,6,7,8,11,12,13,14,15,16,17,18,19,20,21,22,23,31,32,33,36,37,38,39,43]++jT [40,41,42,46,47,48,49,50],[jH 2 (jB x372),jH 7 (jB x375),(9,.bool false),(23,.bool false),(24,.bool false),(34,.bool false),(43,.bool true),(44,.bool false),(51,.bool true)],[])] [] [] [0,1,2] [1,3,4,5,7,28,29,30,93] (.norm,(f15n4E bd1 bd2 bd3 ba4 bg5 be6 (.norm true)).2) (ap (Qm h374) (ap4 (Qm h374) (ap3 (Qm h377) (ap h378 (ap4 h378 (ap4 h378 (ap (Qm h377) (ap h378 (ap (Qm h377) (ap4 h390 (ap4 h391 (ap3 h392 (ap h391 (ap h392 (ap h391 (ap2 h393 (ap4 h393 (ap (Qab (e:=⟨false,40,[(jS be6.Account)],[],(jB x372),[]⟩) (f:=⟨false,40,[(jS be6.Ccy)],[],(jB x375),[]⟩) (fun k=>by simp only [jL,jS,jI,jB,jA,Qa.cells_eq,Qa.map_eq,Qj.cells_eq,Qj.map_eq,Key_.cells_eq,Key_.map_eq,Qb.cells_eq,Qb.map_eq,Qc.cells_eq,Qc.map_eq,Qi.cells_eq,Qi.map_eq,Qf.cells_eq,Qf.map_eq,Qq.cells_eq,Qq.map_eq,List.cons.injEq,AV.pl.injEq,PV.str.injEq,PV.int.injEq,PV.bool.injEq,PV.agg.injEq,PV.sl.injEq,and_true,true_and] at k; have e0:x372=x375:=Option.some.inj (by rw [←h373,←h376]; first | exact congrArg _ k | (obtain ⟨k1,_⟩:=k; simp only [k1]; done) | simp only [k]); exact ⟨by rw [e0],rfl⟩)) (ap (Qai be6.Account h373) (ap (Qai be6.Ccy h376) an)))))))))))))))))))) rfl
       ·rcases Qg h with ⟨h394,h⟩|⟨h394,h⟩
        ·obtain rfl:=Qd h
         exact rE Qh [(jF [5,6,7,8,11,12,13,14,15,16,17,18,19,20,21,22,23,31,32,33,36,37,38,39,43,46,47,48,49,50]++jT [40,41,42,53,54,55,56,57],[jH 2 (jB x372),jH 7 (jB x375),(9,.bool false),(23,.bool false),(24,.bool false),(34,.bool false),(43,.bool true),(44,.bool false),(51,.bool false),(58,.bool true)],[])] [] [] [0,1,2] [1,3,4,5,7,28,29,30,93] (.norm,(f15n4E bd1 bd2 bd3 ba4 bg5 be6 (.norm true)).2) (ap (Qm h374) (ap4 (Qm h374) (ap3 (Qm h377) (ap h378 (ap4 h378 (ap4 h378 (ap (Qm h377) (ap h378 (ap (Qm h377) (ap4 h390 (ap4 h391 (ap3 h392 (ap h391 (ap h392 (ap h391 (ap2 h393 (ap4 h393 (ap2 h394 (ap4 h394 (ap (Qab (e:=⟨false,40,[(jS be6.Account)],[],(jB x372),[]⟩) (f:=⟨false,40,[(jS be6.Ccy)],[],(jB x375),[]⟩) (fun k=>by simp only [jL,jS,jI,jB,jA,Qa.cells_eq,Qa.map_eq,Qj.cells_eq,Qj.map_eq,Key_.cells_eq,Key_.map_eq,Qb.cells_eq,Qb.map_eq,Qc.cells_eq,Qc.map_eq,Qi.cells_eq,Qi.map_eq,Qf.cells_eq,Qf.map_eq,Qq.cells_eq,Qq.map_eq,List.cons.injEq,AV.pl.injEq,PV.str.injEq,PV.int.injEq,PV.bool.injEq,PV.agg.injEq,PV.sl.injEq,and_true,true_and] at k; have e0:x372=x375:=Option.some.inj (by rw [←h373,←h376]; first | exact congrArg _ k | (obtain ⟨k1,_⟩:=k; simp only [k1]; done) | simp only [k]); exact ⟨by rw [e0],rfl⟩)) (ap (Qai be6.Account h373) (ap (Qai be6.Ccy h376) an)))))))))))))))))))))) rfl
        ·obtain rfl:=Qd h
         exact rE Qh [(jF [5,6,7,8,11,12,13,14,15,16,17,18,19,20,21,22,23,31,32,33,36,37,38,39,43,46,47,48,49,50,53,54,55,56,57]++jT [40,41,42],[jH 2 (jB x372),jH 7 (jB x375),(9,.bool false),(23,.bool false),(24,.bool false),(34,.bool false),(43,.bool true),(44,.bool false),(51,.bool false),(58,.bool false)],[])] [] [] [0,1,2] [1,3,4,5,7,28,29,30,93] (.norm,(f15n4E bd1 bd2 bd3 ba4 bg5 be6 (.norm (decide ((wr64 (4503599627370496000-bd2))<be6.Out)))).2) (ap (Qm h374) (ap4 (Qm h374) (ap3 (Qm h377) (ap h378 (ap4 h378 (ap4 h378 (ap (Qm h377) (ap h378 (ap (Qm h377) (ap4 h390 (ap4 h391 (ap3 h392 (ap h391 (ap h392 (ap h391 (ap2 h393 (ap4 h393 (ap2 h394 (ap4 h394 (ap (Qab (e:=⟨false,40,[(jS be6.Account)],[],(jB x372),[]⟩) (f:=⟨false,40,[(jS be6.Ccy)],[],(jB x375),[]⟩) (fun k=>by simp only [jL,jS,jI,jB,jA,Qa.cells_eq,Qa.map_eq,Qj.cells_eq,Qj.map_eq,Key_.cells_eq,Key_.map_eq,Qb.cells_eq,Qb.map_eq,Qc.cells_eq,Qc.map_eq,Qi.cells_eq,Qi.map_eq,Qf.cells_eq,Qf.map_eq,Qq.cells_eq,Qq.map_eq,List.cons.injEq,AV.pl.injEq,PV.str.injEq,PV.int.injEq,PV.bool.injEq,PV.agg.injEq,PV.sl.injEq,and_true,true_and] at k; have e0:x372=x375:=Option.some.inj (by rw [←h373,←h376]; first | exact congrArg _ k | (obtain ⟨k1,_⟩:=k; simp only [k1]; done) | simp only [k]); exact ⟨by rw [e0],rfl⟩)) (ap (Qai be6.Account h373) (ap (Qai be6.Ccy h376) an)))))))))))))))))))))) rfl
      ·rcases Qg h with ⟨h395,h⟩|⟨h395,h⟩
       ·obtain rfl:=Qd h
        exact rE Qh [(jF [5,6,7,8,11,12,13,14,15,16,17,18,19,20,21,22,23,31,32,33,36,37,38,39,40,41,42,43]++jT [53,54,55,56,57],[jH 2 (jB x372),jH 7 (jB x375),(9,.bool false),(23,.bool false),(24,.bool false),(34,.bool false),(43,.bool false),(44,.bool false),(58,.bool true)],[])] [] [] [0,1,2] [1,3,4,5,7,28,29,30,93] (.norm,(f15n4E bd1 bd2 bd3 ba4 bg5 be6 (.norm true)).2) (ap (Qm h374) (ap4 (Qm h374) (ap3 (Qm h377) (ap h378 (ap4 h378 (ap4 h378 (ap (Qm h377) (ap h378 (ap (Qm h377) (ap4 h390 (ap4 h391 (ap3 h392 (ap h391 (ap h392 (ap h391 (ap2 h395 (ap4 h395 (ap (Qab (e:=⟨false,40,[(jS be6.Account)],[],(jB x372),[]⟩) (f:=⟨false,40,[(jS be6.Ccy)],[],(jB x375),[]⟩) (fun k=>by simp only [jL,jS,jI,jB,jA,Qa.cells_eq,Qa.map_eq,Qj.cells_eq,Qj.map_eq,Key_.cells_eq,Key_.map_eq,Qb.cells_eq,Qb.map_eq,Qc.cells_eq,Qc.map_eq,Qi.cells_eq,Qi.map_eq,Qf.cells_eq,Qf.map_eq,Qq.cells_eq,Qq.map_eq,List.cons.injEq,AV.pl.injEq,PV.str.injEq,PV.int.injEq,PV.bool.injEq,PV.agg.injEq,PV.sl.injEq,and_true,true_and] at k; have e0:x372=x375:=Option.some.inj (by rw [←h373,←h376]; first | exact congrArg _ k | (obtain ⟨k1,_⟩:=k; simp only [k1]; done) | simp only [k]); exact ⟨by rw [e0],rfl⟩)) (ap (Qai be6.Account h373) (ap (Qai be6.Ccy h376) an)))))))))))))))))))) rfl
       ·obtain rfl:=Qd h
        exact rE Qh [(jF [5,6,7,8,11,12,13,14,15,16,17,18,19,20,21,22,23,31,32,33,36,37,38,39,40,41,42,43,53,54,55,56,57],[jH 2 (jB x372),jH 7 (jB x375),(9,.bool false),(23,.bool false),(24,.bool false),(34,.bool false),(43,.bool false),(44,.bool false),(58,.bool false)],[])] [] [] [0,1,2] [1,3,4,5,7,28,29,30,93] (.norm,(f15n4E bd1 bd2 bd3 ba4 bg5 be6 (.norm (decide ((wr64 (4503599627370496000-bd2))<be6.Out)))).2) (ap (Qm h374) (ap4 (Qm h374) (ap3 (Qm h377) (ap h378 (ap4 h378 (ap4 h378 (ap (Qm h377) (ap h378 (ap (Qm h377) (ap4 h390 (ap4 h391 (ap3 h392 (ap h391 (ap h392 (ap h391 (ap2 h395 (ap4 h395 (ap (Qab (e:=⟨false,40,[(jS be6.Account)],[],(jB x372),[]⟩) (f:=⟨false,40,[(jS be6.Ccy)],[],(jB x375),[]⟩) (fun k=>by simp only [jL,jS,jI,jB,jA,Qa.cells_eq,Qa.map_eq,Qj.cells_eq,Qj.map_eq,Key_.cells_eq,Key_.map_eq,Qb.cells_eq,Qb.map_eq,Qc.cells_eq,Qc.map_eq,Qi.cells_eq,Qi.map_eq,Qf.cells_eq,Qf.map_eq,Qq.cells_eq,Qq.map_eq,List.cons.injEq,AV.pl.injEq,PV.str.injEq,PV.int.injEq,PV.bool.injEq,PV.agg.injEq,PV.sl.injEq,and_true,true_and] at k; have e0:x372=x375:=Option.some.inj (by rw [←h373,←h376]; first | exact congrArg _ k | (obtain ⟨k1,_⟩:=k; simp only [k1]; done) | simp only [k]); exact ⟨by rw [e0],rfl⟩)) (ap (Qai be6.Account h373) (ap (Qai be6.Ccy h376) an)))))))))))))))))))) rfl
  ·obtain rfl:=Qd h
   exact rE Qh [(jF [5,6,7,8]++jT [11,12,13,23],[jH 2 (jB x372),jH 7 (jB x375),(9,.bool false),(24,.bool true)],[])] [] [] [0,1,2] [1,3,4,5,7,28,29,30,93] (.norm,(f15n4E bd1 bd2 bd3 ba4 bg5 be6 (.norm true)).2) (ap (Qm h374) (ap4 (Qm h374) (ap (Qx h377) (ap4 (Qx h377) (ap (Qab (e:=⟨false,40,[(jS be6.Account)],[],(jB x372),[]⟩) (f:=⟨false,40,[(jS be6.Ccy)],[],(jB x375),[]⟩) (fun k=>by simp only [jL,jS,jI,jB,jA,Qa.cells_eq,Qa.map_eq,Qj.cells_eq,Qj.map_eq,Key_.cells_eq,Key_.map_eq,Qb.cells_eq,Qb.map_eq,Qc.cells_eq,Qc.map_eq,Qi.cells_eq,Qi.map_eq,Qf.cells_eq,Qf.map_eq,Qq.cells_eq,Qq.map_eq,List.cons.injEq,AV.pl.injEq,PV.str.injEq,PV.int.injEq,PV.bool.injEq,PV.agg.injEq,PV.sl.injEq,and_true,true_and] at k; have e0:x372=x375:=Option.some.inj (by rw [←h373,←h376]; first | exact congrArg _ k | (obtain ⟨k1,_⟩:=k; simp only [k1]; done) | simp only [k]); exact ⟨by rw [e0],rfl⟩)) (ap (Qai be6.Account h373) (ap (Qai be6.Ccy h376) an))))))) rfl
 ·obtain rfl:=Qd h;exact rE Qh [(jT [5,6,7,8],[jH 2 (jB x372),(9,.bool true)],[])] [] [] [0,1,2] [1,3,4,5,7,28,29,30,93] (.norm,(f15n4E bd1 bd2 bd3 ba4 bg5 be6 (.norm true)).2) (ap (Qx h374) (ap4 (Qx h374) (ap (Qai be6.Account h373) an))) rfl
inductive f15n3O where
 | norm
 | ret
def f15n3E(bd1 bd2 bd3:Int)(ba4:Qj)(bg5:List (ByteArray×Int))(be6:Qa):f15n3O→Ex×Tr×Hp
 | .norm=>(.norm,mkS [(1,(.bp 0 0)),(3,(jI bd1)),(4,(jI bd2)),(5,(.mp 1)),(7,(.bp 2 0)),(28,(jL 4 Qa.cells ba4.Rows)),(29,(jI (ba4.Rows.length:Int))),(30,(jI bd3))],[some (.box 24 ((Qj.cells ba4).map .pl)),some (.map (bg5.map (mkv pStr (pInt .i64)))),some (.box 39 ((Qa.cells be6).map .pl))])
 | .ret=>(.ret,mkS [(2,(jI 8))],[])
def f15n3S(bd1 bd2 bd3:Int)(ba4:Qj)(bg5:List (ByteArray×Int))(be6:Qa):Tr×Hp:=(mkS [(1,(.bp 0 0)),(3,(jI bd1)),(4,(jI bd2)),(5,(.mp 1)),(6,(jI bd3)),(7,(.bp 2 0)),(28,(jL 4 Qa.cells ba4.Rows)),(29,(jI (ba4.Rows.length:Int))),(30,(jI bd3))],[some (.box 24 ((Qj.cells ba4).map .pl)),some (.map (bg5.map (mkv pStr (pInt .i64)))),some (.box 39 ((Qa.cells be6).map .pl))])
noncomputable def f15n3(bd1 bd2 bd3:Int)(ba4:Qj)(bg5:List (ByteArray×Int))(be6:Qa):Option f15n3O :=
 (f15n4 bd1 bd2 bd3 ba4 bg5 be6).bind fun o397=>match o397 with
 | .norm v399=>bif v399 then
   some .ret
  else
   some .norm
theorem f15n3_ok(bd1 bd2 bd3:Int)(ba4:Qj)(bg5:List (ByteArray×Int))(be6:Qa){o:f15n3O}(h:f15n3 bd1 bd2 bd3 ba4 bg5 be6=some o):T Tryd.prog Tryd.f15.ntmps 0 (cL (Qn 1 (cL (cL (Qn 2 (cL (cL (Qn 1 (cL (Qn 4 c15)))))))))) (f15n3S bd1 bd2 bd3 ba4 bg5 be6) (·=f15n3E bd1 bd2 bd3 ba4 bg5 be6 o):=by
 unfold f15n3 at h;refine rN Qh 0 [] [] [] [0,1,2] [1,3,4,5,6,7,28,29,30] (f15n4S bd1 bd2 bd3 ba4 bg5 be6) an ?_;obtain ⟨o397,h398,h⟩:=Qe h;cases o397 with
 | norm v399 =>
  refine T.oneN (by kernel_rfl) (f15n4_ok bd1 bd2 bd3 ba4 bg5 be6 h398) (st2:=(f15n4E bd1 bd2 bd3 ba4 bg5 be6 (.norm v399)).2) rfl ?_;rcases Qg h with ⟨h401,h⟩|⟨h401,h⟩
  ·obtain rfl:=Qd h;exact rE Qh [j3] [some true] [] [] [2] (.ret,(f15n3E bd1 bd2 bd3 ba4 bg5 be6 .ret).2) (ap h401 an) rfl
  ·obtain rfl:=Qd h;exact rE Qh [] [some false] [] [0,1,2] [1,3,4,5,7,28,29,30] (.norm,(f15n3E bd1 bd2 bd3 ba4 bg5 be6 .norm).2) (ap h401 an) rfl
inductive f15n2O where
 | norm (v404:Int) (v405:Int) (v406:List (ByteArray×Int))
 | ret
def f15n2E(bd1 bd2:Int)(ba3:Qj)(bd4:Int)(bg5:List (ByteArray×Int)):f15n2O→Ex×Tr×Hp
 | .norm v404 v405 v406=>(.norm,mkS [(1,(.bp 0 0)),(3,(jI v404)),(4,(jI v405)),(5,(.mp 1)),(28,(jL 4 Qa.cells ba3.Rows)),(29,(jI (ba3.Rows.length:Int))),(30,(jI bd4))],[some (.box 24 ((Qj.cells ba3).map .pl)),some (.map (v406.map (mkv pStr (pInt .i64))))])
 | .ret=>(.ret,mkS [(2,(jI 8))],[])
def f15n2S(bd1 bd2:Int)(ba3:Qj)(bd4:Int)(bg5:List (ByteArray×Int)):Tr×Hp:=(mkS [(1,(.bp 0 0)),(3,(jI bd1)),(4,(jI bd2)),(5,(.mp 1)),(28,(jL 4 Qa.cells ba3.Rows)),(29,(jI (ba3.Rows.length:Int))),(30,(jI bd4))],[some (.box 24 ((Qj.cells ba3).map .pl)),some (.map (bg5.map (mkv pStr (pInt .i64))))])
noncomputable def f15n2(bd1 bd2:Int)(ba3:Qj)(bd4:Int)(bg5:List (ByteArray×Int)):Option f15n2O :=
 (at? ba3.Rows bd4).bind fun x294 =>
 (f15n3 bd1 bd2 bd4 ba3 bg5 x294).bind fun o402=>match o402 with
 | .norm=>some (.norm (wr64 (bd1+x294.In)) (wr64 (bd2+x294.Out)) (mPut seq x294.Ccy (wr64 ((mGet seq 0 x294.Ccy bg5)+(wr64 (x294.In-x294.Out)))) bg5))
 | .ret=>some .ret
theorem f15n2_ok(bd1 bd2:Int)(ba3:Qj)(bd4:Int)(bg5:List (ByteArray×Int)){o:f15n2O}(h:f15n2 bd1 bd2 ba3 bd4 bg5=some o):T Tryd.prog Tryd.f15.ntmps 0 (cL (Qn 2 (cL (cL (Qn 1 (cL (Qn 4 c15))))))) (f15n2S bd1 bd2 ba3 bd4 bg5) (·=f15n2E bd1 bd2 ba3 bd4 bg5 o):=by
 unfold f15n2 at h;refine T.block' (i:=1) (by kernel_rfl) ?_;obtain ⟨x294,h295,h⟩:=Qe h;refine rN Qh 1 [([],[(1,.idx (Int.toNat bd4) (Qa.cells x294))],[])] [] [] [0,1,2] [1,3,4,5,6,7,28,29,30] (f15n3S bd1 bd2 bd4 ba3 bg5 x294) (ap (Qk h295).1 (ap (Qt Qa.cells (Qk h295).2) an)) ?_;obtain ⟨o402,h403,h⟩:=Qe h;cases o402 with
 | norm =>
  refine T.oneN (by kernel_rfl) (f15n3_ok bd1 bd2 bd4 ba3 bg5 x294 h403) (st2:=(f15n3E bd1 bd2 bd4 ba3 bg5 x294 .norm).2) rfl ?_;obtain rfl:=Qd h;exact rE Qh [j3,([],[(3,.look ((pInt .i64) (mGet seq 0 x294.Ccy bg5)) (mHas seq x294.Ccy bg5)),(10,.mset ((mPut seq x294.Ccy (wr64 ((mGet seq 0 x294.Ccy bg5)+(wr64 (x294.In-x294.Out)))) bg5).map (mkv pStr (pInt .i64))))],[])] [] [] [0,1] [1,3,4,5,28,29,30] (.norm,(f15n2E bd1 bd2 ba3 bd4 bg5 (.norm (wr64 (bd1+x294.In)) (wr64 (bd2+x294.Out)) (mPut seq x294.Ccy (wr64 ((mGet seq 0 x294.Ccy bg5)+(wr64 (x294.In-x294.Out)))) bg5))).2) (ap (look_map (vp:=(pInt .i64)) (e:=3) key_9 0 (by kernel_rfl) x294.Ccy bg5) (ap (mset_map (vp:=(pInt .i64)) key_9 x294.Ccy (wr64 ((mGet seq 0 x294.Ccy bg5)+(wr64 (x294.In-x294.Out)))) bg5) an)) rfl
 | ret =>
  obtain rfl:=Qd h;exact T.oneX' (by kernel_rfl) (f15n3_ok bd1 bd2 bd4 ba3 bg5 x294 h403) (tds:=[]) (m:=[]) (keep:=[2]) (st2:=(f15n2E bd1 bd2 ba3 bd4 bg5 .ret).2) (by kernel_rfl) an rfl rfl
inductive f15n5O where
 | exit0 (v412:List (ByteArray×Int))
 | ret
def f15n5E(ba1:Qj):f15n5O→Ex×Tr×Hp
 | .exit0 v412=>((.exit 0),mkS [(5,(.mp 0))],[some (.map (v412.map (mkv pStr (pInt .i64))))])
 | .ret=>(.ret,mkS [(2,(jI 8))],[])
def f15n5S(ba1:Qj)(v256 v257 v258:Int)(v259:List (ByteArray×Int)):Tr×Hp:=(mkS [(1,(.bp 0 0)),(3,(jI v256)),(4,(jI v257)),(5,(.mp 1)),(28,(jL 4 Qa.cells ba1.Rows)),(29,(jI (ba1.Rows.length:Int))),(30,(jI v258))],[some (.box 24 ((Qj.cells ba1).map .pl)),some (.map (v259.map (mkv pStr (pInt .i64))))])
noncomputable def f15n5:Nat→Qj→Int→Int→Int→List (ByteArray×Int)→Option f15n5O
 | 0,_,_,_,_,_=>none
 | f+1,ba1,v256,v257,v258,v259 =>
  bif decide (v258<(ba1.Rows.length:Int)) then
   (f15n2 v256 v257 ba1 v258 v259).bind fun o407=>match o407 with
   | .norm v409 v410 v411=>(f15n5 f ba1 v409 v410 (wr64 (v258+1)) v411)
   | .ret=>some .ret
  else
   some (.exit0 v259)
theorem f15n5_ok:∀(f:Nat)(ba1:Qj)(v256 v257 v258:Int)(v259:List (ByteArray×Int)){o:f15n5O},f15n5 f ba1 v256 v257 v258 v259=some o→TL Tryd.prog Tryd.f15.ntmps 0 f (cL (cL (Qn 1 (cL (Qn 4 c15))))) (f15n5S ba1 v256 v257 v258 v259) (·=f15n5E ba1 o)
 | 0,_,_,_,_,_,o,h=>by rw [f15n5] at h; cases h
 | f+1,ba1,v256,v257,v258,v259,o,h=>by
  rw [f15n5] at h;refine TL.body (K:=fun s=>∃v256:Int,∃v257:Int,∃v258:Int,∃v259:List (ByteArray×Int),s=(f15n5S ba1 v256 v257 v258 v259)∧f15n5 f ba1 v256 v257 v258 v259=some o) ?_ (by rintro _ ⟨v256,v257,v258,v259,rfl,hk⟩; exact f15n5_ok f _ _ _ _ _ hk);rcases Qg h with ⟨h261,h⟩|⟨h261,h⟩
  ·refine rN Qh 2 [j3] [some true] [] [0,1] [1,3,4,5,28,29,30] (f15n2S v256 v257 ba1 v258 v259) (ap h261 an) ?_;obtain ⟨o407,h408,h⟩:=Qe h;cases o407 with
   | norm v409 v410 v411 =>
    refine T.oneN (by kernel_rfl) (f15n2_ok v256 v257 ba1 v258 v259 h408) (st2:=(f15n2E v256 v257 ba1 v258 v259 (.norm v409 v410 v411)).2) rfl ?_;exact rE Qh [j3] [] [] [0,1] [1,3,4,5,28,29,30] (.norm,(f15n5S ba1 v409 v410 (wr64 (v258+1)) v411)) an (Qv.norm ⟨v409,v410,(wr64 (v258+1)),v411,rfl,h⟩)
   | ret =>
    obtain rfl:=Qd h;exact T.oneX' (by kernel_rfl) (f15n2_ok v256 v257 ba1 v258 v259 h408) (tds:=[]) (m:=[]) (keep:=[2]) (st2:=(f15n5E ba1 .ret).2) (by kernel_rfl) an rfl (Qv.out rfl rfl)
  ·obtain rfl:=Qd h;exact rK Qh 2 [j3] [some false] [] [1] [5] (.exit 0) ((f15n5E ba1 (.exit0 v259)).2) (ap h261 an) (Qv.out rfl rfl)
inductive f15n1O where
 | norm (v416:List (ByteArray×Int))
 | ret
def f15n1E(ba1:Qj):f15n1O→Ex×Tr×Hp
 | .norm v416=>(.norm,mkS [(5,(.mp 0))],[some (.map (v416.map (mkv pStr (pInt .i64))))])
 | .ret=>(.ret,mkS [(2,(jI 8))],[])
def f15n1S(ba1:Qj):Tr×Hp:=(mkS [(1,(.bp 0 0)),(3,(jI 0)),(4,(jI 0)),(5,(.mp 1))],[some (.box 24 ((Qj.cells ba1).map .pl)),some (.map ([].map (mkv pStr (pInt .i64))))])
noncomputable def f15n1(ba1:Qj):Option f15n1O :=
 (f15n5 FUEL ba1 0 0 0 []).bind fun o413=>match o413 with
 | .exit0 v415=>some (.norm v415)
 | .ret=>some .ret
theorem f15n1_ok(ba1:Qj){o:f15n1O}(h:f15n1 ba1=some o):T Tryd.prog Tryd.f15.ntmps 0 (cL (Qn 4 c15)) (f15n1S ba1) (·=f15n1E ba1 o):=by
 unfold f15n1 at h;refine rN Qh 1 [([],[],[(2,.val (jI (ba1.Rows.length:Int)))])] [] [] [0,1] [1,3,4,5,28,29,30] (f15n5S ba1 0 0 0 []) (ap (Qu (xs:=ba1.Rows) (c:=Qa.cells)) an) ?_;obtain ⟨o413,h414,h⟩:=Qe h;cases o413 with
 | exit0 v415 =>
  obtain rfl:=Qd h;exact T.last' (T.bl (i:=0) (by kernel_rfl) (by kernel_rfl) (f15n5_ok FUEL ba1 0 0 0 [] h414)) (tds:=[]) (m:=[0]) (keep:=[5]) (st2:=(f15n1E ba1 (.norm v415)).2) (by kernel_rfl) an rfl
 | ret =>
  obtain rfl:=Qd h;exact T.last' (T.bl (i:=0) (by kernel_rfl) (by kernel_rfl) (f15n5_ok FUEL ba1 0 0 0 [] h414)) (tds:=[]) (m:=[]) (keep:=[2]) (st2:=(f15n1E ba1 .ret).2) (by kernel_rfl) an rfl
inductive f15n7O where
 | exit2
 | ret
def f15n7E(bg1:List (ByteArray×Int)):f15n7O→Ex×Tr×Hp
 | .exit2=>((.exit 2),mkS [],[])
 | .ret=>(.ret,mkS [(2,(jI 60))],[])
def f15n7S(bg1:List (ByteArray×Int))(sn0:List Nat):Tr×Hp:=(mkS [(114,(.it 0))],[some (.iter 1 (bg1.map (mkv pStr (pInt .i64))).length sn0),some (.map (bg1.map (mkv pStr (pInt .i64))))])
noncomputable def f15n7(bg1:List (ByteArray×Int)):List (ByteArray×Int)→Option f15n7O
 | [] =>
  some .exit2
 | x426::rest =>
  bif decide (x426.2=0) then
   (f15n7 bg1 rest)
  else
   some .ret
theorem f15n7_ok(bg1:List (ByteArray×Int)):∀(f:Nat)(sn0 rem:List Nat){o:f15n7O},Rem bg1.length sn0 rem→rem.length<f→(∀p,p.Perm rem→f15n7 bg1 (ords bg1 p)=some o)→TL Tryd.prog Tryd.f15.ntmps 0 f (cL (cL (Qn 1 (cL (Qn 0 (Qn 1 (Qn 4 c15))))))) (f15n7S bg1 sn0) (·=f15n7E bg1 o)
 | 0,_,_,_,_,hf,_=>absurd hf (Nat.not_lt_zero _)
 | f+1,sn0,rem,o,hR,hf,H=>by
  refine TL.body (K:=fun s=>∃(sn0 rem:List Nat),s=f15n7S bg1 sn0∧Rem bg1.length sn0 rem∧rem.length<f∧(∀p,p.Perm rem→f15n7 bg1 (ords bg1 p)=some o)) ?_ (by rintro _ ⟨sn0,rem,rfl,h1,h2,h3⟩; exact f15n7_ok bg1 f sn0 rem h1 h2 h3);refine T.oneNext Qh (x:=.tmp 114) (t:=115) (tb:=116) (i:=0) (o:=1) (m:=(bg1.map (mkv pStr (pInt .i64))).length) (seen:=sn0) (kvs:=(bg1.map (mkv pStr (pInt .i64)))) (by kernel_rfl) (by kernel_rfl) (by kernel_rfl) (by kernel_rfl) (by kernel_rfl) (by kernel_rfl) rfl (fun hs=>?_) (fun j425 k v hj hs hx=>?_)
  ·obtain rfl:=hR.none (by simpa using hs);have h:f15n7 bg1 []=some o:=H [] (List.Perm.refl _);rw [f15n7] at h;obtain rfl:=Qd h;exact rK Qh 1 [] [none] [] [] [] (.exit 2) ((f15n7E bg1 .exit2).2) an (Qv.out rfl rfl)
  ·obtain ⟨x426,h427,rfl,rfl⟩:=mkv_at hx;obtain ⟨hR2,hlen,hP⟩:=hR.step (j:=j425) (by simpa using hj) hs;have H2:∀p,p.Perm (rem.erase j425)→f15n7 bg1 (x426::ords bg1 p)=some o:=fun p hp=>by have h:=H _ (hP p hp); rwa [ords_cons h427] at h
   have h:=H2 _ (List.Perm.refl _);rw [f15n7] at h;rcases Qg h with ⟨h429,h⟩|⟨h429,h⟩
   ·exact rE Qh [([],[(0,.entr j425 (pStr x426.1) ((pInt .i64) x426.2))],[]),j3] [none,some false] [] [0,1] [114] (.norm,(f15n7S bg1 (sn0++[j425]))) (ap (last_app (seen:=sn0) (j:=j425)) (ap (rfl:(bg1.map (mkv pStr (pInt .i64))).length=(bg1.map (mkv pStr (pInt .i64))).length) (ap (at_mkv (kp:=pStr) (vp:=(pInt .i64)) h427) (ap (Qm h429) an)))) (Qv.norm ⟨sn0++[j425],rem.erase j425,rfl,hR2,by omega,fun p hp=>by have h:=H2 p hp; rw [f15n7] at h; simp only [h429,cond_true,cond_false,Option.bind_some,req] at h; exact h⟩)
   ·obtain rfl:=Qd h;exact rE Qh [([],[(0,.entr j425 (pStr x426.1) ((pInt .i64) x426.2))],[]),j3,j3] [none,some true] [] [] [2] (.ret,(f15n7E bg1 .ret).2) (ap (last_app (seen:=sn0) (j:=j425)) (ap (rfl:(bg1.map (mkv pStr (pInt .i64))).length=(bg1.map (mkv pStr (pInt .i64))).length) (ap (at_mkv (kp:=pStr) (vp:=(pInt .i64)) h427) (ap (Qx h429) an)))) (Qv.out rfl rfl)
inductive f15n6O where
 | norm
 | ret
def f15n6E(bg1:List (ByteArray×Int)):f15n6O→Ex×Tr×Hp
 | .norm=>(.norm,mkS [],[])
 | .ret=>(.ret,mkS [(2,(jI 60))],[])
def f15n6S(bg1:List (ByteArray×Int)):Tr×Hp:=(mkS [(5,(.mp 0))],[some (.map (bg1.map (mkv pStr (pInt .i64))))])
noncomputable def f15n6(bg1:List (ByteArray×Int)):Option f15n6O :=
 (anyOrder bg1 fun p=>(f15n7 bg1 p)).bind fun o430=>match o430 with
 | .exit2=>some .norm
 | .ret=>some .ret
theorem f15n6_ok(bg1:List (ByteArray×Int)){o:f15n6O}(h:f15n6 bg1=some o):T Tryd.prog Tryd.f15.ntmps 0 (cL (Qn 0 (Qn 1 (Qn 4 c15)))) (f15n6S bg1) (·=f15n6E bg1 o):=by
 unfold f15n6 at h;refine rN Qh 1 [j3] [] [] [1,0] [114] (f15n7S bg1 []) an ?_;obtain ⟨o430,h431,h⟩:=Qe h;cases o430 with
 | exit2 =>
  obtain rfl:=Qd h;exact T.last' (T.bl (i:=2) (by kernel_rfl) (by kernel_rfl) (f15n7_ok bg1 _ [] (List.range bg1.length) (Rem.start _) (Nat.lt_succ_self _) (fun p hp=>anyOrder_at h431 _ (ords_perm hp)))) (tds:=[]) (m:=[]) (keep:=[]) (st2:=(f15n6E bg1 .norm).2) (by kernel_rfl) an rfl
 | ret =>
  obtain rfl:=Qd h;exact T.last' (T.bl (i:=2) (by kernel_rfl) (by kernel_rfl) (f15n7_ok bg1 _ [] (List.range bg1.length) (Rem.start _) (Nat.lt_succ_self _) (fun p hp=>anyOrder_at h431 _ (ords_perm hp)))) (tds:=[]) (m:=[]) (keep:=[2]) (st2:=(f15n6E bg1 .ret).2) (by kernel_rfl) an rfl
inductive f15n0O where
 | ret (v434:Int)
def f15n0E(a1:Qj):f15n0O→Ex×Tr×Hp
 | .ret v434=>(.ret,mkS [(2,(jI v434))],[])
def f15n0S(a1:Qj):Tr×Hp:=(Qae [(jA Qj.cells a1)] 0 .leaf,[])
noncomputable def f15n0(a1:Qj):Option f15n0O :=
 (f39 a1.From a1.To).bind fun x7 =>
 bif x7 then
  bif decide (a1.Known<0) then
   some (.ret 8)
  else
   bif decide (200<a1.Known) then
    some (.ret 8)
   else
    (f15n1 a1).bind fun o417=>match o417 with
    | .norm v419=>(f15n6 v419).bind fun o432=>match o432 with
     | .norm=>some (.ret 0)
     | .ret=>some (.ret 60)
    | .ret=>some (.ret 8)
 else
  some (.ret 8)
theorem f15n0_ok(a1:Qj){o:f15n0O}(h:f15n0 a1=some o):T Tryd.prog Tryd.f15.ntmps 0 c15 (f15n0S a1) (·=f15n0E a1 o):=by
 unfold f15n0 at h;obtain ⟨x7,h8,h⟩:=Qe h;rcases Qg h with ⟨h9,h⟩|⟨h9,h⟩
 ·rcases Qg h with ⟨h10,h⟩|⟨h10,h⟩
  ·obtain rfl:=Qd h;exact rK Qh 2 [j3,(jF [7,8,9]++jT [12,13,14],[jH 4 (jB x7),(10,.bool false),(15,.bool true)],[]),j3] [none] [] [] [2] .ret ((f15n0E a1 (.ret 8)).2) (ap4 (Qm h9) (ap4 h10 (ap (f39_ok a1.From a1.To h8) an))) rfl
  ·rcases Qg h with ⟨h11,h⟩|⟨h11,h⟩
   ·obtain rfl:=Qd h;exact rK Qh 2 [j3,(jF [7,8,9,12,13,14],[jH 4 (jB x7),(10,.bool false),(15,.bool false)],[]),j3] [some true] [] [] [2] .ret ((f15n0E a1 (.ret 8)).2) (ap4 (Qm h9) (ap4 h10 (ap (f39_ok a1.From a1.To h8) (ap h11 an)))) rfl
   ·refine rN Qh 4 [j3,(jF [7,8,9,12,13,14],[jH 4 (jB x7),(10,.bool false),(15,.bool false)],[]),j3,j3] [some false] [] [0,1] [1,3,4,5] (f15n1S a1) (ap4 (Qm h9) (ap4 h10 (ap (f39_ok a1.From a1.To h8) (ap h11 an)))) ?_;obtain ⟨o417,h418,h⟩:=Qe h;cases o417 with
    | norm v419 =>
     refine T.oneN (by kernel_rfl) (f15n1_ok a1 h418) (st2:=(f15n1E a1 (.norm v419)).2) rfl ?_;refine rN Qh 0 [] [] [] [0] [5] (f15n6S v419) an ?_;obtain ⟨o432,h433,h⟩:=Qe h;cases o432 with
     | norm =>
      refine T.oneN (by kernel_rfl) (f15n6_ok v419 h433) (st2:=(f15n6E v419 .norm).2) rfl ?_;obtain rfl:=Qd h;exact rE Qh [j3] [] [] [] [2] (.ret,(f15n0E a1 (.ret 0)).2) an rfl
     | ret =>
      obtain rfl:=Qd h;exact T.oneX' (by kernel_rfl) (f15n6_ok v419 h433) (tds:=[]) (m:=[]) (keep:=[2]) (st2:=(f15n0E a1 (.ret 60)).2) (by kernel_rfl) an rfl rfl
    | ret =>
     obtain rfl:=Qd h;exact T.oneX' (by kernel_rfl) (f15n1_ok a1 h418) (tds:=[]) (m:=[]) (keep:=[2]) (st2:=(f15n0E a1 (.ret 8)).2) (by kernel_rfl) an rfl rfl
 ·obtain rfl:=Qd h;exact rK Qh 2 [j3,(jT [7,8,9],[jH 4 (jB x7),(10,.bool true)],[]),j3] [none] [] [] [2] .ret ((f15n0E a1 (.ret 8)).2) (ap4 (Qx h9) (ap (f39_ok a1.From a1.To h8) an)) rfl
noncomputable def f15(a1:Qj):Option Int:=(f15n0 a1).bind fun o=>match o with
 | .ret v434=>some v434
theorem f15_ok(a1:Qj){r:Int}(h:f15 a1=some r):Qo Tryd.prog false 15 [(jA Qj.cells a1)] [] (jI r) []:=by
 unfold f15 at h;obtain ⟨o,ho,h⟩:=Qe h;cases o with
 | ret v434 =>
  obtain rfl:=Qd h;exact Qo.plain Qh (f:=Tryd.f15) (c:=c15) (by kernel_rfl) (by kernel_rfl) (by kernel_rfl) (by kernel_rfl) ((f15n0_ok a1 ho).mono fun r e=>by subst e; exact ⟨.inl rfl,(jI v434),(jI v434),by kernel_rfl,by kernel_rfl,((Wk.refl _):Wk (jI v434) (jI v434))⟩)

def ita31(n:Int):Option ByteArray:=bif decide (-9223372036854775808≤n)&&decide (n≤9223372036854775807) then some (itoaB n) else none
theorem ita31_ok(n:Int){r:ByteArray}(h:ita31 n=some r):Qo Tryd.prog false 31 [.pl (.int .i64 n)] [] (.pl (.str r)) []:=by
 unfold ita31 at h;cases hc:(decide (-9223372036854775808≤n)&&decide (n≤9223372036854775807)) with
 | false=>rw [hc] at h; cases h
 | true =>
  rw [hc] at h;simp only [cond_true,Option.some.injEq] at h;rw [Bool.and_eq_true] at hc;subst h;exact itoa_call (of_decide_eq_true hc.1) (of_decide_eq_true hc.2)


def wr57(p1:Int):Option ByteArray:=bif decide (0<p1)&&decide (p1≤281474976710656) then some ⟨#[]⟩ else none
theorem wr57_ok(p1:Int){r:ByteArray}(h:wr57 p1=some r):Qo Tryd.prog true 57 [.bp 0 0,.pl (.int .i64 p1)] [some bxN] (.tup []) [some (bxU 1),some (.brow 5 r)]:=by
 unfold wr57 at h;cases hc:(decide (0<p1)&&decide (p1≤281474976710656)) with
 | false=>rw [hc] at h; cases h
 | true =>
  rw [hc] at h;simp only [cond_true,Option.some.injEq] at h;rw [Bool.and_eq_true] at hc;subst h;exact ws_grow (of_decide_eq_true hc.1) (of_decide_eq_true hc.2)


def wm32(p1 p2:ByteArray):Option ByteArray:=bif decide (p1.size+p2.size≤140737488355328) then some (scat p1 p2) else none
theorem wm32_ok(p1 p2:ByteArray){r:ByteArray}(h:wm32 p1 p2=some r):Qo Tryd.prog true 32 [.bp 0 0,.pl (.str p2)] [some (bxU 1),some (.brow 5 p1)] (.tup [.pl (.int .i64 (p2.size:Int)),.pl .nili]) [some (bxU 2),none,some (.brow 5 r)]:=by
 unfold wm32 at h;cases hc:(decide (p1.size+p2.size≤140737488355328)) with
 | false=>rw [hc] at h; cases h
 | true =>
  rw [hc] at h;simp only [cond_true,Option.some.injEq] at h;subst h;exact ws_more (of_decide_eq_true hc)


def wg34(p1:ByteArray):Option ByteArray:=bif decide (0<p1.size) then some p1 else none
theorem wg34_ok(p1:ByteArray){r:ByteArray}(h:wg34 p1=some r):Qo Tryd.prog true 34 [.bp 0 0] [some (bxU 1),some (.brow 5 p1)] (.pl (.str r)) [some (bxU 1),none]:=by
 unfold wg34 at h;cases hc:(decide (0<p1.size)) with
 | false=>rw [hc] at h; cases h
 | true =>
  rw [hc] at h;simp only [cond_true,Option.some.injEq] at h;subst h;exact ws_str (of_decide_eq_true hc)


noncomputable def c33:Code:=Tryd.f33.body.getD .skip
inductive f33n1O where
 | norm (v20:Int)
def f33n1E(bh1:List ByteArray)(bb2:ByteArray):f33n1O→Ex×Tr×Hp
 | .norm v20=>(.norm,mkS [(0,(jL 1 cStr bh1)),(1,(jS bb2)),(5,(jI v20))],[])
def f33n1S(bh1:List ByteArray)(bb2:ByteArray):Tr×Hp:=(mkS [(0,(jL 1 cStr bh1)),(1,(jS bb2)),(5,(jI 0))],[])
noncomputable def f33n1(bh1:List ByteArray)(bb2:ByteArray):Option f33n1O :=
 bif decide (0<(bb2.size:Int)) then
  req (!(decide ((wr64 ((bh1.length:Int)-1))=0))) <|
  bif (decide ((wr64 (Int.tdiv 9223372036854775807 (wr64 ((bh1.length:Int)-1))))≤(bb2.size:Int))) then
   none
  else
   some (.norm (wr64 (0+(wr64 ((bb2.size:Int)*(wr64 ((bh1.length:Int)-1)))))))
 else
  some (.norm 0)
theorem f33n1_ok(bh1:List ByteArray)(bb2:ByteArray){o:f33n1O}(h:f33n1 bh1 bb2=some o):T Tryd.prog Tryd.f33.ntmps 0 (cL (Qn 3 c33)) (f33n1S bh1 bb2) (·=f33n1E bh1 bb2 o):=by
 unfold f33n1 at h;rcases Qg h with ⟨h17,h⟩|⟨h17,h⟩
 ·obtain ⟨h18,h⟩:=Qah h;rcases Qg h with ⟨h19,h⟩|⟨h19,h⟩
  ·cases h
  ·obtain rfl:=Qd h;exact rE Qh [j3,([],[(5,.nz)],[(3,.val (jI (bh1.length:Int)))]),([],[],[(4,.val (jI (bh1.length:Int)))])] [some true,some false] [] [] [0,1,5] (.norm,(f33n1E bh1 bb2 (.norm (wr64 (0+(wr64 ((bb2.size:Int)*(wr64 ((bh1.length:Int)-1)))))))).2) (ap h17 (ap (Qu (xs:=bh1) (c:=cStr)) (ap (ne_of h18) (ap h19 (ap (Qu (xs:=bh1) (c:=cStr)) an))))) rfl
 ·obtain rfl:=Qd h;exact rE Qh [j3] [some false] [] [] [0,1,5] (.norm,(f33n1E bh1 bb2 (.norm 0)).2) (ap h17 an) rfl
inductive f33n3O where
 | exit1 (v52:Int)
def f33n3E(bh1:List ByteArray)(bb2:ByteArray):f33n3O→Ex×Tr×Hp
 | .exit1 v52=>((.exit 1),mkS [(0,(jL 1 cStr bh1)),(1,(jS bb2)),(5,(jI v52))],[])
def f33n3S(bh1:List ByteArray)(bb2:ByteArray)(v42 v43:Int):Tr×Hp:=(mkS [(0,(jL 1 cStr bh1)),(1,(jS bb2)),(5,(jI v42)),(39,(jL 1 cStr bh1)),(40,(jI (bh1.length:Int))),(41,(jI v43))],[])
noncomputable def f33n3:Nat→List ByteArray→ByteArray→Int→Int→Option f33n3O
 | 0,_,_,_,_=>none
 | f+1,bh1,bb2,v42,v43 =>
  bif decide (v43<(bh1.length:Int)) then
   (at? bh1 v43).bind fun x49 =>
   bif (decide ((wr64 (9223372036854775807-v42))<(x49.size:Int))) then
    none
   else
    (f33n3 f bh1 bb2 (wr64 (v42+(x49.size:Int))) (wr64 (v43+1)))
  else
   some (.exit1 v42)
theorem f33n3_ok:∀(f:Nat)(bh1:List ByteArray)(bb2:ByteArray)(v42 v43:Int){o:f33n3O},f33n3 f bh1 bb2 v42 v43=some o→TL Tryd.prog Tryd.f33.ntmps 0 f (cL (cL (Qn 1 (cL (Qn 0 (Qn 1 (Qn 3 c33))))))) (f33n3S bh1 bb2 v42 v43) (·=f33n3E bh1 bb2 o)
 | 0,_,_,_,_,o,h=>by rw [f33n3] at h; cases h
 | f+1,bh1,bb2,v42,v43,o,h=>by
  rw [f33n3] at h;refine TL.body (K:=fun s=>∃v42:Int,∃v43:Int,s=(f33n3S bh1 bb2 v42 v43)∧f33n3 f bh1 bb2 v42 v43=some o) ?_ (by rintro _ ⟨v42,v43,rfl,hk⟩; exact f33n3_ok f _ _ _ _ hk);rcases Qg h with ⟨h45,h⟩|⟨h45,h⟩
  ·obtain ⟨x49,h50,h⟩:=Qe h;rcases Qg h with ⟨h51,h⟩|⟨h51,h⟩
   ·cases h
   ·exact rE Qh [j3,([],[(0,.idx (Int.toNat v43) (cStr x49))],[]),j3,j3,j3] [some true,some false] [] [] [0,1,5,39,40,41] (.norm,(f33n3S bh1 bb2 (wr64 (v42+(x49.size:Int))) (wr64 (v43+1)))) (ap h45 (ap (Qk h50).1 (ap (Qt cStr (Qk h50).2) (ap h51 an)))) (Qv.norm ⟨(wr64 (v42+(x49.size:Int))),(wr64 (v43+1)),rfl,h⟩)
  ·obtain rfl:=Qd h;exact rK Qh 2 [j3] [some false] [] [] [0,1,5] (.exit 1) ((f33n3E bh1 bb2 (.exit1 v42)).2) (ap h45 an) (Qv.out rfl rfl)
inductive f33n2O where
 | norm (v56:Int)
def f33n2E(bh1:List ByteArray)(bb2:ByteArray)(bd3:Int):f33n2O→Ex×Tr×Hp
 | .norm v56=>(.norm,mkS [(0,(jL 1 cStr bh1)),(1,(jS bb2)),(5,(jI v56))],[])
def f33n2S(bh1:List ByteArray)(bb2:ByteArray)(bd3:Int):Tr×Hp:=(mkS [(0,(jL 1 cStr bh1)),(1,(jS bb2)),(5,(jI bd3))],[])
noncomputable def f33n2(bh1:List ByteArray)(bb2:ByteArray)(bd3:Int):Option f33n2O :=
 (f33n3 FUEL bh1 bb2 bd3 0).bind fun o53=>match o53 with
 | .exit1 v55=>some (.norm v55)
theorem f33n2_ok(bh1:List ByteArray)(bb2:ByteArray)(bd3:Int){o:f33n2O}(h:f33n2 bh1 bb2 bd3=some o):T Tryd.prog Tryd.f33.ntmps 0 (cL (Qn 0 (Qn 1 (Qn 3 c33)))) (f33n2S bh1 bb2 bd3) (·=f33n2E bh1 bb2 bd3 o):=by
 unfold f33n2 at h;refine rN Qh 1 [([],[],[(1,.val (jI (bh1.length:Int)))])] [] [] [] [0,1,5,39,40,41] (f33n3S bh1 bb2 bd3 0) (ap (Qu (xs:=bh1) (c:=cStr)) an) ?_;obtain ⟨o53,h54,h⟩:=Qe h;cases o53 with
 | exit1 v55 =>
  obtain rfl:=Qd h;exact T.last' (T.bl (i:=1) (by kernel_rfl) (by kernel_rfl) (f33n3_ok FUEL bh1 bb2 bd3 0 h54)) (tds:=[]) (m:=[]) (keep:=[0,1,5]) (st2:=(f33n2E bh1 bb2 bd3 (.norm v55)).2) (by kernel_rfl) an rfl
inductive f33n5O where
 | exit3 (v120:ByteArray)
def f33n5E(bb2:ByteArray)(bh1:List ByteArray):f33n5O→Ex×Tr×Hp
 | .exit3 v120=>((.exit 3),mkS [(8,(.bp 0 0))],[some (.box 71 [(.bp 0 0),(.own 1)]),some (.brow 5 v120)])
def f33n5S(bb2:ByteArray)(bh1:List ByteArray)(v104:Int)(v105:ByteArray):Tr×Hp:=(mkS [(1,(jS bb2)),(8,(.bp 0 0)),(63,(.pl (.sl .any 1 ((bh1.drop (Int.toNat 1)).map cStr)))),(64,(jI ((bh1.drop (Int.toNat 1)).length:Int))),(65,(jI v104))],[some (.box 71 [(.bp 0 0),(.own 1)]),some (.brow 5 v105)])
noncomputable def f33n5:Nat→ByteArray→List ByteArray→Int→ByteArray→Option f33n5O
 | 0,_,_,_,_=>none
 | f+1,bb2,bh1,v104,v105 =>
  bif (decide (v104<((bh1.drop (Int.toNat 1)).length:Int))) then
   (at? (bh1.drop (Int.toNat 1)) v104).bind fun x114 =>
   (wm32 v105 bb2).bind fun x116 =>
   (wm32 x116 x114).bind fun x118 =>
   (f33n5 f bb2 bh1 (wr64 (v104+1)) x118)
  else
   some (.exit3 v105)
theorem f33n5_ok:∀(f:Nat)(bb2:ByteArray)(bh1:List ByteArray)(v104:Int)(v105:ByteArray){o:f33n5O},f33n5 f bb2 bh1 v104 v105=some o→TL Tryd.prog Tryd.f33.ntmps 0 f (cL (cL (Qn 1 (cL (Qn 3 (Qn 1 (Qn 0 (Qn 1 (Qn 3 c33))))))))) (f33n5S bb2 bh1 v104 v105) (·=f33n5E bb2 bh1 o)
 | 0,_,_,_,_,o,h=>by rw [f33n5] at h; cases h
 | f+1,bb2,bh1,v104,v105,o,h=>by
  rw [f33n5] at h;refine TL.body (K:=fun s=>∃v104:Int,∃v105:ByteArray,s=(f33n5S bb2 bh1 v104 v105)∧f33n5 f bb2 bh1 v104 v105=some o) ?_ (by rintro _ ⟨v104,v105,rfl,hk⟩; exact f33n5_ok f _ _ _ _ hk);rcases Qg h with ⟨h107,h⟩|⟨h107,h⟩
  ·obtain ⟨x114,h115,h⟩:=Qe h;obtain ⟨x116,h117,h⟩:=Qe h;obtain ⟨x118,h119,h⟩:=Qe h;exact rE Qh [j3,([],[(0,.idx (Int.toNat v104) (cStr x114))],[]),([],[(1,.call (.tup [(jI ((bb2.size:Nat):Int)),(.pl .nili)]) [some (.box 71 [(.bp 0 0),(.own 2)]),none,some (.brow 5 x116)])],[]),([],[(1,.call (.tup [(jI ((x114.size:Nat):Int)),(.pl .nili)]) [some (.box 71 [(.bp 0 0),(.own 3)]),none,none,some (.brow 5 x118)])],[]),j3] [some true] [] [0,3] [1,8,63,64,65] (.norm,(f33n5S bb2 bh1 (wr64 (v104+1)) x118)) (ap h107 (ap (Qk h115).1 (ap (Qt cStr (Qk h115).2) (ap (wm32_ok v105 bb2 h117) (ap (Qo.rn 3 [0,2] (wm32_ok x116 x114 h119)) an))))) (Qv.norm ⟨(wr64 (v104+1)),x118,rfl,h⟩)
  ·obtain rfl:=Qd h;exact rK Qh 2 [j3] [some false] [] [0,1] [8] (.exit 3) ((f33n5E bb2 bh1 (.exit3 v105)).2) (ap h107 an) (Qv.out rfl rfl)
inductive f33n4O where
 | norm (v124:ByteArray)
def f33n4E(bh1:List ByteArray)(bb2 bb3:ByteArray):f33n4O→Ex×Tr×Hp
 | .norm v124=>(.norm,mkS [(8,(.bp 0 0))],[some (.box 71 [(.bp 0 0),(.own 1)]),some (.brow 5 v124)])
def f33n4S(bh1:List ByteArray)(bb2 bb3:ByteArray):Tr×Hp:=(mkS [(0,(jL 1 cStr bh1)),(1,(jS bb2)),(8,(.bp 0 0))],[some (.box 71 [(.bp 0 0),(.own 1)]),some (.brow 5 bb3)])
noncomputable def f33n4(bh1:List ByteArray)(bb2 bb3:ByteArray):Option f33n4O :=
 req (cutB 1 (bh1.length:Int) bh1.length) <|
 (f33n5 FUEL bb2 bh1 0 bb3).bind fun o121=>match o121 with
 | .exit3 v123=>some (.norm v123)
theorem f33n4_ok(bh1:List ByteArray)(bb2 bb3:ByteArray){o:f33n4O}(h:f33n4 bh1 bb2 bb3=some o):T Tryd.prog Tryd.f33.ntmps 0 (cL (Qn 3 (Qn 1 (Qn 0 (Qn 1 (Qn 3 c33)))))) (f33n4S bh1 bb2 bb3) (·=f33n4E bh1 bb2 bb3 o):=by
 unfold f33n4 at h;obtain ⟨h73,h⟩:=Qah h;refine rN Qh 1 [([],[(1,.cut (Int.toNat 1) bh1.length)],[(1,.val (.pl (.sl .any 1 ((bh1.drop (Int.toNat 1)).map cStr)))),(2,.val (jI ((bh1.drop (Int.toNat 1)).length:Int)))])] [] [] [0,1] [1,8,63,64,65] (f33n5S bb2 bh1 0 bb3) (ap (cut_nl_1_map (c:=cStr) h73) (ap (cut_nl_2 h73) (ap (cut_nl_3 h73) (ap (cut_nl_4_map (c:=cStr) h73) (ap (congrArg (fun l=>AV.pl (.sl .any 1 l)) (drop_cv (xs:=bh1) (c:=cStr) (m:=(Int.toNat 1)))) (ap (Qu (xs:=(bh1.drop (Int.toNat 1))) (c:=cStr)) an)))))) ?_;obtain ⟨o121,h122,h⟩:=Qe h;cases o121 with
 | exit3 v123 =>
  obtain rfl:=Qd h;exact T.last' (T.bl (i:=3) (by kernel_rfl) (by kernel_rfl) (f33n5_ok FUEL bb2 bh1 0 bb3 h122)) (tds:=[]) (m:=[0,1]) (keep:=[8]) (st2:=(f33n4E bh1 bb2 bb3 (.norm v123)).2) (by kernel_rfl) an rfl
inductive f33n0O where
 | ret (v132:ByteArray)
def f33n0E(a1:List ByteArray)(a2:ByteArray):f33n0O→Ex×Tr×Hp
 | .ret v132=>(.ret,mkS [(4,(jS v132))],[])
def f33n0S(a1:List ByteArray)(a2:ByteArray):Tr×Hp:=(Qae [(jL 1 cStr a1),(jS a2)] 0 .leaf,[])
noncomputable def f33n0(a1:List ByteArray)(a2:ByteArray):Option f33n0O :=
 bif decide ((a1.length:Int)=0) then
  some (.ret Qs)
 else
  bif decide ((a1.length:Int)=1) then
   (at? a1 0).bind fun x9 =>
   some (.ret x9)
  else
   (f33n1 a1 a2).bind fun o21=>match o21 with
   | .norm v23=>(f33n2 a1 a2 v23).bind fun o57=>match o57 with
    | .norm v59=>(wr57 v59).bind fun x62 =>
     (at? a1 0).bind fun x68 =>
     (wm32 x62 x68).bind fun x70 =>
     (f33n4 a1 a2 x70).bind fun o125=>match o125 with
     | .norm v127=>(wg34 v127).bind fun x130 =>
      some (.ret x130)
theorem f33n0_ok(a1:List ByteArray)(a2:ByteArray){o:f33n0O}(h:f33n0 a1 a2=some o):T Tryd.prog Tryd.f33.ntmps 0 c33 (f33n0S a1 a2) (·=f33n0E a1 a2 o):=by
 unfold f33n0 at h;rcases Qg h with ⟨h7,h⟩|⟨h7,h⟩
 ·obtain rfl:=Qd h;exact rK Qh 2 [j3,([],[],[(1,.val (jI (a1.length:Int)))]),j3,j3] [some true] [] [] [4] .ret ((f33n0E a1 a2 (.ret Qs)).2) (ap (Qu (xs:=a1) (c:=cStr)) (ap h7 an)) rfl
 ·rcases Qg h with ⟨h8,h⟩|⟨h8,h⟩
  ·obtain ⟨x9,h10,h⟩:=Qe h;obtain rfl:=Qd h;exact rK Qh 2 [j3,([],[],[(1,.val (jI (a1.length:Int)))]),j3,j3,([],[(1,.idx (Int.toNat 0) (cStr x9))],[])] [some false,some true] [] [] [4] .ret ((f33n0E a1 a2 (.ret x9)).2) (ap (Qu (xs:=a1) (c:=cStr)) (ap h7 (ap h8 (ap (Qk h10).1 (ap (Qt cStr (Qk h10).2) an))))) rfl
  ·refine rN Qh 3 [j3,([],[],[(1,.val (jI (a1.length:Int)))]),j3,j3,j3] [some false,some false] [] [] [0,1,5] (f33n1S a1 a2) (ap (Qu (xs:=a1) (c:=cStr)) (ap h7 (ap h8 an))) ?_;obtain ⟨o21,h22,h⟩:=Qe h;cases o21 with
   | norm v23 =>
    refine T.oneN (by kernel_rfl) (f33n1_ok a1 a2 h22) (st2:=(f33n1E a1 a2 (.norm v23)).2) rfl ?_;refine rN Qh 0 [] [] [] [] [0,1,5] (f33n2S a1 a2 v23) an ?_;obtain ⟨o57,h58,h⟩:=Qe h;cases o57 with
    | norm v59 =>
     refine T.oneN (by kernel_rfl) (f33n2_ok a1 a2 v23 h58) (st2:=(f33n2E a1 a2 v23 (.norm v59)).2) rfl ?_;obtain ⟨x62,h63,h⟩:=Qe h;obtain ⟨x68,h69,h⟩:=Qe h;obtain ⟨x70,h71,h⟩:=Qe h;refine rN Qh 3 [j3,([],[(1,.call (.tup []) [some (.box 71 [(.bp 0 0),(.own 1)]),some (.brow 5 x62)])],[]),([],[(1,.idx (Int.toNat 0) (cStr x68)),(3,.call (.tup [(jI ((x68.size:Nat):Int)),(.pl .nili)]) [some (.box 71 [(.bp 0 0),(.own 2)]),none,some (.brow 5 x70)])],[])] [] [] [0,2] [0,1,8] (f33n4S a1 a2 x70) (ap (wr57_ok v59 h63) (ap (Qk h69).1 (ap (Qt cStr (Qk h69).2) (ap (wm32_ok x62 x68 h71) an)))) ?_;obtain ⟨o125,h126,h⟩:=Qe h;cases o125 with
     | norm v127 =>
      refine T.oneN (by kernel_rfl) (f33n4_ok a1 a2 x70 h126) (st2:=(f33n4E a1 a2 x70 (.norm v127)).2) rfl ?_;obtain ⟨x130,h131,h⟩:=Qe h;obtain rfl:=Qd h;exact rE Qh [([],[(0,.call (jS x130) [some (.box 71 [(.bp 0 0),(.own 1)]),none])],[])] [] [] [] [4] (.ret,(f33n0E a1 a2 (.ret x130)).2) (ap (wg34_ok v127 h131) an) rfl
noncomputable def f33(a1:List ByteArray)(a2:ByteArray):Option ByteArray:=(f33n0 a1 a2).bind fun o=>match o with
 | .ret v132=>some v132
theorem f33_ok(a1:List ByteArray)(a2:ByteArray){r:ByteArray}(h:f33 a1 a2=some r):Qo Tryd.prog false 33 [(jL 1 cStr a1),(jS a2)] [] (jS r) []:=by
 unfold f33 at h;obtain ⟨o,ho,h⟩:=Qe h;cases o with
 | ret v132 =>
  obtain rfl:=Qd h;exact Qo.plain Qh (f:=Tryd.f33) (c:=c33) (by kernel_rfl) (by kernel_rfl) (by kernel_rfl) (by kernel_rfl) ((f33n0_ok a1 a2 ho).mono fun r e=>by subst e; exact ⟨.inl rfl,(jS v132),(jS v132),by kernel_rfl,by kernel_rfl,((Wk.refl _):Wk (jS v132) (jS v132))⟩)

def wn32(p1:ByteArray):Option ByteArray:=bif decide (0<p1.size)&&decide (p1.size≤140737488355328) then some p1 else none
theorem wn32_ok(p1:ByteArray){r:ByteArray}(h:wn32 p1=some r):Qo Tryd.prog true 32 [.bp 0 0,.pl (.str p1)] [some bxN] (.tup [.pl (.int .i64 (p1.size:Int)),.pl .nili]) [some (bxU 1),some (.brow 5 r)]:=by
 unfold wn32 at h;cases hc:(decide (0<p1.size)&&decide (p1.size≤140737488355328)) with
 | false=>rw [hc] at h; cases h
 | true =>
  rw [hc] at h;simp only [cond_true,Option.some.injEq] at h;rw [Bool.and_eq_true] at hc;subst h;exact ws_new (of_decide_eq_true hc.1) (of_decide_eq_true hc.2)


noncomputable def c30:Code:=Tryd.f30.body.getD .skip
inductive f30r1n2O where
 | exit0 (v43:List ByteArray)
def f30r1n2E(bf2:List Int):f30r1n2O→Ex×Tr×Hp
 | .exit0 v43=>((.exit 0),mkS [(0,(.own 3)),(2,(.bp 2 0))],[none,some (.row false 1 (bf2.map (cInt .i64))),some (.box 71 [(.pl .nilp),(.pl (.sl .nil 0 []))]),jR 1 cStr v43])
def f30r1n2S(bf2:List Int)(v29:Int)(v30:List ByteArray):Tr×Hp:=(mkS [(0,(.own 3)),(2,(.bp 2 0)),(7,(.own 1)),(8,(jI (bf2.length:Int))),(9,(jI v29))],[none,some (.row false 1 (bf2.map (cInt .i64))),some (.box 71 [(.pl .nilp),(.pl (.sl .nil 0 []))]),jR 1 cStr v30])
noncomputable def f30r1n2:Nat→List Int→Int→List ByteArray→Option f30r1n2O
 | 0,_,_,_=>none
 | f+1,bf2,v29,v30 =>
  bif decide (v29<(bf2.length:Int)) then
   (at? bf2 v29).bind fun x38 =>
   (ita31 x38).bind fun x40 =>
   req (fit (v30.length+1) 16) <|
   (f30r1n2 f bf2 (wr64 (v29+1)) (v30++[x40]))
  else
   some (.exit0 v30)
theorem f30r1n2_ok:∀(f:Nat)(bf2:List Int)(v29:Int)(v30:List ByteArray){o:f30r1n2O},f30r1n2 f bf2 v29 v30=some o→TL Tryd.prog Tryd.f30.ntmps 3 f (cL (cL (Qn 1 (cL (Qn 0 c30))))) (f30r1n2S bf2 v29 v30) (·=f30r1n2E bf2 o)
 | 0,_,_,_,o,h=>by rw [f30r1n2] at h; cases h
 | f+1,bf2,v29,v30,o,h=>by
  rw [f30r1n2] at h;refine TL.body (K:=fun s=>∃v29:Int,∃v30:List ByteArray,s=(f30r1n2S bf2 v29 v30)∧f30r1n2 f bf2 v29 v30=some o) ?_ (by rintro _ ⟨v29,v30,rfl,hk⟩; exact f30r1n2_ok f _ _ _ hk);rcases Qg h with ⟨h32,h⟩|⟨h32,h⟩
  ·obtain ⟨x38,h39,h⟩:=Qe h;obtain ⟨x40,h41,h⟩:=Qe h;obtain ⟨h42,h⟩:=Qah h;exact rE Qh [j3,([],[(0,.at_ (Int.toNat v29)),(1,.idx 0 ((cInt .i64) x38))],[]),([],[jH 2 (jS x40),(4,.fits)],[(4,.row 5 ((v30++[x40]).map cStr))]),j3] [some true] [] [5] [0,2,7,8,9] (.norm,(f30r1n2S bf2 (wr64 (v29+1)) (v30++[x40]))) (ap h32 (ap (Qk h39).1 (ap (Qau (cInt .i64) (Qk h39).2) (ap (Qt (cInt .i64) (Qk h39).2) (ap (fit_map (te:=ti9) (xs:=v30) (n:=1) (c:=cStr) h42 rfl) (ap (app_cv (xs:=v30) (ys:=[x40]) (c:=cStr)) (ap (ita31_ok x38 h41) an))))))) (Qv.norm ⟨(wr64 (v29+1)),(v30++[x40]),rfl,h⟩)
  ·obtain rfl:=Qd h;exact rK Qh 2 [j3] [some false] [] [3] [0,2] (.exit 0) ((f30r1n2E bf2 (.exit0 v30)).2) (ap h32 an) (Qv.out rfl rfl)
inductive f30r1n1O where
 | norm (v47:List ByteArray)
def f30r1n1E(bh1:List ByteArray)(bf2:List Int):f30r1n1O→Ex×Tr×Hp
 | .norm v47=>(.norm,mkS [(0,(.own 3)),(2,(.bp 2 0))],[none,some (.row false 1 (bf2.map (cInt .i64))),some (.box 71 [(.pl .nilp),(.pl (.sl .nil 0 []))]),jR 1 cStr v47])
def f30r1n1S(bh1:List ByteArray)(bf2:List Int):Tr×Hp:=(mkS [(0,(.own 0)),(1,(.own 1)),(2,(.bp 2 0))],[jR 1 cStr bh1,some (.row false 1 (bf2.map (cInt .i64))),some (.box 71 [(.pl .nilp),(.pl (.sl .nil 0 []))])])
noncomputable def f30r1n1(bh1:List ByteArray)(bf2:List Int):Option f30r1n1O :=
 (f30r1n2 FUEL bf2 0 bh1).bind fun o44=>match o44 with
 | .exit0 v46=>some (.norm v46)
theorem f30r1n1_ok(bh1:List ByteArray)(bf2:List Int){o:f30r1n1O}(h:f30r1n1 bh1 bf2=some o):T Tryd.prog Tryd.f30.ntmps 3 (cL (Qn 0 c30)) (f30r1n1S bh1 bf2) (·=f30r1n1E bh1 bf2 o):=by
 unfold f30r1n1 at h;refine rN Qh 1 [([],[],[(1,.val (jI (bf2.length:Int)))])] [] [.mov 0] [3] [0,2,7,8,9] (f30r1n2S bf2 0 bh1) (ap (Qu (xs:=bf2) (c:=(cInt .i64))) an) ?_;obtain ⟨o44,h45,h⟩:=Qe h;cases o44 with
 | exit0 v46 =>
  obtain rfl:=Qd h;exact T.last' (T.bl (i:=0) (by kernel_rfl) (by kernel_rfl) (f30r1n2_ok FUEL bf2 0 bh1 h45)) (tds:=[]) (m:=[3]) (keep:=[0,2]) (st2:=(f30r1n1E bh1 bf2 (.norm v46)).2) (by kernel_rfl) an rfl
inductive f30r1n0O where
 | norm (v61:ByteArray)
def f30r1n0E(a1:List ByteArray)(a2:List Int):f30r1n0O→Ex×Tr×Hp
 | .norm v61=>(.norm,mkS [],[none,some (.row false 1 (a2.map (cInt .i64))),some (.box 71 [(.bp 2 0),(.own 3)]),some (.brow 5 v61)])
def f30r1n0S(a1:List ByteArray)(a2:List Int):Tr×Hp:=(Qae [(.own 0),(.own 1),(.bp 2 0)] 0 .leaf,[jR 1 cStr a1,some (.row false 1 (a2.map (cInt .i64))),some (.box 71 [(.pl .nilp),(.pl (.sl .nil 0 []))])])
noncomputable def f30r1n0(a1:List ByteArray)(a2:List Int):Option f30r1n0O :=
 (f30r1n1 a1 a2).bind fun o48=>match o48 with
 | .norm v50=>(f33 v50 str_x20).bind fun x56 =>
  req (decide (x56.size+str_x0a.size≤9223372036854775807)) <|
  (wn32 (scat x56 str_x0a)).bind fun x59 =>
  some (.norm x59)
theorem f30r1n0_ok(a1:List ByteArray)(a2:List Int){o:f30r1n0O}(h:f30r1n0 a1 a2=some o):T Tryd.prog Tryd.f30.ntmps 3 c30 (f30r1n0S a1 a2) (·=f30r1n0E a1 a2 o):=by
 unfold f30r1n0 at h;refine rN Qh 0 [] [] [] [] [0,1,2] (f30r1n1S a1 a2) an ?_;obtain ⟨o48,h49,h⟩:=Qe h;cases o48 with
 | norm v50 =>
  refine T.oneN (by kernel_rfl) (f30r1n1_ok a1 a2 h49) (st2:=(f30r1n1E a1 a2 (.norm v50)).2) rfl ?_;obtain ⟨x56,h57,h⟩:=Qe h;obtain ⟨h58,h⟩:=Qah h;obtain ⟨x59,h60,h⟩:=Qe h;obtain rfl:=Qd h;exact rE Qh [([],[jH 1 (jS x56),(2,.fits),(3,.call (.tup [(jI (((scat x56 str_x0a).size:Nat):Int)),(.pl .nili)]) [none,none,some (.box 71 [(.bp 2 0),(.own 4)]),none,some (.brow 5 x59)])],[])] [] [] [4] [] (.norm,(f30r1n0E a1 a2 (.norm x59)).2) (ap (of_decide_eq_true h58) (ap (f33_ok v50 str_x20 h57) (ap (Qo.rn 4 [2] (wn32_ok (scat x56 str_x0a) h60)) an))) rfl
noncomputable def f30r1(a1:List ByteArray)(a2:List Int):Option ByteArray:=(f30r1n0 a1 a2).bind fun o=>match o with
 | .norm v61=>some v61
theorem f30r1_ok(a1:List ByteArray)(a2:List Int){r:ByteArray}(h:f30r1 a1 a2=some r):Qo Tryd.prog true 30 [(.own 0),(.own 1),(.bp 2 0)] [jR 1 cStr a1,some (.row false 1 (a2.map (cInt .i64))),some (.box 71 [(.pl .nilp),(.pl (.sl .nil 0 []))])] (.tup []) [none,some (.row false 1 (a2.map (cInt .i64))),some (.box 71 [(.bp 2 0),(.own 3)]),some (.brow 5 r)]:=by
 unfold f30r1 at h;obtain ⟨o,ho,h⟩:=Qe h;cases o with
 | norm v61 =>
  obtain rfl:=Qd h;exact Qo.shared Qh (f:=Tryd.f30) (c:=c30) (by kernel_rfl) (by kernel_rfl) (by kernel_rfl) ((f30r1n0_ok a1 a2 ho).mono fun r e=>by subst e; exact ⟨.inr rfl,by kernel_rfl,by kernel_rfl⟩)
end Go.Proofs.YtfeklaffeigilaaDoor
namespace Go.Proofs.YtfeklaffeigilaaDoor
set_option linter.unusedVariables false
set_option linter.unusedSimpArgs false
set_option maxRecDepth 100000
open Go.RowKit
inductive f30r2n2O where
 | exit0 (v44:List ByteArray)
def f30r2n2E(bf2:List Int)(bb3:ByteArray):f30r2n2O→Ex×Tr×Hp
 | .exit0 v44=>((.exit 0),mkS [(0,(.own 4)),(2,(.bp 2 0))],[none,some (.row false 1 (bf2.map (cInt .i64))),some (.box 71 [(.bp 2 0),(.own 3)]),some (.brow 5 bb3),jR 1 cStr v44])
def f30r2n2S(bf2:List Int)(bb3:ByteArray)(v30:Int)(v31:List ByteArray):Tr×Hp:=(mkS [(0,(.own 4)),(2,(.bp 2 0)),(7,(.own 1)),(8,(jI (bf2.length:Int))),(9,(jI v30))],[none,some (.row false 1 (bf2.map (cInt .i64))),some (.box 71 [(.bp 2 0),(.own 3)]),some (.brow 5 bb3),jR 1 cStr v31])
noncomputable def f30r2n2:Nat→List Int→ByteArray→Int→List ByteArray→Option f30r2n2O
 | 0,_,_,_,_=>none
 | f+1,bf2,bb3,v30,v31 =>
  bif decide (v30<(bf2.length:Int)) then
   (at? bf2 v30).bind fun x39 =>
   (ita31 x39).bind fun x41 =>
   req (fit (v31.length+1) 16) <|
   (f30r2n2 f bf2 bb3 (wr64 (v30+1)) (v31++[x41]))
  else
   some (.exit0 v31)
theorem f30r2n2_ok:∀(f:Nat)(bf2:List Int)(bb3:ByteArray)(v30:Int)(v31:List ByteArray){o:f30r2n2O},f30r2n2 f bf2 bb3 v30 v31=some o→TL Tryd.prog Tryd.f30.ntmps 4 f (cL (cL (Qn 1 (cL (Qn 0 c30))))) (f30r2n2S bf2 bb3 v30 v31) (·=f30r2n2E bf2 bb3 o)
 | 0,_,_,_,_,o,h=>by rw [f30r2n2] at h; cases h
 | f+1,bf2,bb3,v30,v31,o,h=>by
  rw [f30r2n2] at h;refine TL.body (K:=fun s=>∃v30:Int,∃v31:List ByteArray,s=(f30r2n2S bf2 bb3 v30 v31)∧f30r2n2 f bf2 bb3 v30 v31=some o) ?_ (by rintro _ ⟨v30,v31,rfl,hk⟩; exact f30r2n2_ok f _ _ _ _ hk);rcases Qg h with ⟨h33,h⟩|⟨h33,h⟩
  ·obtain ⟨x39,h40,h⟩:=Qe h;obtain ⟨x41,h42,h⟩:=Qe h;obtain ⟨h43,h⟩:=Qah h;exact rE Qh [j3,([],[(0,.at_ (Int.toNat v30)),(1,.idx 0 ((cInt .i64) x39))],[]),([],[jH 2 (jS x41),(4,.fits)],[(4,.row 6 ((v31++[x41]).map cStr))]),j3] [some true] [] [6] [0,2,7,8,9] (.norm,(f30r2n2S bf2 bb3 (wr64 (v30+1)) (v31++[x41]))) (ap h33 (ap (Qk h40).1 (ap (Qau (cInt .i64) (Qk h40).2) (ap (Qt (cInt .i64) (Qk h40).2) (ap (fit_map (te:=ti9) (xs:=v31) (n:=1) (c:=cStr) h43 rfl) (ap (app_cv (xs:=v31) (ys:=[x41]) (c:=cStr)) (ap (ita31_ok x39 h42) an))))))) (Qv.norm ⟨(wr64 (v30+1)),(v31++[x41]),rfl,h⟩)
  ·obtain rfl:=Qd h;exact rK Qh 2 [j3] [some false] [] [4] [0,2] (.exit 0) ((f30r2n2E bf2 bb3 (.exit0 v31)).2) (ap h33 an) (Qv.out rfl rfl)
inductive f30r2n1O where
 | norm (v48:List ByteArray)
def f30r2n1E(bh1:List ByteArray)(bf2:List Int)(bb3:ByteArray):f30r2n1O→Ex×Tr×Hp
 | .norm v48=>(.norm,mkS [(0,(.own 4)),(2,(.bp 2 0))],[none,some (.row false 1 (bf2.map (cInt .i64))),some (.box 71 [(.bp 2 0),(.own 3)]),some (.brow 5 bb3),jR 1 cStr v48])
def f30r2n1S(bh1:List ByteArray)(bf2:List Int)(bb3:ByteArray):Tr×Hp:=(mkS [(0,(.own 0)),(1,(.own 1)),(2,(.bp 2 0))],[jR 1 cStr bh1,some (.row false 1 (bf2.map (cInt .i64))),some (.box 71 [(.bp 2 0),(.own 3)]),some (.brow 5 bb3)])
noncomputable def f30r2n1(bh1:List ByteArray)(bf2:List Int)(bb3:ByteArray):Option f30r2n1O :=
 (f30r2n2 FUEL bf2 bb3 0 bh1).bind fun o45=>match o45 with
 | .exit0 v47=>some (.norm v47)
theorem f30r2n1_ok(bh1:List ByteArray)(bf2:List Int)(bb3:ByteArray){o:f30r2n1O}(h:f30r2n1 bh1 bf2 bb3=some o):T Tryd.prog Tryd.f30.ntmps 4 (cL (Qn 0 c30)) (f30r2n1S bh1 bf2 bb3) (·=f30r2n1E bh1 bf2 bb3 o):=by
 unfold f30r2n1 at h;refine rN Qh 1 [([],[],[(1,.val (jI (bf2.length:Int)))])] [] [.mov 0] [4] [0,2,7,8,9] (f30r2n2S bf2 bb3 0 bh1) (ap (Qu (xs:=bf2) (c:=(cInt .i64))) an) ?_;obtain ⟨o45,h46,h⟩:=Qe h;cases o45 with
 | exit0 v47 =>
  obtain rfl:=Qd h;exact T.last' (T.bl (i:=0) (by kernel_rfl) (by kernel_rfl) (f30r2n2_ok FUEL bf2 bb3 0 bh1 h46)) (tds:=[]) (m:=[4]) (keep:=[0,2]) (st2:=(f30r2n1E bh1 bf2 bb3 (.norm v47)).2) (by kernel_rfl) an rfl
inductive f30r2n0O where
 | norm (v62:ByteArray)
def f30r2n0E(a1:List ByteArray)(a2:List Int)(a3:ByteArray):f30r2n0O→Ex×Tr×Hp
 | .norm v62=>(.norm,mkS [],[none,some (.row false 1 (a2.map (cInt .i64))),some (.box 71 [(.bp 2 0),(.own 4)]),none,some (.brow 5 v62)])
def f30r2n0S(a1:List ByteArray)(a2:List Int)(a3:ByteArray):Tr×Hp:=(Qae [(.own 0),(.own 1),(.bp 2 0)] 0 .leaf,[jR 1 cStr a1,some (.row false 1 (a2.map (cInt .i64))),some (.box 71 [(.bp 2 0),(.own 3)]),some (.brow 5 a3)])
noncomputable def f30r2n0(a1:List ByteArray)(a2:List Int)(a3:ByteArray):Option f30r2n0O :=
 (f30r2n1 a1 a2 a3).bind fun o49=>match o49 with
 | .norm v51=>(f33 v51 str_x20).bind fun x57 =>
  req (decide (x57.size+str_x0a.size≤9223372036854775807)) <|
  (wm32 a3 (scat x57 str_x0a)).bind fun x60 =>
  some (.norm x60)
theorem f30r2n0_ok(a1:List ByteArray)(a2:List Int)(a3:ByteArray){o:f30r2n0O}(h:f30r2n0 a1 a2 a3=some o):T Tryd.prog Tryd.f30.ntmps 4 c30 (f30r2n0S a1 a2 a3) (·=f30r2n0E a1 a2 a3 o):=by
 unfold f30r2n0 at h;refine rN Qh 0 [] [] [] [] [0,1,2] (f30r2n1S a1 a2 a3) an ?_;obtain ⟨o49,h50,h⟩:=Qe h;cases o49 with
 | norm v51 =>
  refine T.oneN (by kernel_rfl) (f30r2n1_ok a1 a2 a3 h50) (st2:=(f30r2n1E a1 a2 a3 (.norm v51)).2) rfl ?_;obtain ⟨x57,h58,h⟩:=Qe h;obtain ⟨h59,h⟩:=Qah h;obtain ⟨x60,h61,h⟩:=Qe h;obtain rfl:=Qd h;exact rE Qh [([],[jH 1 (jS x57),(2,.fits),(3,.call (.tup [(jI (((scat x57 str_x0a).size:Nat):Int)),(.pl .nili)]) [none,none,some (.box 71 [(.bp 2 0),(.own 5)]),none,none,some (.brow 5 x60)])],[])] [] [] [5] [] (.norm,(f30r2n0E a1 a2 a3 (.norm x60)).2) (ap (of_decide_eq_true h59) (ap (f33_ok v51 str_x20 h58) (ap (Qo.rn 5 [2,3] (wm32_ok a3 (scat x57 str_x0a) h61)) an))) rfl
noncomputable def f30r2(a1:List ByteArray)(a2:List Int)(a3:ByteArray):Option ByteArray:=(f30r2n0 a1 a2 a3).bind fun o=>match o with
 | .norm v62=>some v62
theorem f30r2_ok(a1:List ByteArray)(a2:List Int)(a3:ByteArray){r:ByteArray}(h:f30r2 a1 a2 a3=some r):Qo Tryd.prog true 30 [(.own 0),(.own 1),(.bp 2 0)] [jR 1 cStr a1,some (.row false 1 (a2.map (cInt .i64))),some (.box 71 [(.bp 2 0),(.own 3)]),some (.brow 5 a3)] (.tup []) [none,some (.row false 1 (a2.map (cInt .i64))),some (.box 71 [(.bp 2 0),(.own 4)]),none,some (.brow 5 r)]:=by
 unfold f30r2 at h;obtain ⟨o,ho,h⟩:=Qe h;cases o with
 | norm v62 =>
  obtain rfl:=Qd h;exact Qo.shared Qh (f:=Tryd.f30) (c:=c30) (by kernel_rfl) (by kernel_rfl) (by kernel_rfl) ((f30r2n0_ok a1 a2 a3 ho).mono fun r e=>by subst e; exact ⟨.inr rfl,by kernel_rfl,by kernel_rfl⟩)

noncomputable def c10:Code:=Tryd.f10.body.getD .skip
inductive f10n2O where
 | exit0 (v46:ByteArray)
def f10n2E(ba1:Qj):f10n2O→Ex×Tr×Hp
 | .exit0 v46=>((.exit 0),mkS [(5,(.bp 0 0))],[some (.box 71 [(.bp 0 0),(.own 1)]),some (.brow 5 v46)])
def f10n2S(ba1:Qj)(v34:Int)(v35:ByteArray):Tr×Hp:=(mkS [(5,(.bp 0 0)),(6,(.clo 30 [(.bp 0 0)])),(26,(jL 4 Qa.cells ba1.Rows)),(27,(jI (ba1.Rows.length:Int))),(28,(jI v34))],[some (.box 71 [(.bp 0 0),(.own 1)]),some (.brow 5 v35)])
noncomputable def f10n2:Nat→Qj→Int→ByteArray→Option f10n2O
 | 0,_,_,_=>none
 | f+1,ba1,v34,v35 =>
  bif decide (v34<(ba1.Rows.length:Int)) then
   (at? ba1.Rows v34).bind fun x42 =>
   (f30r2 [x42.Account,x42.Ccy] [x42.In,x42.Out,(wr64 (x42.In-x42.Out))] v35).bind fun x44 =>
   (f10n2 f ba1 (wr64 (v34+1)) x44)
  else
   some (.exit0 v35)
theorem f10n2_ok:∀(f:Nat)(ba1:Qj)(v34:Int)(v35:ByteArray){o:f10n2O},f10n2 f ba1 v34 v35=some o→TL Tryd.prog Tryd.f10.ntmps 0 f (cL (cL (Qn 1 (cL (Qn 5 c10))))) (f10n2S ba1 v34 v35) (·=f10n2E ba1 o)
 | 0,_,_,_,o,h=>by rw [f10n2] at h; cases h
 | f+1,ba1,v34,v35,o,h=>by
  rw [f10n2] at h;refine TL.body (K:=fun s=>∃v34:Int,∃v35:ByteArray,s=(f10n2S ba1 v34 v35)∧f10n2 f ba1 v34 v35=some o) ?_ (by rintro _ ⟨v34,v35,rfl,hk⟩; exact f10n2_ok f _ _ _ hk);rcases Qg h with ⟨h37,h⟩|⟨h37,h⟩
  ·obtain ⟨x42,h43,h⟩:=Qe h;obtain ⟨x44,h45,h⟩:=Qe h;exact rE Qh [j3,([],[(0,.idx (Int.toNat v34) (Qa.cells x42))],[]),([],[(16,.call (.tup []) [some (.box 71 [(.bp 0 0),(.own 5)]),none,none,none,some (.row false 1 ([x42.In,x42.Out,(wr64 (x42.In-x42.Out))].map (cInt .i64))),some (.brow 5 x44)])],[]),j3] [some true] [] [0,5] [5,6,26,27,28] (.norm,(f10n2S ba1 (wr64 (v34+1)) x44)) (ap h37 (ap (Qk h43).1 (ap (Qt Qa.cells (Qk h43).2) (ap (Qo.rn 5 [3,4,0,1] (f30r2_ok [x42.Account,x42.Ccy] [x42.In,x42.Out,(wr64 (x42.In-x42.Out))] v35 h45)) an)))) (Qv.norm ⟨(wr64 (v34+1)),x44,rfl,h⟩)
  ·obtain rfl:=Qd h;exact rK Qh 2 [j3] [some false] [] [0,1] [5] (.exit 0) ((f10n2E ba1 (.exit0 v35)).2) (ap h37 an) (Qv.out rfl rfl)
inductive f10n1O where
 | norm (v50:ByteArray)
def f10n1E(ba1:Qj)(bb2:ByteArray):f10n1O→Ex×Tr×Hp
 | .norm v50=>(.norm,mkS [(5,(.bp 0 0))],[some (.box 71 [(.bp 0 0),(.own 1)]),some (.brow 5 v50)])
def f10n1S(ba1:Qj)(bb2:ByteArray):Tr×Hp:=(mkS [(1,(.bp 0 0)),(5,(.bp 1 0)),(6,(.clo 30 [(.bp 1 0)]))],[some (.box 24 ((Qj.cells ba1).map .pl)),some (.box 71 [(.bp 1 0),(.own 2)]),some (.brow 5 bb2)])
noncomputable def f10n1(ba1:Qj)(bb2:ByteArray):Option f10n1O :=
 (f10n2 FUEL ba1 0 bb2).bind fun o47=>match o47 with
 | .exit0 v49=>some (.norm v49)
theorem f10n1_ok(ba1:Qj)(bb2:ByteArray){o:f10n1O}(h:f10n1 ba1 bb2=some o):T Tryd.prog Tryd.f10.ntmps 0 (cL (Qn 5 c10)) (f10n1S ba1 bb2) (·=f10n1E ba1 bb2 o):=by
 unfold f10n1 at h;refine rN Qh 1 [([],[],[(2,.val (jI (ba1.Rows.length:Int)))])] [] [] [1,2] [5,6,26,27,28] (f10n2S ba1 0 bb2) (ap (Qu (xs:=ba1.Rows) (c:=Qa.cells)) an) ?_;obtain ⟨o47,h48,h⟩:=Qe h;cases o47 with
 | exit0 v49 =>
  obtain rfl:=Qd h;exact T.last' (T.bl (i:=0) (by kernel_rfl) (by kernel_rfl) (f10n2_ok FUEL ba1 0 bb2 h48)) (tds:=[]) (m:=[0,1]) (keep:=[5]) (st2:=(f10n1E ba1 bb2 (.norm v49)).2) (by kernel_rfl) an rfl
inductive f10n0O where
 | ret (v58:ByteArray) (v59:Int)
def f10n0E(a1:Qj):f10n0O→Ex×Tr×Hp
 | .ret v58 v59=>(.ret,mkS [(2,(jS v58)),(3,(jI v59))],[])
def f10n0S(a1:Qj):Tr×Hp:=(Qae [(jA Qj.cells a1)] 0 .leaf,[])
noncomputable def f10n0(a1:Qj):Option f10n0O :=
 (f15 a1).bind fun x5 =>
 bif decide (x5=0) then
  (f30r1 [str_report] [a1.From,a1.To,a1.Known]).bind fun x10 =>
  (f10n1 a1 x10).bind fun o51=>match o51 with
  | .norm v53=>(wg34 v53).bind fun x56 =>
   some (.ret x56 0)
 else
  some (.ret Qs x5)
theorem f10n0_ok(a1:Qj){o:f10n0O}(h:f10n0 a1=some o):T Tryd.prog Tryd.f10.ntmps 0 c10 (f10n0S a1) (·=f10n0E a1 o):=by
 unfold f10n0 at h;obtain ⟨x5,h6,h⟩:=Qe h;rcases Qg h with ⟨h7,h⟩|⟨h7,h⟩
 ·obtain ⟨x10,h11,h⟩:=Qe h;refine rN Qh 5 [j3,([],[jH 1 (jI x5)],[]),j3,j3,j3,([],[(9,.call (.tup []) [none,some (.box 71 [(.bp 1 0),(.own 4)]),none,some (.row false 1 ([a1.From,a1.To,a1.Known].map (cInt .i64))),some (.brow 5 x10)])],[])] [some false] [] [0,1,4] [1,5,6] (f10n1S a1 x10) (ap (f15_ok a1 h6) (ap (Qm h7) (ap (Qo.rn 4 [2,3,1] (f30r1_ok [str_report] [a1.From,a1.To,a1.Known] h11)) an))) ?_;obtain ⟨o51,h52,h⟩:=Qe h;cases o51 with
  | norm v53 =>
   refine T.oneN (by kernel_rfl) (f10n1_ok a1 x10 h52) (st2:=(f10n1E a1 x10 (.norm v53)).2) rfl ?_;obtain ⟨x56,h57,h⟩:=Qe h;obtain rfl:=Qd h;exact rE Qh [([],[(0,.call (jS x56) [some (.box 71 [(.bp 0 0),(.own 1)]),none])],[])] [] [] [] [2,3] (.ret,(f10n0E a1 (.ret x56 0)).2) (ap (wg34_ok v53 h57) an) rfl
 ·obtain rfl:=Qd h;exact rK Qh 2 [j3,([],[jH 1 (jI x5)],[]),j3,j3] [some true] [] [] [2,3] .ret ((f10n0E a1 (.ret Qs x5)).2) (ap (f15_ok a1 h6) (ap (Qx h7) an)) rfl
noncomputable def f10(a1:Qj):Option (ByteArray×Int):=(f10n0 a1).bind fun o=>match o with
 | .ret v58 v59=>some (v58,v59)
theorem f10_ok(a1:Qj){r:ByteArray×Int}(h:f10 a1=some r):Qo Tryd.prog false 10 [(jA Qj.cells a1)] [] (.tup [(jS r.1),(jI r.2)]) []:=by
 unfold f10 at h;obtain ⟨o,ho,h⟩:=Qe h;cases o with
 | ret v58 v59 =>
  obtain rfl:=Qd h;exact Qo.plain Qh (f:=Tryd.f10) (c:=c10) (by kernel_rfl) (by kernel_rfl) (by kernel_rfl) (by kernel_rfl) ((f10n0_ok a1 ho).mono fun r e=>by subst e; exact ⟨.inl rfl,(.tup [(jS v58),(jI v59)]),(.tup [(jS v58),(jI v59)]),by kernel_rfl,by kernel_rfl,((Wk.refl _):Wk (.tup [(jS v58),(jI v59)]) (.tup [(jS v58),(jI v59)]))⟩)


noncomputable def c29:Code:=Tryd.f29.body.getD .skip
inductive f29n0O where
 | ret (v5:Bool)
def f29n0E(a1 a2:Qa):f29n0O→Ex×Tr×Hp
 | .ret v5=>(.ret,mkS [(4,(jB v5))],[])
def f29n0S(a1 a2:Qa):Tr×Hp:=(Qae [(jA Qa.cells a1),(jA Qa.cells a2)] 0 .leaf,[])
noncomputable def f29n0(a1 a2:Qa):Option f29n0O :=
 bif (seq a1.Account a2.Account) then
  some (.ret (slt a1.Ccy a2.Ccy))
 else
  some (.ret (slt a1.Account a2.Account))
theorem f29n0_ok(a1 a2:Qa){o:f29n0O}(h:f29n0 a1 a2=some o):T Tryd.prog Tryd.f29.ntmps 0 c29 (f29n0S a1 a2) (·=f29n0E a1 a2 o):=by
 unfold f29n0 at h;rcases Qg h with ⟨h4,h⟩|⟨h4,h⟩
 ·obtain rfl:=Qd h;exact rE Qh [j3,j3,j3] [some false] [] [] [4] (.ret,(f29n0E a1 a2 (.ret (slt a1.Ccy a2.Ccy))).2) (ap (Qm h4) an) rfl
 ·obtain rfl:=Qd h;exact rK Qh 2 [j3,j3,j3] [some true] [] [] [4] .ret ((f29n0E a1 a2 (.ret (slt a1.Account a2.Account))).2) (ap (Qx h4) an) rfl
noncomputable def f29(a1 a2:Qa):Option Bool:=(f29n0 a1 a2).bind fun o=>match o with
 | .ret v5=>some v5
theorem f29_ok(a1 a2:Qa){r:Bool}(h:f29 a1 a2=some r):Qo Tryd.prog false 29 [(jA Qa.cells a1),(jA Qa.cells a2)] [] (jB r) []:=by
 unfold f29 at h;obtain ⟨o,ho,h⟩:=Qe h;cases o with
 | ret v5 =>
  obtain rfl:=Qd h;exact Qo.plain Qh (f:=Tryd.f29) (c:=c29) (by kernel_rfl) (by kernel_rfl) (by kernel_rfl) (by kernel_rfl) ((f29n0_ok a1 a2 ho).mono fun r e=>by subst e; exact ⟨.inl rfl,(jB v5),(jB v5),by kernel_rfl,by kernel_rfl,((Wk.refl _):Wk (jB v5) (jB v5))⟩)









end Go.Proofs.YtfeklaffeigilaaDoor
namespace Go.Proofs.YtfeklaffeigilaaDoor
set_option linter.unusedVariables false
set_option linter.unusedSimpArgs false
set_option maxRecDepth 100000
open Go.RowKit


noncomputable def c36:Code:=Tryd.f36.body.getD .skip

inductive f36r2n0O where
 | norm
def f36r2n0E(a1 a2:ByteArray)(a3 a4:Int)(a5:List (Key_×Qa)):f36r2n0O→Ex×Tr×Hp
 | .norm=>(.norm,mkS [],[some (.map ((mPut Key_.eqb (Key_.mk a1 a2) (Qa.mk a1 a2 (wr64 ((mGet Key_.eqb (Qa.mk Qs Qs 0 0) (Key_.mk a1 a2) a5).In+a3)) (wr64 ((mGet Key_.eqb (Qa.mk Qs Qs 0 0) (Key_.mk a1 a2) a5).Out+a4))) a5).map (mkv (pAgg Key_.cells) (pAgg Qa.cells))))])
def f36r2n0S(a1 a2:ByteArray)(a3 a4:Int)(a5:List (Key_×Qa)):Tr×Hp:=(Qae [(.mp 0),(jS a1),(jS a2),(jI a3),(jI a4)] 0 .leaf,[some (.map (a5.map (mkv (pAgg Key_.cells) (pAgg Qa.cells))))])
noncomputable def f36r2n0(a1 a2:ByteArray)(a3 a4:Int)(a5:List (Key_×Qa)):Option f36r2n0O :=
 some .norm
theorem f36r2n0_ok(a1 a2:ByteArray)(a3 a4:Int)(a5:List (Key_×Qa)){o:f36r2n0O}(h:f36r2n0 a1 a2 a3 a4 a5=some o):T Tryd.prog Tryd.f36.ntmps 1 c36 (f36r2n0S a1 a2 a3 a4 a5) (·=f36r2n0E a1 a2 a3 a4 a5 o):=by
 unfold f36r2n0 at h;obtain rfl:=Qd h
 exact rE Qh [([],[(4,.look ((pAgg Qa.cells) (mGet Key_.eqb (Qa.mk Qs Qs 0 0) (Key_.mk a1 a2) a5)) (mHas Key_.eqb (Key_.mk a1 a2) a5))],[]),([],[(15,.mset ((mPut Key_.eqb (Key_.mk a1 a2) (Qa.mk a1 a2 (wr64 ((mGet Key_.eqb (Qa.mk Qs Qs 0 0) (Key_.mk a1 a2) a5).In+a3)) (wr64 ((mGet Key_.eqb (Qa.mk Qs Qs 0 0) (Key_.mk a1 a2) a5).Out+a4))) a5).map (mkv (pAgg Key_.cells) (pAgg Qa.cells))))],[])] [] [] [] [] (.norm,(f36r2n0E a1 a2 a3 a4 a5 .norm).2) (ap (look_map (vp:=(pAgg Qa.cells)) (e:=39) key_115 (Qa.mk Qs Qs 0 0) (by kernel_rfl) (Key_.mk a1 a2) a5) (ap (mset_map (vp:=(pAgg Qa.cells)) key_115 (Key_.mk a1 a2) (Qa.mk a1 a2 (wr64 ((mGet Key_.eqb (Qa.mk Qs Qs 0 0) (Key_.mk a1 a2) a5).In+a3)) (wr64 ((mGet Key_.eqb (Qa.mk Qs Qs 0 0) (Key_.mk a1 a2) a5).Out+a4))) a5) an)) rfl
noncomputable def f36r2(a1 a2:ByteArray)(a3 a4:Int)(a5:List (Key_×Qa)):Option Unit:=(f36r2n0 a1 a2 a3 a4 a5).bind fun o=>match o with
 | .norm=>some ()
theorem f36r2_ok(a1 a2:ByteArray)(a3 a4:Int)(a5:List (Key_×Qa)){r:Unit}(h:f36r2 a1 a2 a3 a4 a5=some r):Qo Tryd.prog true 36 [(.mp 0),(jS a1),(jS a2),(jI a3),(jI a4)] [some (.map (a5.map (mkv (pAgg Key_.cells) (pAgg Qa.cells))))] (.tup []) [some (.map ((mPut Key_.eqb (Key_.mk a1 a2) (Qa.mk a1 a2 (wr64 ((mGet Key_.eqb (Qa.mk Qs Qs 0 0) (Key_.mk a1 a2) a5).In+a3)) (wr64 ((mGet Key_.eqb (Qa.mk Qs Qs 0 0) (Key_.mk a1 a2) a5).Out+a4))) a5).map (mkv (pAgg Key_.cells) (pAgg Qa.cells))))]:=by
 unfold f36r2 at h;obtain ⟨o,ho,h⟩:=Qe h;cases o with
 | norm =>
  obtain rfl:=Qd h;exact Qo.shared Qh (f:=Tryd.f36) (c:=c36) (by kernel_rfl) (by kernel_rfl) (by kernel_rfl) ((f36r2n0_ok a1 a2 a3 a4 a5 ho).mono fun r e=>by subst e; exact ⟨.inr rfl,by kernel_rfl,by kernel_rfl⟩)

instance:Inhabited Qa:=⟨(Qa.mk Qs Qs 0 0)⟩
def so59_41_good(xs:List Qa):Prop:=∃c:Qa→Qa→Int,(∀x y,f41 x y=some (c x y))∧Go.Sort.SWO (ltOf c)∧xs.length<4611686018427387904
open Classical in
noncomputable def so59_41(xs:List Qa):Option (List Qa):=if h:so59_41_good xs then some (sortL h.choose xs) else none
theorem so59_41_val{xs:List Qa}{c:Qa→Qa→Int}(hc:∀x y,f41 x y=some (c x y))(o:Go.Sort.SWO (ltOf c))(hl:xs.length<4611686018427387904):so59_41 xs=some (sortL c xs):=by
 have h:so59_41_good xs:=⟨c,hc,o,hl⟩;unfold so59_41;rw [dif_pos h];have e:h.choose=c:=funext fun x=>funext fun y=>Option.some.inj ((h.choose_spec.1 x y).symm.trans (hc x y));rw [e]
theorem so59_41_ok(xs:List Qa){r:List Qa}(h:so59_41 xs=some r) :
  Qo Tryd.prog true 59 [.own 0,.pl (.fn 41)] [some (.row false 4 (xs.map Qa.cells))] (.tup []) [some (.row false 4 (r.map Qa.cells))]:=by
 unfold so59_41 at h
 by_cases hc:so59_41_good xs
 ·rw [dif_pos hc] at h;obtain rfl:=Qd h;have hs:=hc.choose_spec;exact sort_callS (cells:=Qa.cells) so_lays rfl so_agg so_size (Qbp Tryd.func59 (by kernel_rfl) rfl) (fun _=>rfl) (fun x q hq=>by
   simp only [Qa.cells,List.mem_cons,List.not_mem_nil,or_false] at hq;rcases hq with rfl | rfl | rfl | rfl<;>rfl) _ hs.2.1 (fun x y=>f41_ok _ _ (hs.1 x y)) xs hs.2.2
 ·rw [dif_neg hc] at h; cases h


noncomputable def c37:Code:=Tryd.f37.body.getD .skip
inductive f37r1n2O where
 | exit0 (v33:List Qa)
def f37r1n2E(bj1:List (Key_×Qa)):f37r1n2O→Ex×Tr×Hp
 | .exit0 v33=>((.exit 0),mkS [(3,(.own 1))],[some (.map (bj1.map (mkv (pAgg Key_.cells) (pAgg Qa.cells)))),jR 4 Qa.cells v33])
def f37r1n2S(bj1:List (Key_×Qa))(v21:List Qa)(sn0:List Nat):Tr×Hp:=(mkS [(3,(.own 1)),(7,(.it 2))],[some (.map (bj1.map (mkv (pAgg Key_.cells) (pAgg Qa.cells)))),jR 4 Qa.cells v21,some (.iter 0 (bj1.map (mkv (pAgg Key_.cells) (pAgg Qa.cells))).length sn0)])
noncomputable def Qbh(bj1:List (Key_×Qa)):List (Key_×Qa)→(List Qa)→Option f37r1n2O
 | [],v21 =>
  some (.exit0 v21)
 | x23::rest,v21 =>
  bif decide (x23.2.In=0) then
   bif decide (x23.2.Out=0) then
    (Qbh bj1 rest v21)
   else
    req (fit (v21.length+1) 48) <|
    (Qbh bj1 rest (v21++[x23.2]))
  else
   req (fit (v21.length+1) 48) <|
   (Qbh bj1 rest (v21++[x23.2]))
theorem f37r1n2_ok(bj1:List (Key_×Qa)):∀(f:Nat)(sn0 rem:List Nat)(v21:List Qa){Q:f37r1n2O→Prop},Rem bj1.length sn0 rem→rem.length<f→(∀p,p.Perm rem→∃o,Qbh bj1 (ords bj1 p) v21=some o∧Q o)→TL Tryd.prog Tryd.f37.ntmps 1 f (cL (cL (Qn 1 (cL (Qn 2 c37))))) (f37r1n2S bj1 v21 sn0) (fun r=>∃o,Q o∧r=f37r1n2E bj1 o)
 | 0,_,_,_,_,_,hf,_=>absurd hf (Nat.not_lt_zero _)
 | f+1,sn0,rem,v21,Q,hR,hf,H=>by
  refine TL.bodyQ (K:=fun s=>∃(sn0 rem:List Nat) (v21:List Qa),s=f37r1n2S bj1 v21 sn0∧Rem bj1.length sn0 rem∧rem.length<f∧(∀p,p.Perm rem→∃o,Qbh bj1 (ords bj1 p) v21=some o∧Q o)) ?_ (by rintro _ ⟨sn0,rem,v21,rfl,h1,h2,h3⟩; exact f37r1n2_ok bj1 f sn0 rem v21 h1 h2 h3);refine T.oneNext Qh (x:=.tmp 7) (t:=8) (tb:=9) (i:=2) (o:=0) (m:=(bj1.map (mkv (pAgg Key_.cells) (pAgg Qa.cells))).length) (seen:=sn0) (kvs:=(bj1.map (mkv (pAgg Key_.cells) (pAgg Qa.cells)))) (by kernel_rfl) (by kernel_rfl) (by kernel_rfl) (by kernel_rfl) (by kernel_rfl) (by kernel_rfl) rfl (fun hs=>?_) (fun j22 k v hj hs hx=>?_)
  ·obtain rfl:=hR.none (by simpa using hs);obtain ⟨o,h0,hq⟩:=H [] (List.Perm.refl _);have h:Qbh bj1 [] v21=some o:=h0;rw [Qbh] at h;obtain rfl:=Qd h;exact rK Qh 1 [] [none] [] [1] [3] (.exit 0) ((f37r1n2E bj1 (.exit0 v21)).2) an (LoopQ2.out ⟨_,hq,rfl⟩ rfl)
  ·obtain ⟨x23,h24,rfl,rfl⟩:=mkv_at hx;obtain ⟨hR2,hlen,hP⟩:=hR.step (j:=j22) (by simpa using hj) hs;have H2:∀p,p.Perm (rem.erase j22)→∃o,Qbh bj1 (x23::ords bj1 p) v21=some o∧Q o:=fun p hp=>by obtain ⟨o,h,hq⟩:=H _ (hP p hp); rw [ords_cons h24] at h; exact ⟨o,h,hq⟩
   obtain ⟨o,h,hq⟩:=H2 _ (List.Perm.refl _);rw [Qbh] at h;rcases Qg h with ⟨h29,h⟩|⟨h29,h⟩
   ·rcases Qg h with ⟨h30,h⟩|⟨h30,h⟩
    ·exact rE Qh [([],[(0,.entr j22 ((pAgg Key_.cells) x23.1) ((pAgg Qa.cells) x23.2))],[]),(jF [4,5,6],[(7,.bool false)],[])] [none,some false] [] [1,2] [3,7] (.norm,(f37r1n2S bj1 v21 (sn0++[j22]))) (ap (last_app (seen:=sn0) (j:=j22)) (ap (rfl:(bj1.map (mkv (pAgg Key_.cells) (pAgg Qa.cells))).length=(bj1.map (mkv (pAgg Key_.cells) (pAgg Qa.cells))).length) (ap (at_mkv (kp:=(pAgg Key_.cells)) (vp:=(pAgg Qa.cells)) h24) (ap4 (Qm h29) (ap (Qm h30) an))))) (LoopQ2.norm ⟨sn0++[j22],rem.erase j22,v21,rfl,hR2,by omega,fun p hp=>by obtain ⟨o,h,hq⟩:=H2 p hp; refine ⟨o,?_,hq⟩; rw [Qbh] at h; simp only [h29,h30,cond_true,cond_false,Option.bind_some,req] at h; exact h⟩)
    ·obtain ⟨h31,h⟩:=Qah h
     exact rE Qh [([],[(0,.entr j22 ((pAgg Key_.cells) x23.1) ((pAgg Qa.cells) x23.2))],[]),(jF [4,5,6],[(7,.bool false)],[]),([],[(3,.fits)],[(3,.row 5 ((v21++[x23.2]).map Qa.cells))])] [none,some true] [] [5,2] [3,7] (.norm,(f37r1n2S bj1 (v21++[x23.2]) (sn0++[j22]))) (ap (last_app (seen:=sn0) (j:=j22)) (ap (rfl:(bj1.map (mkv (pAgg Key_.cells) (pAgg Qa.cells))).length=(bj1.map (mkv (pAgg Key_.cells) (pAgg Qa.cells))).length) (ap (at_mkv (kp:=(pAgg Key_.cells)) (vp:=(pAgg Qa.cells)) h24) (ap4 (Qm h29) (ap (Qx h30) (ap (fit_map (te:=ti39) (xs:=v21) (n:=1) (c:=Qa.cells) h31 rfl) (ap (app_cv (xs:=v21) (ys:=[x23.2]) (c:=Qa.cells)) an))))))) (LoopQ2.norm ⟨sn0++[j22],rem.erase j22,(v21++[x23.2]),rfl,hR2,by omega,fun p hp=>by obtain ⟨o,h,hq⟩:=H2 p hp; refine ⟨o,?_,hq⟩; rw [Qbh] at h; simp only [h29,h30,h31,cond_true,cond_false,Option.bind_some,req] at h; exact h⟩)
   ·obtain ⟨h32,h⟩:=Qah h
    exact rE Qh [([],[(0,.entr j22 ((pAgg Key_.cells) x23.1) ((pAgg Qa.cells) x23.2))],[]),(jT [4,5,6],[(7,.bool true)],[]),([],[(3,.fits)],[(3,.row 5 ((v21++[x23.2]).map Qa.cells))])] [none,none] [] [5,2] [3,7] (.norm,(f37r1n2S bj1 (v21++[x23.2]) (sn0++[j22]))) (ap (last_app (seen:=sn0) (j:=j22)) (ap (rfl:(bj1.map (mkv (pAgg Key_.cells) (pAgg Qa.cells))).length=(bj1.map (mkv (pAgg Key_.cells) (pAgg Qa.cells))).length) (ap (at_mkv (kp:=(pAgg Key_.cells)) (vp:=(pAgg Qa.cells)) h24) (ap4 (Qx h29) (ap (fit_map (te:=ti39) (xs:=v21) (n:=1) (c:=Qa.cells) h32 rfl) (ap (app_cv (xs:=v21) (ys:=[x23.2]) (c:=Qa.cells)) an)))))) (LoopQ2.norm ⟨sn0++[j22],rem.erase j22,(v21++[x23.2]),rfl,hR2,by omega,fun p hp=>by obtain ⟨o,h,hq⟩:=H2 p hp; refine ⟨o,?_,hq⟩; rw [Qbh] at h; simp only [h29,h32,cond_true,cond_false,Option.bind_some,req] at h; exact h⟩)
inductive f37r1n1O where
 | norm (v37:List Qa)
def f37r1n1E(bj1:List (Key_×Qa)):f37r1n1O→Ex×Tr×Hp
 | .norm v37=>(.norm,mkS [(3,(.own 1))],[some (.map (bj1.map (mkv (pAgg Key_.cells) (pAgg Qa.cells)))),jR 4 Qa.cells v37])
def f37r1n1S(bj1:List (Key_×Qa)):Tr×Hp:=(mkS [(0,(.mp 0)),(3,(.pl (.sl .nil 0 [])))],[some (.map (bj1.map (mkv (pAgg Key_.cells) (pAgg Qa.cells))))])
noncomputable def f37r1n1(bj1 p:List (Key_×Qa)):Option f37r1n1O :=
 (Qbh bj1 p []).bind fun o34=>match o34 with
 | .exit0 v36=>some (.norm v36)
theorem f37r1n1_ok(bj1:List (Key_×Qa)){Q:f37r1n1O→Prop}(H:∀p,p.Perm bj1→∃o,f37r1n1 bj1 p=some o∧Q o):T Tryd.prog Tryd.f37.ntmps 1 (cL (Qn 2 c37)) (f37r1n1S bj1) (fun r=>∃o,Q o∧r=f37r1n1E bj1 o):=by
 refine rN Qh 1 [j3] [] [.mat 3 4] [2,1] [3,7] (f37r1n2S bj1 [] []) an ?_;refine T.lastQ (T.blQ (i:=0) (by kernel_rfl) (by kernel_rfl) (f37r1n2_ok bj1 _ [] (List.range bj1.length) [] (Rem.start _) (Nat.lt_succ_self _) (Q:=fun y=>∃o,(match y with | .exit0 v36=>some (.norm v36))=some o∧Q o) (fun p hp=>by obtain ⟨o,h,hq⟩:=H _ (ords_perm hp); unfold f37r1n1 at h; obtain ⟨y,hy,h⟩:=bind_ex h; exact ⟨y,hy,o,h,hq⟩))) ?_
 rintro y ⟨o,h,hq⟩
 cases y with
 | exit0 v36 =>
  obtain rfl:=Qd h;exact Tidy.of [] [1] [3] ((f37r1n1E bj1 (.norm v36)).2) (by kernel_rfl) an ⟨_,hq,rfl⟩
inductive f37r1n0O where
 | ret (v45:List Qa)
def f37r1n0E(a1:List (Key_×Qa)):f37r1n0O→Ex×Tr×Hp
 | .ret v45=>(.ret,mkS [(2,(.own 1))],[some (.map (a1.map (mkv (pAgg Key_.cells) (pAgg Qa.cells)))),jR 4 Qa.cells v45])
def f37r1n0S(a1:List (Key_×Qa)):Tr×Hp:=(Qae [(.mp 0)] 0 .leaf,[some (.map (a1.map (mkv (pAgg Key_.cells) (pAgg Qa.cells))))])
noncomputable def f37r1n0(a1:List (Key_×Qa)):Option f37r1n0O :=
 (anyOrder a1 fun p=>(f37r1n1 a1 p).bind fun o38=>match o38 with
 | .norm v40=>(so59_41 v40).bind fun x43 =>
  some (.ret x43))
theorem f37r1n0_ok(a1:List (Key_×Qa)){o:f37r1n0O}(h:f37r1n0 a1=some o):T Tryd.prog Tryd.f37.ntmps 1 c37 (f37r1n0S a1) (·=f37r1n0E a1 o):=by
 unfold f37r1n0 at h;refine rN Qh 2 [j3,j3] [] [] [] [0,3] (f37r1n1S a1) an ?_;refine T.oneQ (by kernel_rfl) (f37r1n1_ok a1 (fun p hp=>bind_ex (anyOrder_at h p hp))) ?_;intro o38 h;cases o38 with
 | norm v40 =>
  refine OneR.go ((f37r1n1E a1 (.norm v40)).2) rfl ?_;obtain ⟨x43,h44,h⟩:=Qe h;obtain rfl:=Qd h;exact rE Qh [([],[(1,.call (.tup []) [none,jR 4 Qa.cells x43])],[]),j3] [] [] [1] [2] (.ret,(f37r1n0E a1 (.ret x43)).2) (ap (Qo.rn 2 [1] (so59_41_ok v40 h44)) an) rfl
noncomputable def f37r1(a1:List (Key_×Qa)):Option (List Qa):=(f37r1n0 a1).bind fun o=>match o with
 | .ret v45=>some v45
theorem f37r1_ok(a1:List (Key_×Qa)){r:List Qa}(h:f37r1 a1=some r):Qo Tryd.prog true 37 [(.mp 0)] [some (.map (a1.map (mkv (pAgg Key_.cells) (pAgg Qa.cells))))] (.own 1) [some (.map (a1.map (mkv (pAgg Key_.cells) (pAgg Qa.cells)))),jR 4 Qa.cells r]:=by
 unfold f37r1 at h;obtain ⟨o,ho,h⟩:=Qe h;cases o with
 | ret v45 =>
  obtain rfl:=Qd h;exact Qo.shared Qh (f:=Tryd.f37) (c:=c37) (by kernel_rfl) (by kernel_rfl) (by kernel_rfl) ((f37r1n0_ok a1 ho).mono fun r e=>by subst e; exact ⟨.inl rfl,by kernel_rfl,by kernel_rfl⟩)

noncomputable def c12:Code:=Tryd.f12.body.getD .skip
inductive f12r1n2O where
 | exit0 (v53:List (Key_×Qa))
def f12r1n2E(ba2 ba1:Qj):f12r1n2O→Ex×Tr×Hp
 | .exit0 v53=>((.exit 0),mkS [(2,(.bp 0 0)),(8,(.mp 1))],[some (.box 24 ((Qj.cells ba1).map .pl)),some (.map (v53.map (mkv (pAgg Key_.cells) (pAgg Qa.cells))))])
def f12r1n2S(ba2 ba1:Qj)(v41:Int)(v42:List (Key_×Qa)):Tr×Hp:=(mkS [(2,(.bp 0 0)),(8,(.mp 1)),(37,(jL 4 Qa.cells ba2.Rows)),(38,(jI (ba2.Rows.length:Int))),(39,(jI v41))],[some (.box 24 ((Qj.cells ba1).map .pl)),some (.map (v42.map (mkv (pAgg Key_.cells) (pAgg Qa.cells))))])
noncomputable def f12r1n2:Nat→Qj→Qj→Int→List (Key_×Qa)→Option f12r1n2O
 | 0,_,_,_,_=>none
 | f+1,ba2,ba1,v41,v42 =>
  bif decide (v41<(ba2.Rows.length:Int)) then
   (at? ba2.Rows v41).bind fun x49 =>
   (f36r2 x49.Account x49.Ccy x49.In x49.Out v42).bind fun x51 =>
   (f12r1n2 f ba2 ba1 (wr64 (v41+1)) (mPut Key_.eqb (Key_.mk x49.Account x49.Ccy) (Qa.mk x49.Account x49.Ccy (wr64 ((mGet Key_.eqb (Qa.mk Qs Qs 0 0) (Key_.mk x49.Account x49.Ccy) v42).In+x49.In)) (wr64 ((mGet Key_.eqb (Qa.mk Qs Qs 0 0) (Key_.mk x49.Account x49.Ccy) v42).Out+x49.Out))) v42))
  else
   some (.exit0 v42)
theorem f12r1n2_ok:∀(f:Nat)(ba2 ba1:Qj)(v41:Int)(v42:List (Key_×Qa)){o:f12r1n2O},f12r1n2 f ba2 ba1 v41 v42=some o→TL Tryd.prog Tryd.f12.ntmps 0 f (cL (cL (Qn 1 (cL (Qn 5 c12))))) (f12r1n2S ba2 ba1 v41 v42) (·=f12r1n2E ba2 ba1 o)
 | 0,_,_,_,_,o,h=>by rw [f12r1n2] at h; cases h
 | f+1,ba2,ba1,v41,v42,o,h=>by
  rw [f12r1n2] at h;refine TL.body (K:=fun s=>∃v41:Int,∃v42:List (Key_×Qa),s=(f12r1n2S ba2 ba1 v41 v42)∧f12r1n2 f ba2 ba1 v41 v42=some o) ?_ (by rintro _ ⟨v41,v42,rfl,hk⟩; exact f12r1n2_ok f _ _ _ _ hk);rcases Qg h with ⟨h44,h⟩|⟨h44,h⟩
  ·obtain ⟨x49,h50,h⟩:=Qe h;obtain ⟨x51,h52,h⟩:=Qe h
   exact rE Qh [j3,([],[(0,.idx (Int.toNat v41) (Qa.cells x49))],[]),([],[(9,.call (.tup []) [none,some (.map ((mPut Key_.eqb (Key_.mk x49.Account x49.Ccy) (Qa.mk x49.Account x49.Ccy (wr64 ((mGet Key_.eqb (Qa.mk Qs Qs 0 0) (Key_.mk x49.Account x49.Ccy) v42).In+x49.In)) (wr64 ((mGet Key_.eqb (Qa.mk Qs Qs 0 0) (Key_.mk x49.Account x49.Ccy) v42).Out+x49.Out))) v42).map (mkv (pAgg Key_.cells) (pAgg Qa.cells)))),none])],[]),j3] [some true] [] [0,1] [2,8,37,38,39] (.norm,(f12r1n2S ba2 ba1 (wr64 (v41+1)) (mPut Key_.eqb (Key_.mk x49.Account x49.Ccy) (Qa.mk x49.Account x49.Ccy (wr64 ((mGet Key_.eqb (Qa.mk Qs Qs 0 0) (Key_.mk x49.Account x49.Ccy) v42).In+x49.In)) (wr64 ((mGet Key_.eqb (Qa.mk Qs Qs 0 0) (Key_.mk x49.Account x49.Ccy) v42).Out+x49.Out))) v42))) (ap h44 (ap (Qk h50).1 (ap (Qt Qa.cells (Qk h50).2) (ap (Qo.rn 3 [1] (f36r2_ok x49.Account x49.Ccy x49.In x49.Out v42 h52)) an)))) (Qv.norm ⟨(wr64 (v41+1)),(mPut Key_.eqb (Key_.mk x49.Account x49.Ccy) (Qa.mk x49.Account x49.Ccy (wr64 ((mGet Key_.eqb (Qa.mk Qs Qs 0 0) (Key_.mk x49.Account x49.Ccy) v42).In+x49.In)) (wr64 ((mGet Key_.eqb (Qa.mk Qs Qs 0 0) (Key_.mk x49.Account x49.Ccy) v42).Out+x49.Out))) v42),rfl,h⟩)
  ·obtain rfl:=Qd h;exact rK Qh 2 [j3] [some false] [] [0,1] [2,8] (.exit 0) ((f12r1n2E ba2 ba1 (.exit0 v42)).2) (ap h44 an) (Qv.out rfl rfl)
noncomputable def f12r1n2L(ba2 ba1:Qj):List Qa→Int→(List (Key_×Qa))→Option f12r1n2O
 | [],v41,v42 =>
  some (.exit0 v42)
 | x0::rest,v41,v42 =>
  (f36r2 x0.Account x0.Ccy x0.In x0.Out v42).bind fun x51 =>
  (f12r1n2L ba2 ba1 rest (v41+1) (mPut Key_.eqb (Key_.mk x0.Account x0.Ccy) (Qa.mk x0.Account x0.Ccy (wr64 ((mGet Key_.eqb (Qa.mk Qs Qs 0 0) (Key_.mk x0.Account x0.Ccy) v42).In+x0.In)) (wr64 ((mGet Key_.eqb (Qa.mk Qs Qs 0 0) (Key_.mk x0.Account x0.Ccy) v42).Out+x0.Out))) v42))
theorem f12r1n2L_eq(ba2 ba1:Qj):∀(rest:List Qa)(f k:Nat)(v42:List (Key_×Qa)),ba2.Rows.drop k=rest→ba2.Rows.length≤maxLen→rest.length<f→f12r1n2 f ba2 ba1 (k:Int) v42=f12r1n2L ba2 ba1 rest (k:Int) v42
 | _,0,_,_,_,_,hf=>absurd hf (Nat.not_lt_zero _)
 | [],f+1,k,v42,hd,hm,hf=>by
  have hk:¬((k:Int)<(ba2.Rows.length:Int)):=by have:=Qak hd; omega
  rw [f12r1n2,f12r1n2L];simp only [decide_eq_false hk,cond_false]
 | x0::rest,f+1,k,v42,hd,hm,hf=>by
  obtain ⟨hx,hlt,hd'⟩:=Qaj hd;have hk:(k:Int)<(ba2.Rows.length:Int):=by omega
  have hw:wr64 ((k:Int)+1)=(k:Int)+1:=Qbk (by omega) (by unfold maxLen at hm; omega);have ih:∀(v42:List (Key_×Qa)),f12r1n2 f ba2 ba1 ((k:Int)+1) v42=f12r1n2L ba2 ba1 rest ((k:Int)+1) v42:=fun v42=>f12r1n2L_eq ba2 ba1 rest f (k+1) v42 hd' hm (by simpa using hf);rw [f12r1n2,f12r1n2L];simp only [decide_eq_true hk,cond_true,at_nat,hx,Option.bind_some,hw,ih]
theorem f12r1n2_run(ba2 ba1:Qj)(v42:List (Key_×Qa))(hm:ba2.Rows.length≤maxLen):f12r1n2 FUEL ba2 ba1 0 v42=f12r1n2L ba2 ba1 ba2.Rows 0 v42:=f12r1n2L_eq ba2 ba1 ba2.Rows FUEL 0 v42 List.drop_zero hm (Qbi hm)
inductive f12r1n1O where
 | norm (v57:List (Key_×Qa))
def f12r1n1E(ba1 ba2:Qj):f12r1n1O→Ex×Tr×Hp
 | .norm v57=>(.norm,mkS [(2,(.bp 0 0)),(8,(.mp 1))],[some (.box 24 ((Qj.cells ba1).map .pl)),some (.map (v57.map (mkv (pAgg Key_.cells) (pAgg Qa.cells))))])
def f12r1n1S(ba1 ba2:Qj):Tr×Hp:=(mkS [(2,(.bp 0 0)),(3,(.bp 1 0)),(8,(.mp 2))],[some (.box 24 ((Qj.cells ba1).map .pl)),some (.box 24 ((Qj.cells ba2).map .pl)),some (.map ([].map (mkv (pAgg Key_.cells) (pAgg Qa.cells))))])
noncomputable def f12r1n1(ba1 ba2:Qj):Option f12r1n1O :=
 (f12r1n2 FUEL ba2 ba1 0 []).bind fun o54=>match o54 with
 | .exit0 v56=>some (.norm v56)
theorem f12r1n1_ok(ba1 ba2:Qj){o:f12r1n1O}(h:f12r1n1 ba1 ba2=some o):T Tryd.prog Tryd.f12.ntmps 0 (cL (Qn 5 c12)) (f12r1n1S ba1 ba2) (·=f12r1n1E ba1 ba2 o):=by
 unfold f12r1n1 at h;refine rN Qh 1 [([],[],[(2,.val (jI (ba2.Rows.length:Int)))])] [] [] [0,2] [2,8,37,38,39] (f12r1n2S ba2 ba1 0 []) (ap (Qu (xs:=ba2.Rows) (c:=Qa.cells)) an) ?_;obtain ⟨o54,h55,h⟩:=Qe h;cases o54 with
 | exit0 v56 =>
  obtain rfl:=Qd h;exact T.last' (T.bl (i:=0) (by kernel_rfl) (by kernel_rfl) (f12r1n2_ok FUEL ba2 ba1 0 [] h55)) (tds:=[]) (m:=[0,1]) (keep:=[2,8]) (st2:=(f12r1n1E ba1 ba2 (.norm v56)).2) (by kernel_rfl) an rfl
inductive f12r1n4O where
 | exit2 (v95:List (Key_×Qa))
def f12r1n4E(ba1:Qj):f12r1n4O→Ex×Tr×Hp
 | .exit2 v95=>((.exit 2),mkS [(8,(.mp 0))],[some (.map (v95.map (mkv (pAgg Key_.cells) (pAgg Qa.cells))))])
def f12r1n4S(ba1:Qj)(v83:Int)(v84:List (Key_×Qa)):Tr×Hp:=(mkS [(8,(.mp 0)),(55,(jL 4 Qa.cells ba1.Rows)),(56,(jI (ba1.Rows.length:Int))),(57,(jI v83))],[some (.map (v84.map (mkv (pAgg Key_.cells) (pAgg Qa.cells))))])
noncomputable def f12r1n4:Nat→Qj→Int→List (Key_×Qa)→Option f12r1n4O
 | 0,_,_,_=>none
 | f+1,ba1,v83,v84 =>
  bif decide (v83<(ba1.Rows.length:Int)) then
   (at? ba1.Rows v83).bind fun x91 =>
   (f36r2 x91.Account x91.Ccy (wr64 (0-x91.In)) (wr64 (0-x91.Out)) v84).bind fun x93 =>
   (f12r1n4 f ba1 (wr64 (v83+1)) (mPut Key_.eqb (Key_.mk x91.Account x91.Ccy) (Qa.mk x91.Account x91.Ccy (wr64 ((mGet Key_.eqb (Qa.mk Qs Qs 0 0) (Key_.mk x91.Account x91.Ccy) v84).In+(wr64 (0-x91.In)))) (wr64 ((mGet Key_.eqb (Qa.mk Qs Qs 0 0) (Key_.mk x91.Account x91.Ccy) v84).Out+(wr64 (0-x91.Out))))) v84))
  else
   some (.exit2 v84)
theorem f12r1n4_ok:∀(f:Nat)(ba1:Qj)(v83:Int)(v84:List (Key_×Qa)){o:f12r1n4O},f12r1n4 f ba1 v83 v84=some o→TL Tryd.prog Tryd.f12.ntmps 0 f (cL (cL (Qn 1 (cL (Qn 0 (Qn 1 (Qn 5 c12))))))) (f12r1n4S ba1 v83 v84) (·=f12r1n4E ba1 o)
 | 0,_,_,_,o,h=>by rw [f12r1n4] at h; cases h
 | f+1,ba1,v83,v84,o,h=>by
  rw [f12r1n4] at h;refine TL.body (K:=fun s=>∃v83:Int,∃v84:List (Key_×Qa),s=(f12r1n4S ba1 v83 v84)∧f12r1n4 f ba1 v83 v84=some o) ?_ (by rintro _ ⟨v83,v84,rfl,hk⟩; exact f12r1n4_ok f _ _ _ hk);rcases Qg h with ⟨h86,h⟩|⟨h86,h⟩
  ·obtain ⟨x91,h92,h⟩:=Qe h;obtain ⟨x93,h94,h⟩:=Qe h
   exact rE Qh [j3,([],[(0,.idx (Int.toNat v83) (Qa.cells x91))],[]),([],[(11,.call (.tup []) [some (.map ((mPut Key_.eqb (Key_.mk x91.Account x91.Ccy) (Qa.mk x91.Account x91.Ccy (wr64 ((mGet Key_.eqb (Qa.mk Qs Qs 0 0) (Key_.mk x91.Account x91.Ccy) v84).In+(wr64 (0-x91.In)))) (wr64 ((mGet Key_.eqb (Qa.mk Qs Qs 0 0) (Key_.mk x91.Account x91.Ccy) v84).Out+(wr64 (0-x91.Out))))) v84).map (mkv (pAgg Key_.cells) (pAgg Qa.cells)))),none])],[]),j3] [some true] [] [0] [8,55,56,57] (.norm,(f12r1n4S ba1 (wr64 (v83+1)) (mPut Key_.eqb (Key_.mk x91.Account x91.Ccy) (Qa.mk x91.Account x91.Ccy (wr64 ((mGet Key_.eqb (Qa.mk Qs Qs 0 0) (Key_.mk x91.Account x91.Ccy) v84).In+(wr64 (0-x91.In)))) (wr64 ((mGet Key_.eqb (Qa.mk Qs Qs 0 0) (Key_.mk x91.Account x91.Ccy) v84).Out+(wr64 (0-x91.Out))))) v84))) (ap h86 (ap (Qk h92).1 (ap (Qt Qa.cells (Qk h92).2) (ap (Qo.rn 2 [0] (f36r2_ok x91.Account x91.Ccy (wr64 (0-x91.In)) (wr64 (0-x91.Out)) v84 h94)) an)))) (Qv.norm ⟨(wr64 (v83+1)),(mPut Key_.eqb (Key_.mk x91.Account x91.Ccy) (Qa.mk x91.Account x91.Ccy (wr64 ((mGet Key_.eqb (Qa.mk Qs Qs 0 0) (Key_.mk x91.Account x91.Ccy) v84).In+(wr64 (0-x91.In)))) (wr64 ((mGet Key_.eqb (Qa.mk Qs Qs 0 0) (Key_.mk x91.Account x91.Ccy) v84).Out+(wr64 (0-x91.Out))))) v84),rfl,h⟩)
  ·obtain rfl:=Qd h;exact rK Qh 2 [j3] [some false] [] [0] [8] (.exit 2) ((f12r1n4E ba1 (.exit2 v84)).2) (ap h86 an) (Qv.out rfl rfl)
noncomputable def f12r1n4L(ba1:Qj):List Qa→Int→(List (Key_×Qa))→Option f12r1n4O
 | [],v83,v84 =>
  some (.exit2 v84)
 | x0::rest,v83,v84 =>
  (f36r2 x0.Account x0.Ccy (wr64 (0-x0.In)) (wr64 (0-x0.Out)) v84).bind fun x93 =>
  (f12r1n4L ba1 rest (v83+1) (mPut Key_.eqb (Key_.mk x0.Account x0.Ccy) (Qa.mk x0.Account x0.Ccy (wr64 ((mGet Key_.eqb (Qa.mk Qs Qs 0 0) (Key_.mk x0.Account x0.Ccy) v84).In+(wr64 (0-x0.In)))) (wr64 ((mGet Key_.eqb (Qa.mk Qs Qs 0 0) (Key_.mk x0.Account x0.Ccy) v84).Out+(wr64 (0-x0.Out))))) v84))
theorem f12r1n4L_eq(ba1:Qj):∀(rest:List Qa)(f k:Nat)(v84:List (Key_×Qa)),ba1.Rows.drop k=rest→ba1.Rows.length≤maxLen→rest.length<f→f12r1n4 f ba1 (k:Int) v84=f12r1n4L ba1 rest (k:Int) v84
 | _,0,_,_,_,_,hf=>absurd hf (Nat.not_lt_zero _)
 | [],f+1,k,v84,hd,hm,hf=>by
  have hk:¬((k:Int)<(ba1.Rows.length:Int)):=by have:=Qak hd; omega
  rw [f12r1n4,f12r1n4L];simp only [decide_eq_false hk,cond_false]
 | x0::rest,f+1,k,v84,hd,hm,hf=>by
  obtain ⟨hx,hlt,hd'⟩:=Qaj hd;have hk:(k:Int)<(ba1.Rows.length:Int):=by omega
  have hw:wr64 ((k:Int)+1)=(k:Int)+1:=Qbk (by omega) (by unfold maxLen at hm; omega);have ih:∀(v84:List (Key_×Qa)),f12r1n4 f ba1 ((k:Int)+1) v84=f12r1n4L ba1 rest ((k:Int)+1) v84:=fun v84=>f12r1n4L_eq ba1 rest f (k+1) v84 hd' hm (by simpa using hf);rw [f12r1n4,f12r1n4L];simp only [decide_eq_true hk,cond_true,at_nat,hx,Option.bind_some,hw,ih]
theorem f12r1n4_run(ba1:Qj)(v84:List (Key_×Qa))(hm:ba1.Rows.length≤maxLen):f12r1n4 FUEL ba1 0 v84=f12r1n4L ba1 ba1.Rows 0 v84:=f12r1n4L_eq ba1 ba1.Rows FUEL 0 v84 List.drop_zero hm (Qbi hm)
inductive f12r1n3O where
 | norm (v99:List (Key_×Qa))
def f12r1n3E(ba1:Qj)(bj2:List (Key_×Qa)):f12r1n3O→Ex×Tr×Hp
 | .norm v99=>(.norm,mkS [(8,(.mp 0))],[some (.map (v99.map (mkv (pAgg Key_.cells) (pAgg Qa.cells))))])
def f12r1n3S(ba1:Qj)(bj2:List (Key_×Qa)):Tr×Hp:=(mkS [(2,(.bp 0 0)),(8,(.mp 1))],[some (.box 24 ((Qj.cells ba1).map .pl)),some (.map (bj2.map (mkv (pAgg Key_.cells) (pAgg Qa.cells))))])
noncomputable def f12r1n3(ba1:Qj)(bj2:List (Key_×Qa)):Option f12r1n3O :=
 (f12r1n4 FUEL ba1 0 bj2).bind fun o96=>match o96 with
 | .exit2 v98=>some (.norm v98)
theorem f12r1n3_ok(ba1:Qj)(bj2:List (Key_×Qa)){o:f12r1n3O}(h:f12r1n3 ba1 bj2=some o):T Tryd.prog Tryd.f12.ntmps 0 (cL (Qn 0 (Qn 1 (Qn 5 c12)))) (f12r1n3S ba1 bj2) (·=f12r1n3E ba1 bj2 o):=by
 unfold f12r1n3 at h;refine rN Qh 1 [([],[],[(2,.val (jI (ba1.Rows.length:Int)))])] [] [] [1] [8,55,56,57] (f12r1n4S ba1 0 bj2) (ap (Qu (xs:=ba1.Rows) (c:=Qa.cells)) an) ?_;obtain ⟨o96,h97,h⟩:=Qe h;cases o96 with
 | exit2 v98 =>
  obtain rfl:=Qd h;exact T.last' (T.bl (i:=2) (by kernel_rfl) (by kernel_rfl) (f12r1n4_ok FUEL ba1 0 bj2 h97)) (tds:=[]) (m:=[0]) (keep:=[8]) (st2:=(f12r1n3E ba1 bj2 (.norm v98)).2) (by kernel_rfl) an rfl
inductive f12r1n0O where
 | ret (v107:Int) (v108:List Qa)
def f12r1n0E(a1 a2:Qj):f12r1n0O→Ex×Tr×Hp
 | .ret v107 v108=>(.ret,mkS [(4,(.own 0)),(5,(jI v107))],[jR 4 Qa.cells v108])
def f12r1n0S(a1 a2:Qj):Tr×Hp:=(Qae [(jA Qj.cells a1),(jA Qj.cells a2)] 0 .leaf,[])
noncomputable def f12r1n0(a1 a2:Qj):Option f12r1n0O :=
 (f15 a1).bind fun x6 =>
 bif decide (x6=0) then
  (f15 a2).bind fun x12 =>
  bif decide (x12=0) then
   bif decide (a1.From=a2.From) then
    bif decide (a1.To=a2.To) then
     (f12r1n1 a1 a2).bind fun o58=>match o58 with
     | .norm v60=>(f12r1n3 a1 v60).bind fun o100=>match o100 with
      | .norm v102=>(f37r1 v102).bind fun x105 =>
       some (.ret 0 x105)
    else
     some (.ret 2 [])
   else
    some (.ret 2 [])
  else
   some (.ret x12 [])
 else
  some (.ret x6 [])
theorem f12r1n0_ok(a1 a2:Qj){o:f12r1n0O}(h:f12r1n0 a1 a2=some o):T Tryd.prog Tryd.f12.ntmps 0 c12 (f12r1n0S a1 a2) (·=f12r1n0E a1 a2 o):=by
 unfold f12r1n0 at h;obtain ⟨x6,h7,h⟩:=Qe h;rcases Qg h with ⟨h8,h⟩|⟨h8,h⟩
 ·obtain ⟨x12,h13,h⟩:=Qe h;rcases Qg h with ⟨h14,h⟩|⟨h14,h⟩
  ·rcases Qg h with ⟨h17,h⟩|⟨h17,h⟩
   ·rcases Qg h with ⟨h18,h⟩|⟨h18,h⟩
    ·refine rN Qh 5 [j3,([],[jH 1 (jI x6)],[]),j3,([],[jH 1 (jI x12)],[]),j3,(jF [6,7,8,9,10],[(11,.bool false)],[]),j3] [some false,some false,some false] [] [0,1,2] [2,3,8] (f12r1n1S a1 a2) (ap (f15_ok a1 h7) (ap (Qm h8) (ap (f15_ok a2 h13) (ap (Qm h14) (ap2 (Qm h17) (ap4 (Qm h17) (ap (Qm h18) an))))))) ?_;obtain ⟨o58,h59,h⟩:=Qe h;cases o58 with
     | norm v60 =>
      refine T.oneN (by kernel_rfl) (f12r1n1_ok a1 a2 h59) (st2:=(f12r1n1E a1 a2 (.norm v60)).2) rfl ?_;refine rN Qh 0 [] [] [] [0,1] [2,8] (f12r1n3S a1 v60) an ?_;obtain ⟨o100,h101,h⟩:=Qe h;cases o100 with
      | norm v102 =>
       refine T.oneN (by kernel_rfl) (f12r1n3_ok a1 v60 h101) (st2:=(f12r1n3E a1 v60 (.norm v102)).2) rfl ?_;obtain ⟨x105,h106,h⟩:=Qe h;obtain rfl:=Qd h;exact rE Qh [([],[(1,.call (.own 1) [some (.map (v102.map (mkv (pAgg Key_.cells) (pAgg Qa.cells)))),jR 4 Qa.cells x105])],[])] [] [] [1] [4,5] (.ret,(f12r1n0E a1 a2 (.ret 0 x105)).2) (ap (f37r1_ok v102 h106) an) rfl
    ·obtain rfl:=Qd h;exact rK Qh 4 [j3,([],[jH 1 (jI x6)],[]),j3,([],[jH 1 (jI x12)],[]),j3,(jF [6,7,8,9,10],[(11,.bool false)],[]),j3] [some false,some false,some true] [.mat 4 4] [2] [4,5] .ret ((f12r1n0E a1 a2 (.ret 2 [])).2) (ap (f15_ok a1 h7) (ap (Qm h8) (ap (f15_ok a2 h13) (ap (Qm h14) (ap2 (Qm h17) (ap4 (Qm h17) (ap (Qx h18) an))))))) rfl
   ·obtain rfl:=Qd h;exact rK Qh 4 [j3,([],[jH 1 (jI x6)],[]),j3,([],[jH 1 (jI x12)],[]),j3,(jT [6,7,8,9,10],[(11,.bool true)],[]),j3] [some false,some false,none] [.mat 4 4] [2] [4,5] .ret ((f12r1n0E a1 a2 (.ret 2 [])).2) (ap (f15_ok a1 h7) (ap (Qm h8) (ap (f15_ok a2 h13) (ap (Qm h14) (ap2 (Qx h17) (ap4 (Qx h17) an)))))) rfl
  ·obtain rfl:=Qd h;exact rK Qh 3 [j3,([],[jH 1 (jI x6)],[]),j3,([],[jH 1 (jI x12)],[]),j3,j3] [some false,some true] [.mat 4 4] [2] [4,5] .ret ((f12r1n0E a1 a2 (.ret x12 [])).2) (ap (f15_ok a1 h7) (ap (Qm h8) (ap (f15_ok a2 h13) (ap (Qx h14) an)))) rfl
 ·obtain rfl:=Qd h;exact rK Qh 2 [j3,([],[jH 1 (jI x6)],[]),j3,j3] [some true] [.mat 4 4] [2] [4,5] .ret ((f12r1n0E a1 a2 (.ret x6 [])).2) (ap (f15_ok a1 h7) (ap (Qx h8) an)) rfl
noncomputable def f12r1(a1 a2:Qj):Option (Int×(List Qa)):=(f12r1n0 a1 a2).bind fun o=>match o with
 | .ret v107 v108=>some (v107,v108)
theorem f12r1_ok(a1 a2:Qj){r:Int×(List Qa)}(h:f12r1 a1 a2=some r):Qo Tryd.prog true 12 [(jA Qj.cells a1),(jA Qj.cells a2)] [] (.tup [(.own 0),(jI r.1)]) [jR 4 Qa.cells r.2]:=by
 unfold f12r1 at h;obtain ⟨o,ho,h⟩:=Qe h;cases o with
 | ret v107 v108 =>
  obtain rfl:=Qd h;exact Qo.shared Qh (f:=Tryd.f12) (c:=c12) (by kernel_rfl) (by kernel_rfl) (by kernel_rfl) ((f12r1n0_ok a1 a2 ho).mono fun r e=>by subst e; exact ⟨.inl rfl,by kernel_rfl,by kernel_rfl⟩)



noncomputable def c14:Code:=Tryd.f14.body.getD .skip
inductive f14n2O where
 | exit0
 | ret
def f14n2E(bk1 bk2:List Qa):f14n2O→Ex×Tr×Hp
 | .exit0=>((.exit 0),mkS [],[])
 | .ret=>(.ret,mkS [(4,(jB false))],[])
def f14n2S(bk1 bk2:List Qa)(v30:Int):Tr×Hp:=(mkS [(0,(jL 4 Qa.cells bk1)),(1,(jL 4 Qa.cells bk2)),(5,(jI v30))],[])
noncomputable def f14n2:Nat→List Qa→List Qa→Int→Option f14n2O
 | 0,_,_,_=>none
 | f+1,bk1,bk2,v30 =>
  bif decide (v30<(bk1.length:Int)) then
   (at? bk1 v30).bind fun x38 =>
   (at? bk2 v30).bind fun x40 =>
   bif (Qa.eqb x38 x40) then
    (f14n2 f bk1 bk2 (wr64 (v30+1)))
   else
    some .ret
  else
   some .exit0
theorem f14n2_ok:∀(f:Nat)(bk1 bk2:List Qa)(v30:Int){o:f14n2O},f14n2 f bk1 bk2 v30=some o→TL Tryd.prog Tryd.f14.ntmps 0 f (cL (cL (Qn 1 (cL (Qn 2 c14))))) (f14n2S bk1 bk2 v30) (·=f14n2E bk1 bk2 o)
 | 0,_,_,_,o,h=>by rw [f14n2] at h; cases h
 | f+1,bk1,bk2,v30,o,h=>by
  rw [f14n2] at h;refine TL.body (K:=fun s=>∃v30:Int,s=(f14n2S bk1 bk2 v30)∧f14n2 f bk1 bk2 v30=some o) ?_ (by rintro _ ⟨v30,rfl,hk⟩; exact f14n2_ok f _ _ _ hk);rcases Qg h with ⟨h32,h⟩|⟨h32,h⟩
  ·obtain ⟨x38,h39,h⟩:=Qe h;obtain ⟨x40,h41,h⟩:=Qe h;rcases Qg h with ⟨h42,h⟩|⟨h42,h⟩
   ·exact rE Qh [([],[],[(2,.val (jI (bk1.length:Int)))]),([],[(2,.idx (Int.toNat v30) (Qa.cells x38)),(6,.idx (Int.toNat v30) (Qa.cells x40)),(8,.bool (Qa.eqb x38 x40))],[]),j3] [some true,some false] [] [] [0,1,5] (.norm,(f14n2S bk1 bk2 (wr64 (v30+1)))) (ap (Qu (xs:=bk1) (c:=Qa.cells)) (ap h32 (ap (Qk h39).1 (ap (Qt Qa.cells (Qk h39).2) (ap (Qk h41).1 (ap (Qt Qa.cells (Qk h41).2) (ap (Qa.eqb_ok x38 x40) (ap (Qm h42) an)))))))) (Qv.norm ⟨(wr64 (v30+1)),rfl,h⟩)
   ·obtain rfl:=Qd h;exact rK Qh 2 [([],[],[(2,.val (jI (bk1.length:Int)))]),([],[(2,.idx (Int.toNat v30) (Qa.cells x38)),(6,.idx (Int.toNat v30) (Qa.cells x40)),(8,.bool (Qa.eqb x38 x40))],[]),j3] [some true,some true] [] [] [4] .ret ((f14n2E bk1 bk2 .ret).2) (ap (Qu (xs:=bk1) (c:=Qa.cells)) (ap h32 (ap (Qk h39).1 (ap (Qt Qa.cells (Qk h39).2) (ap (Qk h41).1 (ap (Qt Qa.cells (Qk h41).2) (ap (Qa.eqb_ok x38 x40) (ap (Qx h42) an)))))))) (Qv.out rfl rfl)
  ·obtain rfl:=Qd h;exact rK Qh 1 [([],[],[(2,.val (jI (bk1.length:Int)))])] [some false] [] [] [] (.exit 0) ((f14n2E bk1 bk2 .exit0).2) (ap (Qu (xs:=bk1) (c:=Qa.cells)) (ap h32 an)) (Qv.out rfl rfl)
inductive f14n1O where
 | norm
 | ret
def f14n1E(bk1 bk2:List Qa):f14n1O→Ex×Tr×Hp
 | .norm=>(.norm,mkS [],[])
 | .ret=>(.ret,mkS [(4,(jB false))],[])
def f14n1S(bk1 bk2:List Qa):Tr×Hp:=(mkS [(0,(jL 4 Qa.cells bk1)),(1,(jL 4 Qa.cells bk2))],[])
noncomputable def f14n1(bk1 bk2:List Qa):Option f14n1O :=
 (f14n2 FUEL bk1 bk2 0).bind fun o43=>match o43 with
 | .exit0=>some .norm
 | .ret=>some .ret
theorem f14n1_ok(bk1 bk2:List Qa){o:f14n1O}(h:f14n1 bk1 bk2=some o):T Tryd.prog Tryd.f14.ntmps 0 (cL (Qn 2 c14)) (f14n1S bk1 bk2) (·=f14n1E bk1 bk2 o):=by
 unfold f14n1 at h;refine rN Qh 1 [j3] [] [] [] [0,1,5] (f14n2S bk1 bk2 0) an ?_;obtain ⟨o43,h44,h⟩:=Qe h;cases o43 with
 | exit0 =>
  obtain rfl:=Qd h;exact T.last' (T.bl (i:=0) (by kernel_rfl) (by kernel_rfl) (f14n2_ok FUEL bk1 bk2 0 h44)) (tds:=[]) (m:=[]) (keep:=[]) (st2:=(f14n1E bk1 bk2 .norm).2) (by kernel_rfl) an rfl
 | ret =>
  obtain rfl:=Qd h;exact T.last' (T.bl (i:=0) (by kernel_rfl) (by kernel_rfl) (f14n2_ok FUEL bk1 bk2 0 h44)) (tds:=[]) (m:=[]) (keep:=[4]) (st2:=(f14n1E bk1 bk2 .ret).2) (by kernel_rfl) an rfl
inductive f14n0O where
 | ret (v47:Bool)
def f14n0E(a1 a2:List Qa):f14n0O→Ex×Tr×Hp
 | .ret v47=>(.ret,mkS [(4,(jB v47))],[])
def f14n0S(a1 a2:List Qa):Tr×Hp:=(Qae [(jL 4 Qa.cells a1),(jL 4 Qa.cells a2)] 0 .leaf,[])
noncomputable def f14n0(a1 a2:List Qa):Option f14n0O :=
 bif decide ((a1.length:Int)=(a2.length:Int)) then
  (f14n1 a1 a2).bind fun o45=>match o45 with
  | .norm=>some (.ret true)
  | .ret=>some (.ret false)
 else
  some (.ret false)
theorem f14n0_ok(a1 a2:List Qa){o:f14n0O}(h:f14n0 a1 a2=some o):T Tryd.prog Tryd.f14.ntmps 0 c14 (f14n0S a1 a2) (·=f14n0E a1 a2 o):=by
 unfold f14n0 at h;rcases Qg h with ⟨h4,h⟩|⟨h4,h⟩
 ·refine rN Qh 2 [j3,([],[],[(1,.val (jI (a1.length:Int))),(3,.val (jI (a2.length:Int)))])] [some false] [] [] [0,1] (f14n1S a1 a2) (ap (Qu (xs:=a1) (c:=Qa.cells)) (ap (Qu (xs:=a2) (c:=Qa.cells)) (ap (Qm h4) an))) ?_;obtain ⟨o45,h46,h⟩:=Qe h;cases o45 with
  | norm =>
   refine T.oneN (by kernel_rfl) (f14n1_ok a1 a2 h46) (st2:=(f14n1E a1 a2 .norm).2) rfl ?_;obtain rfl:=Qd h;exact rE Qh [j3] [] [] [] [4] (.ret,(f14n0E a1 a2 (.ret true)).2) an rfl
  | ret =>
   obtain rfl:=Qd h;exact T.oneX' (by kernel_rfl) (f14n1_ok a1 a2 h46) (tds:=[]) (m:=[]) (keep:=[4]) (st2:=(f14n0E a1 a2 (.ret false)).2) (by kernel_rfl) an rfl rfl
 ·obtain rfl:=Qd h;exact rK Qh 2 [j3,([],[],[(1,.val (jI (a1.length:Int))),(3,.val (jI (a2.length:Int)))]),j3] [some true] [] [] [4] .ret ((f14n0E a1 a2 (.ret false)).2) (ap (Qu (xs:=a1) (c:=Qa.cells)) (ap (Qu (xs:=a2) (c:=Qa.cells)) (ap (Qx h4) an))) rfl
noncomputable def f14(a1 a2:List Qa):Option Bool:=(f14n0 a1 a2).bind fun o=>match o with
 | .ret v47=>some v47
theorem f14_ok(a1 a2:List Qa){r:Bool}(h:f14 a1 a2=some r):Qo Tryd.prog false 14 [(jL 4 Qa.cells a1),(jL 4 Qa.cells a2)] [] (jB r) []:=by
 unfold f14 at h;obtain ⟨o,ho,h⟩:=Qe h;cases o with
 | ret v47 =>
  obtain rfl:=Qd h;exact Qo.plain Qh (f:=Tryd.f14) (c:=c14) (by kernel_rfl) (by kernel_rfl) (by kernel_rfl) (by kernel_rfl) ((f14n0_ok a1 a2 ho).mono fun r e=>by subst e; exact ⟨.inl rfl,(jB v47),(jB v47),by kernel_rfl,by kernel_rfl,((Wk.refl _):Wk (jB v47) (jB v47))⟩)

noncomputable def c3:Code:=Tryd.f3.body.getD .skip
end Go.Proofs.YtfeklaffeigilaaDoor
