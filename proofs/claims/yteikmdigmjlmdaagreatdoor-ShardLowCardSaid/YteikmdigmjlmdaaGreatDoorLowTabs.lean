/-
  ShardLow's tables: the evaluator's code of the functions on its road, by numbers, and that it is the program's.
-/
import Derived.Test.YteikmdigmjlmdaaGreatDoorLowTab0
import Derived.Test.YteikmdigmjlmdaaGreatDoorLowTab1
import Derived.Test.YteikmdigmjlmdaaGreatDoorLowTab2
import Derived.Test.YteikmdigmjlmdaaGreatDoorLowTab3
import Derived.Test.YteikmdigmjlmdaaGreatDoorLowTab4
import Derived.Test.YteikmdigmjlmdaaGreatDoorLowTab5
import Derived.Test.YteikmdigmjlmdaaGreatDoorEvClosed
import Derived.Test.YteikmdigmjlmdaaGreatDoorSyFix
import Derived.Test.YteikmdigmjlmdaaGreatDoorEvExt
import Derived.KernelRfl
namespace Go.Proofs.YteikmdigmjlmdaaGreatDoor
open Go Go.Ev
set_option maxRecDepth 100000
def Good (f : Nat) (ef : EFunc) : Prop := ∃ fn, Tryz.prog.funcs[f]? = some fn ∧ (fn.name == "runtime.NumGoroutine") = false ∧ compF Tryz.prog fn = some ef
theorem g6 : Good 6 e6 := ⟨Tryz.f6, Tryz.func6, by kernel_rfl, c6⟩
theorem g8 : Good 8 e8 := ⟨Tryz.f8, Tryz.func8, by kernel_rfl, c8⟩
theorem g10 : Good 10 e10 := ⟨Tryz.f10, Tryz.func10, by kernel_rfl, c10⟩
theorem g11 : Good 11 e11 := ⟨Tryz.f11, Tryz.func11, by kernel_rfl, c11⟩
theorem g12 : Good 12 e12 := ⟨Tryz.f12, Tryz.func12, by kernel_rfl, c12⟩
theorem g14 : Good 14 e14 := ⟨Tryz.f14, Tryz.func14, by kernel_rfl, c14⟩
theorem g19 : Good 19 e19 := ⟨Tryz.f19, Tryz.func19, by kernel_rfl, c19⟩
theorem g24 : Good 24 e24 := ⟨Tryz.f24, Tryz.func24, by kernel_rfl, c24⟩
theorem g25 : Good 25 e25 := ⟨Tryz.f25, Tryz.func25, by kernel_rfl, c25⟩
theorem g26 : Good 26 e26 := ⟨Tryz.f26, Tryz.func26, by kernel_rfl, c26⟩
theorem g27 : Good 27 e27 := ⟨Tryz.f27, Tryz.func27, by kernel_rfl, c27⟩
theorem g28 : Good 28 e28 := ⟨Tryz.f28, Tryz.func28, by kernel_rfl, c28⟩
theorem g29 : Good 29 e29 := ⟨Tryz.f29, Tryz.func29, by kernel_rfl, c29⟩
theorem g30 : Good 30 e30 := ⟨Tryz.f30, Tryz.func30, by kernel_rfl, c30⟩
theorem g31 : Good 31 e31 := ⟨Tryz.f31, Tryz.func31, by kernel_rfl, c31⟩
theorem g35 : Good 35 e35 := ⟨Tryz.f35, Tryz.func35, by kernel_rfl, c35⟩
theorem g41 : Good 41 e41 := ⟨Tryz.f41, Tryz.func41, by kernel_rfl, c41⟩
theorem g42 : Good 42 e42 := ⟨Tryz.f42, Tryz.func42, by kernel_rfl, c42⟩
theorem g50 : Good 50 e50 := ⟨Tryz.f50, Tryz.func50, by kernel_rfl, c50⟩
theorem g51 : Good 51 e51 := ⟨Tryz.f51, Tryz.func51, by kernel_rfl, c51⟩
theorem g52 : Good 52 e52 := ⟨Tryz.f52, Tryz.func52, by kernel_rfl, c52⟩
theorem g53 : Good 53 e53 := ⟨Tryz.f53, Tryz.func53, by kernel_rfl, c53⟩
theorem g54 : Good 54 e54 := ⟨Tryz.f54, Tryz.func54, by kernel_rfl, c54⟩
theorem g55 : Good 55 e55 := ⟨Tryz.f55, Tryz.func55, by kernel_rfl, c55⟩
theorem g57 : Good 57 e57 := ⟨Tryz.f57, Tryz.func57, by kernel_rfl, c57⟩
theorem g61 : Good 61 e61 := ⟨Tryz.f61, Tryz.func61, by kernel_rfl, c61⟩
theorem g62 : Good 62 e62 := ⟨Tryz.f62, Tryz.func62, by kernel_rfl, c62⟩
theorem g68 : Good 68 e68 := ⟨Tryz.f68, Tryz.func68, by kernel_rfl, c68⟩
theorem g69 : Good 69 e69 := ⟨Tryz.f69, Tryz.func69, by kernel_rfl, c69⟩
theorem g70 : Good 70 e70 := ⟨Tryz.f70, Tryz.func70, by kernel_rfl, c70⟩
theorem g71 : Good 71 e71 := ⟨Tryz.f71, Tryz.func71, by kernel_rfl, c71⟩
theorem g72 : Good 72 e72 := ⟨Tryz.f72, Tryz.func72, by kernel_rfl, c72⟩
theorem g73 : Good 73 e73 := ⟨Tryz.f73, Tryz.func73, by kernel_rfl, c73⟩
theorem g74 : Good 74 e74 := ⟨Tryz.f74, Tryz.func74, by kernel_rfl, c74⟩
theorem g75 : Good 75 e75 := ⟨Tryz.f75, Tryz.func75, by kernel_rfl, c75⟩
theorem g76 : Good 76 e76 := ⟨Tryz.f76, Tryz.func76, by kernel_rfl, c76⟩
theorem g77 : Good 77 e77 := ⟨Tryz.f77, Tryz.func77, by kernel_rfl, c77⟩
theorem g82 : Good 82 e82 := ⟨Tryz.f82, Tryz.func82, by kernel_rfl, c82⟩
theorem g83 : Good 83 e83 := ⟨Tryz.f83, Tryz.func83, by kernel_rfl, c83⟩
theorem g84 : Good 84 e84 := ⟨Tryz.f84, Tryz.func84, by kernel_rfl, c84⟩
theorem g85 : Good 85 e85 := ⟨Tryz.f85, Tryz.func85, by kernel_rfl, c85⟩
theorem g91 : Good 91 e91 := ⟨Tryz.f91, Tryz.func91, by kernel_rfl, c91⟩
theorem g92 : Good 92 e92 := ⟨Tryz.f92, Tryz.func92, by kernel_rfl, c92⟩
theorem g93 : Good 93 e93 := ⟨Tryz.f93, Tryz.func93, by kernel_rfl, c93⟩
theorem g94 : Good 94 e94 := ⟨Tryz.f94, Tryz.func94, by kernel_rfl, c94⟩
theorem g95 : Good 95 e95 := ⟨Tryz.f95, Tryz.func95, by kernel_rfl, c95⟩
theorem g96 : Good 96 e96 := ⟨Tryz.f96, Tryz.func96, by kernel_rfl, c96⟩
theorem g97 : Good 97 e97 := ⟨Tryz.f97, Tryz.func97, by kernel_rfl, c97⟩
theorem g98 : Good 98 e98 := ⟨Tryz.f98, Tryz.func98, by kernel_rfl, c98⟩
theorem g99 : Good 99 e99 := ⟨Tryz.f99, Tryz.func99, by kernel_rfl, c99⟩
theorem g101 : Good 101 e101 := ⟨Tryz.f101, Tryz.func101, by kernel_rfl, c101⟩
theorem g102 : Good 102 e102 := ⟨Tryz.f102, Tryz.func102, by kernel_rfl, c102⟩
theorem g103 : Good 103 e103 := ⟨Tryz.f103, Tryz.func103, by kernel_rfl, c103⟩
theorem g104 : Good 104 e104 := ⟨Tryz.f104, Tryz.func104, by kernel_rfl, c104⟩
theorem g106 : Good 106 e106 := ⟨Tryz.f106, Tryz.func106, by kernel_rfl, c106⟩
theorem g108 : Good 108 e108 := ⟨Tryz.f108, Tryz.func108, by kernel_rfl, c108⟩
theorem g110 : Good 110 e110 := ⟨Tryz.f110, Tryz.func110, by kernel_rfl, c110⟩
theorem g112 : Good 112 e112 := ⟨Tryz.f112, Tryz.func112, by kernel_rfl, c112⟩
theorem g113 : Good 113 e113 := ⟨Tryz.f113, Tryz.func113, by kernel_rfl, c113⟩
theorem g114 : Good 114 e114 := ⟨Tryz.f114, Tryz.func114, by kernel_rfl, c114⟩
theorem g119 : Good 119 e119 := ⟨Tryz.f119, Tryz.func119, by kernel_rfl, c119⟩
theorem g120 : Good 120 e120 := ⟨Tryz.f120, Tryz.func120, by kernel_rfl, c120⟩
theorem g121 : Good 121 e121 := ⟨Tryz.f121, Tryz.func121, by kernel_rfl, c121⟩
theorem g122 : Good 122 e122 := ⟨Tryz.f122, Tryz.func122, by kernel_rfl, c122⟩
theorem g123 : Good 123 e123 := ⟨Tryz.f123, Tryz.func123, by kernel_rfl, c123⟩
theorem g124 : Good 124 e124 := ⟨Tryz.f124, Tryz.func124, by kernel_rfl, c124⟩
theorem g128 : Good 128 e128 := ⟨Tryz.f128, Tryz.func128, by kernel_rfl, c128⟩
theorem g129 : Good 129 e129 := ⟨Tryz.f129, Tryz.func129, by kernel_rfl, c129⟩
theorem g130 : Good 130 e130 := ⟨Tryz.f130, Tryz.func130, by kernel_rfl, c130⟩
theorem g131 : Good 131 e131 := ⟨Tryz.f131, Tryz.func131, by kernel_rfl, c131⟩
theorem g135 : Good 135 e135 := ⟨Tryz.f135, Tryz.func135, by kernel_rfl, c135⟩
theorem g136 : Good 136 e136 := ⟨Tryz.f136, Tryz.func136, by kernel_rfl, c136⟩
theorem g137 : Good 137 e137 := ⟨Tryz.f137, Tryz.func137, by kernel_rfl, c137⟩
theorem g138 : Good 138 e138 := ⟨Tryz.f138, Tryz.func138, by kernel_rfl, c138⟩
theorem g139 : Good 139 e139 := ⟨Tryz.f139, Tryz.func139, by kernel_rfl, c139⟩
theorem g142 : Good 142 e142 := ⟨Tryz.f142, Tryz.func142, by kernel_rfl, c142⟩
theorem g143 : Good 143 e143 := ⟨Tryz.f143, Tryz.func143, by kernel_rfl, c143⟩
theorem g145 : Good 145 e145 := ⟨Tryz.f145, Tryz.func145, by kernel_rfl, c145⟩
theorem g146 : Good 146 e146 := ⟨Tryz.f146, Tryz.func146, by kernel_rfl, c146⟩
theorem g147 : Good 147 e147 := ⟨Tryz.f147, Tryz.func147, by kernel_rfl, c147⟩
theorem g148 : Good 148 e148 := ⟨Tryz.f148, Tryz.func148, by kernel_rfl, c148⟩
theorem g149 : Good 149 e149 := ⟨Tryz.f149, Tryz.func149, by kernel_rfl, c149⟩
theorem g151 : Good 151 e151 := ⟨Tryz.f151, Tryz.func151, by kernel_rfl, c151⟩
theorem g152 : Good 152 e152 := ⟨Tryz.f152, Tryz.func152, by kernel_rfl, c152⟩
theorem g153 : Good 153 e153 := ⟨Tryz.f153, Tryz.func153, by kernel_rfl, c153⟩
theorem g154 : Good 154 e154 := ⟨Tryz.f154, Tryz.func154, by kernel_rfl, c154⟩
theorem g155 : Good 155 e155 := ⟨Tryz.f155, Tryz.func155, by kernel_rfl, c155⟩
theorem g156 : Good 156 e156 := ⟨Tryz.f156, Tryz.func156, by kernel_rfl, c156⟩
theorem g157 : Good 157 e157 := ⟨Tryz.f157, Tryz.func157, by kernel_rfl, c157⟩
theorem g159 : Good 159 e159 := ⟨Tryz.f159, Tryz.func159, by kernel_rfl, c159⟩
theorem g160 : Good 160 e160 := ⟨Tryz.f160, Tryz.func160, by kernel_rfl, c160⟩
theorem g161 : Good 161 e161 := ⟨Tryz.f161, Tryz.func161, by kernel_rfl, c161⟩
theorem g164 : Good 164 e164 := ⟨Tryz.f164, Tryz.func164, by kernel_rfl, c164⟩
theorem g165 : Good 165 e165 := ⟨Tryz.f165, Tryz.func165, by kernel_rfl, c165⟩
theorem g167 : Good 167 e167 := ⟨Tryz.f167, Tryz.func167, by kernel_rfl, c167⟩
theorem g168 : Good 168 e168 := ⟨Tryz.f168, Tryz.func168, by kernel_rfl, c168⟩
theorem g171 : Good 171 e171 := ⟨Tryz.f171, Tryz.func171, by kernel_rfl, c171⟩
theorem g172 : Good 172 e172 := ⟨Tryz.f172, Tryz.func172, by kernel_rfl, c172⟩
theorem g173 : Good 173 e173 := ⟨Tryz.f173, Tryz.func173, by kernel_rfl, c173⟩
theorem g174 : Good 174 e174 := ⟨Tryz.f174, Tryz.func174, by kernel_rfl, c174⟩
theorem g175 : Good 175 e175 := ⟨Tryz.f175, Tryz.func175, by kernel_rfl, c175⟩
theorem g176 : Good 176 e176 := ⟨Tryz.f176, Tryz.func176, by kernel_rfl, c176⟩
theorem g177 : Good 177 e177 := ⟨Tryz.f177, Tryz.func177, by kernel_rfl, c177⟩
theorem g178 : Good 178 e178 := ⟨Tryz.f178, Tryz.func178, by kernel_rfl, c178⟩
theorem g179 : Good 179 e179 := ⟨Tryz.f179, Tryz.func179, by kernel_rfl, c179⟩
theorem g184 : Good 184 e184 := ⟨Tryz.f184, Tryz.func184, by kernel_rfl, c184⟩
theorem g187 : Good 187 e187 := ⟨Tryz.f187, Tryz.func187, by kernel_rfl, c187⟩
theorem g188 : Good 188 e188 := ⟨Tryz.f188, Tryz.func188, by kernel_rfl, c188⟩
theorem g189 : Good 189 e189 := ⟨Tryz.f189, Tryz.func189, by kernel_rfl, c189⟩
theorem g190 : Good 190 e190 := ⟨Tryz.f190, Tryz.func190, by kernel_rfl, c190⟩
theorem g191 : Good 191 e191 := ⟨Tryz.f191, Tryz.func191, by kernel_rfl, c191⟩
theorem g192 : Good 192 e192 := ⟨Tryz.f192, Tryz.func192, by kernel_rfl, c192⟩
theorem g193 : Good 193 e193 := ⟨Tryz.f193, Tryz.func193, by kernel_rfl, c193⟩
theorem g194 : Good 194 e194 := ⟨Tryz.f194, Tryz.func194, by kernel_rfl, c194⟩
theorem g197 : Good 197 e197 := ⟨Tryz.f197, Tryz.func197, by kernel_rfl, c197⟩
theorem g198 : Good 198 e198 := ⟨Tryz.f198, Tryz.func198, by kernel_rfl, c198⟩
theorem g199 : Good 199 e199 := ⟨Tryz.f199, Tryz.func199, by kernel_rfl, c199⟩
theorem g200 : Good 200 e200 := ⟨Tryz.f200, Tryz.func200, by kernel_rfl, c200⟩
theorem g201 : Good 201 e201 := ⟨Tryz.f201, Tryz.func201, by kernel_rfl, c201⟩
theorem g204 : Good 204 e204 := ⟨Tryz.f204, Tryz.func204, by kernel_rfl, c204⟩
theorem g205 : Good 205 e205 := ⟨Tryz.f205, Tryz.func205, by kernel_rfl, c205⟩
theorem g206 : Good 206 e206 := ⟨Tryz.f206, Tryz.func206, by kernel_rfl, c206⟩
theorem g209 : Good 209 e209 := ⟨Tryz.f209, Tryz.func209, by kernel_rfl, c209⟩
theorem g211 : Good 211 e211 := ⟨Tryz.f211, Tryz.func211, by kernel_rfl, c211⟩
theorem g213 : Good 213 e213 := ⟨Tryz.f213, Tryz.func213, by kernel_rfl, c213⟩
theorem g216 : Good 216 e216 := ⟨Tryz.f216, Tryz.func216, by kernel_rfl, c216⟩
theorem g217 : Good 217 e217 := ⟨Tryz.f217, Tryz.func217, by kernel_rfl, c217⟩
theorem g218 : Good 218 e218 := ⟨Tryz.f218, Tryz.func218, by kernel_rfl, c218⟩
theorem g219 : Good 219 e219 := ⟨Tryz.f219, Tryz.func219, by kernel_rfl, c219⟩
theorem g220 : Good 220 e220 := ⟨Tryz.f220, Tryz.func220, by kernel_rfl, c220⟩
theorem g223 : Good 223 e223 := ⟨Tryz.f223, Tryz.func223, by kernel_rfl, c223⟩
theorem g224 : Good 224 e224 := ⟨Tryz.f224, Tryz.func224, by kernel_rfl, c224⟩
theorem g225 : Good 225 e225 := ⟨Tryz.f225, Tryz.func225, by kernel_rfl, c225⟩
theorem g226 : Good 226 e226 := ⟨Tryz.f226, Tryz.func226, by kernel_rfl, c226⟩
theorem g227 : Good 227 e227 := ⟨Tryz.f227, Tryz.func227, by kernel_rfl, c227⟩
theorem g228 : Good 228 e228 := ⟨Tryz.f228, Tryz.func228, by kernel_rfl, c228⟩
theorem g229 : Good 229 e229 := ⟨Tryz.f229, Tryz.func229, by kernel_rfl, c229⟩
theorem g241 : Good 241 e241 := ⟨Tryz.f241, Tryz.func241, by kernel_rfl, c241⟩
theorem g248 : Good 248 e248 := ⟨Tryz.f248, Tryz.func248, by kernel_rfl, c248⟩
def lowL : List (Nat × EFunc) := [(6, e6), (11, e11), (14, e14), (19, e19), (24, e24), (26, e26), (27, e27), (28, e28), (29, e29), (30, e30), (31, e31), (35, e35), (41, e41), (42, e42), (50, e50), (51, e51), (52, e52), (53, e53), (54, e54), (55, e55), (57, e57), (68, e68), (69, e69), (70, e70), (71, e71), (72, e72), (73, e73), (74, e74), (75, e75), (76, e76), (77, e77), (82, e82), (83, e83), (84, e84), (85, e85), (91, e91), (92, e92), (93, e93), (94, e94), (95, e95), (96, e96), (97, e97), (98, e98), (99, e99), (101, e101), (102, e102), (103, e103), (104, e104), (106, e106), (113, e113), (119, e119), (120, e120), (121, e121), (122, e122), (123, e123), (124, e124), (128, e128), (129, e129), (130, e130), (131, e131), (135, e135), (136, e136), (137, e137), (138, e138), (139, e139), (142, e142), (143, e143), (145, e145), (146, e146), (149, e149), (151, e151), (152, e152), (154, e154), (155, e155), (156, e156), (157, e157), (159, e159), (160, e160), (161, e161), (164, e164), (177, e177), (184, e184), (188, e188), (189, e189), (190, e190), (191, e191), (192, e192), (193, e193), (197, e197), (198, e198), (199, e199), (201, e201), (204, e204), (205, e205), (206, e206), (209, e209), (211, e211), (213, e213), (216, e216), (217, e217), (218, e218), (219, e219), (223, e223), (224, e224), (225, e225), (226, e226), (227, e227), (228, e228), (229, e229), (241, e241), (248, e248)]
theorem lowL_good : ∀ p ∈ lowL, Good p.1 p.2 := by
  unfold lowL
  exact List.forall_mem_cons.2 ⟨g6, List.forall_mem_cons.2 ⟨g11, List.forall_mem_cons.2 ⟨g14, List.forall_mem_cons.2 ⟨g19, List.forall_mem_cons.2 ⟨g24, List.forall_mem_cons.2 ⟨g26, List.forall_mem_cons.2 ⟨g27, List.forall_mem_cons.2 ⟨g28, List.forall_mem_cons.2 ⟨g29, List.forall_mem_cons.2 ⟨g30, List.forall_mem_cons.2 ⟨g31, List.forall_mem_cons.2 ⟨g35, List.forall_mem_cons.2 ⟨g41, List.forall_mem_cons.2 ⟨g42, List.forall_mem_cons.2 ⟨g50, List.forall_mem_cons.2 ⟨g51, List.forall_mem_cons.2 ⟨g52, List.forall_mem_cons.2 ⟨g53, List.forall_mem_cons.2 ⟨g54, List.forall_mem_cons.2 ⟨g55, List.forall_mem_cons.2 ⟨g57, List.forall_mem_cons.2 ⟨g68, List.forall_mem_cons.2 ⟨g69, List.forall_mem_cons.2 ⟨g70, List.forall_mem_cons.2 ⟨g71, List.forall_mem_cons.2 ⟨g72, List.forall_mem_cons.2 ⟨g73, List.forall_mem_cons.2 ⟨g74, List.forall_mem_cons.2 ⟨g75, List.forall_mem_cons.2 ⟨g76, List.forall_mem_cons.2 ⟨g77, List.forall_mem_cons.2 ⟨g82, List.forall_mem_cons.2 ⟨g83, List.forall_mem_cons.2 ⟨g84, List.forall_mem_cons.2 ⟨g85, List.forall_mem_cons.2 ⟨g91, List.forall_mem_cons.2 ⟨g92, List.forall_mem_cons.2 ⟨g93, List.forall_mem_cons.2 ⟨g94, List.forall_mem_cons.2 ⟨g95, List.forall_mem_cons.2 ⟨g96, List.forall_mem_cons.2 ⟨g97, List.forall_mem_cons.2 ⟨g98, List.forall_mem_cons.2 ⟨g99, List.forall_mem_cons.2 ⟨g101, List.forall_mem_cons.2 ⟨g102, List.forall_mem_cons.2 ⟨g103, List.forall_mem_cons.2 ⟨g104, List.forall_mem_cons.2 ⟨g106, List.forall_mem_cons.2 ⟨g113, List.forall_mem_cons.2 ⟨g119, List.forall_mem_cons.2 ⟨g120, List.forall_mem_cons.2 ⟨g121, List.forall_mem_cons.2 ⟨g122, List.forall_mem_cons.2 ⟨g123, List.forall_mem_cons.2 ⟨g124, List.forall_mem_cons.2 ⟨g128, List.forall_mem_cons.2 ⟨g129, List.forall_mem_cons.2 ⟨g130, List.forall_mem_cons.2 ⟨g131, List.forall_mem_cons.2 ⟨g135, List.forall_mem_cons.2 ⟨g136, List.forall_mem_cons.2 ⟨g137, List.forall_mem_cons.2 ⟨g138, List.forall_mem_cons.2 ⟨g139, List.forall_mem_cons.2 ⟨g142, List.forall_mem_cons.2 ⟨g143, List.forall_mem_cons.2 ⟨g145, List.forall_mem_cons.2 ⟨g146, List.forall_mem_cons.2 ⟨g149, List.forall_mem_cons.2 ⟨g151, List.forall_mem_cons.2 ⟨g152, List.forall_mem_cons.2 ⟨g154, List.forall_mem_cons.2 ⟨g155, List.forall_mem_cons.2 ⟨g156, List.forall_mem_cons.2 ⟨g157, List.forall_mem_cons.2 ⟨g159, List.forall_mem_cons.2 ⟨g160, List.forall_mem_cons.2 ⟨g161, List.forall_mem_cons.2 ⟨g164, List.forall_mem_cons.2 ⟨g177, List.forall_mem_cons.2 ⟨g184, List.forall_mem_cons.2 ⟨g188, List.forall_mem_cons.2 ⟨g189, List.forall_mem_cons.2 ⟨g190, List.forall_mem_cons.2 ⟨g191, List.forall_mem_cons.2 ⟨g192, List.forall_mem_cons.2 ⟨g193, List.forall_mem_cons.2 ⟨g197, List.forall_mem_cons.2 ⟨g198, List.forall_mem_cons.2 ⟨g199, List.forall_mem_cons.2 ⟨g201, List.forall_mem_cons.2 ⟨g204, List.forall_mem_cons.2 ⟨g205, List.forall_mem_cons.2 ⟨g206, List.forall_mem_cons.2 ⟨g209, List.forall_mem_cons.2 ⟨g211, List.forall_mem_cons.2 ⟨g213, List.forall_mem_cons.2 ⟨g216, List.forall_mem_cons.2 ⟨g217, List.forall_mem_cons.2 ⟨g218, List.forall_mem_cons.2 ⟨g219, List.forall_mem_cons.2 ⟨g223, List.forall_mem_cons.2 ⟨g224, List.forall_mem_cons.2 ⟨g225, List.forall_mem_cons.2 ⟨g226, List.forall_mem_cons.2 ⟨g227, List.forall_mem_cons.2 ⟨g228, List.forall_mem_cons.2 ⟨g229, List.forall_mem_cons.2 ⟨g241, List.forall_mem_cons.2 ⟨g248, List.forall_mem_nil _⟩⟩⟩⟩⟩⟩⟩⟩⟩⟩⟩⟩⟩⟩⟩⟩⟩⟩⟩⟩⟩⟩⟩⟩⟩⟩⟩⟩⟩⟩⟩⟩⟩⟩⟩⟩⟩⟩⟩⟩⟩⟩⟩⟩⟩⟩⟩⟩⟩⟩⟩⟩⟩⟩⟩⟩⟩⟩⟩⟩⟩⟩⟩⟩⟩⟩⟩⟩⟩⟩⟩⟩⟩⟩⟩⟩⟩⟩⟩⟩⟩⟩⟩⟩⟩⟩⟩⟩⟩⟩⟩⟩⟩⟩⟩⟩⟩⟩⟩⟩⟩⟩⟩⟩⟩⟩⟩⟩⟩⟩⟩
def awkL : List (Nat × EFunc) := [(8, e8), (10, e10), (11, e11), (12, e12), (14, e14), (19, e19), (24, e24), (26, e26), (27, e27), (29, e29), (30, e30), (31, e31), (35, e35), (41, e41), (42, e42), (50, e50), (51, e51), (52, e52), (53, e53), (54, e54), (55, e55), (57, e57), (61, e61), (62, e62), (68, e68), (69, e69), (70, e70), (71, e71), (72, e72), (73, e73), (76, e76), (77, e77), (82, e82), (83, e83), (84, e84), (85, e85), (91, e91), (92, e92), (93, e93), (94, e94), (95, e95), (96, e96), (97, e97), (98, e98), (99, e99), (101, e101), (102, e102), (103, e103), (104, e104), (106, e106), (108, e108), (110, e110), (112, e112), (113, e113), (114, e114), (119, e119), (120, e120), (121, e121), (122, e122), (123, e123), (124, e124), (128, e128), (129, e129), (130, e130), (131, e131), (135, e135), (136, e136), (137, e137), (138, e138), (139, e139), (142, e142), (143, e143), (145, e145), (146, e146), (147, e147), (148, e148), (149, e149), (151, e151), (152, e152), (153, e153), (154, e154), (155, e155), (156, e156), (157, e157), (159, e159), (160, e160), (161, e161), (164, e164), (165, e165), (167, e167), (168, e168), (171, e171), (172, e172), (173, e173), (174, e174), (175, e175), (176, e176), (177, e177), (178, e178), (179, e179), (184, e184), (187, e187), (188, e188), (189, e189), (190, e190), (191, e191), (192, e192), (193, e193), (194, e194), (197, e197), (198, e198), (199, e199), (200, e200), (201, e201), (204, e204), (205, e205), (206, e206), (209, e209), (211, e211), (213, e213), (216, e216), (217, e217), (218, e218), (219, e219), (220, e220), (223, e223), (224, e224), (225, e225), (226, e226), (227, e227), (228, e228), (229, e229), (241, e241), (248, e248)]
theorem awkL_good : ∀ p ∈ awkL, Good p.1 p.2 := by
  unfold awkL
  exact List.forall_mem_cons.2 ⟨g8, List.forall_mem_cons.2 ⟨g10, List.forall_mem_cons.2 ⟨g11, List.forall_mem_cons.2 ⟨g12, List.forall_mem_cons.2 ⟨g14, List.forall_mem_cons.2 ⟨g19, List.forall_mem_cons.2 ⟨g24, List.forall_mem_cons.2 ⟨g26, List.forall_mem_cons.2 ⟨g27, List.forall_mem_cons.2 ⟨g29, List.forall_mem_cons.2 ⟨g30, List.forall_mem_cons.2 ⟨g31, List.forall_mem_cons.2 ⟨g35, List.forall_mem_cons.2 ⟨g41, List.forall_mem_cons.2 ⟨g42, List.forall_mem_cons.2 ⟨g50, List.forall_mem_cons.2 ⟨g51, List.forall_mem_cons.2 ⟨g52, List.forall_mem_cons.2 ⟨g53, List.forall_mem_cons.2 ⟨g54, List.forall_mem_cons.2 ⟨g55, List.forall_mem_cons.2 ⟨g57, List.forall_mem_cons.2 ⟨g61, List.forall_mem_cons.2 ⟨g62, List.forall_mem_cons.2 ⟨g68, List.forall_mem_cons.2 ⟨g69, List.forall_mem_cons.2 ⟨g70, List.forall_mem_cons.2 ⟨g71, List.forall_mem_cons.2 ⟨g72, List.forall_mem_cons.2 ⟨g73, List.forall_mem_cons.2 ⟨g76, List.forall_mem_cons.2 ⟨g77, List.forall_mem_cons.2 ⟨g82, List.forall_mem_cons.2 ⟨g83, List.forall_mem_cons.2 ⟨g84, List.forall_mem_cons.2 ⟨g85, List.forall_mem_cons.2 ⟨g91, List.forall_mem_cons.2 ⟨g92, List.forall_mem_cons.2 ⟨g93, List.forall_mem_cons.2 ⟨g94, List.forall_mem_cons.2 ⟨g95, List.forall_mem_cons.2 ⟨g96, List.forall_mem_cons.2 ⟨g97, List.forall_mem_cons.2 ⟨g98, List.forall_mem_cons.2 ⟨g99, List.forall_mem_cons.2 ⟨g101, List.forall_mem_cons.2 ⟨g102, List.forall_mem_cons.2 ⟨g103, List.forall_mem_cons.2 ⟨g104, List.forall_mem_cons.2 ⟨g106, List.forall_mem_cons.2 ⟨g108, List.forall_mem_cons.2 ⟨g110, List.forall_mem_cons.2 ⟨g112, List.forall_mem_cons.2 ⟨g113, List.forall_mem_cons.2 ⟨g114, List.forall_mem_cons.2 ⟨g119, List.forall_mem_cons.2 ⟨g120, List.forall_mem_cons.2 ⟨g121, List.forall_mem_cons.2 ⟨g122, List.forall_mem_cons.2 ⟨g123, List.forall_mem_cons.2 ⟨g124, List.forall_mem_cons.2 ⟨g128, List.forall_mem_cons.2 ⟨g129, List.forall_mem_cons.2 ⟨g130, List.forall_mem_cons.2 ⟨g131, List.forall_mem_cons.2 ⟨g135, List.forall_mem_cons.2 ⟨g136, List.forall_mem_cons.2 ⟨g137, List.forall_mem_cons.2 ⟨g138, List.forall_mem_cons.2 ⟨g139, List.forall_mem_cons.2 ⟨g142, List.forall_mem_cons.2 ⟨g143, List.forall_mem_cons.2 ⟨g145, List.forall_mem_cons.2 ⟨g146, List.forall_mem_cons.2 ⟨g147, List.forall_mem_cons.2 ⟨g148, List.forall_mem_cons.2 ⟨g149, List.forall_mem_cons.2 ⟨g151, List.forall_mem_cons.2 ⟨g152, List.forall_mem_cons.2 ⟨g153, List.forall_mem_cons.2 ⟨g154, List.forall_mem_cons.2 ⟨g155, List.forall_mem_cons.2 ⟨g156, List.forall_mem_cons.2 ⟨g157, List.forall_mem_cons.2 ⟨g159, List.forall_mem_cons.2 ⟨g160, List.forall_mem_cons.2 ⟨g161, List.forall_mem_cons.2 ⟨g164, List.forall_mem_cons.2 ⟨g165, List.forall_mem_cons.2 ⟨g167, List.forall_mem_cons.2 ⟨g168, List.forall_mem_cons.2 ⟨g171, List.forall_mem_cons.2 ⟨g172, List.forall_mem_cons.2 ⟨g173, List.forall_mem_cons.2 ⟨g174, List.forall_mem_cons.2 ⟨g175, List.forall_mem_cons.2 ⟨g176, List.forall_mem_cons.2 ⟨g177, List.forall_mem_cons.2 ⟨g178, List.forall_mem_cons.2 ⟨g179, List.forall_mem_cons.2 ⟨g184, List.forall_mem_cons.2 ⟨g187, List.forall_mem_cons.2 ⟨g188, List.forall_mem_cons.2 ⟨g189, List.forall_mem_cons.2 ⟨g190, List.forall_mem_cons.2 ⟨g191, List.forall_mem_cons.2 ⟨g192, List.forall_mem_cons.2 ⟨g193, List.forall_mem_cons.2 ⟨g194, List.forall_mem_cons.2 ⟨g197, List.forall_mem_cons.2 ⟨g198, List.forall_mem_cons.2 ⟨g199, List.forall_mem_cons.2 ⟨g200, List.forall_mem_cons.2 ⟨g201, List.forall_mem_cons.2 ⟨g204, List.forall_mem_cons.2 ⟨g205, List.forall_mem_cons.2 ⟨g206, List.forall_mem_cons.2 ⟨g209, List.forall_mem_cons.2 ⟨g211, List.forall_mem_cons.2 ⟨g213, List.forall_mem_cons.2 ⟨g216, List.forall_mem_cons.2 ⟨g217, List.forall_mem_cons.2 ⟨g218, List.forall_mem_cons.2 ⟨g219, List.forall_mem_cons.2 ⟨g220, List.forall_mem_cons.2 ⟨g223, List.forall_mem_cons.2 ⟨g224, List.forall_mem_cons.2 ⟨g225, List.forall_mem_cons.2 ⟨g226, List.forall_mem_cons.2 ⟨g227, List.forall_mem_cons.2 ⟨g228, List.forall_mem_cons.2 ⟨g229, List.forall_mem_cons.2 ⟨g241, List.forall_mem_cons.2 ⟨g248, List.forall_mem_nil _⟩⟩⟩⟩⟩⟩⟩⟩⟩⟩⟩⟩⟩⟩⟩⟩⟩⟩⟩⟩⟩⟩⟩⟩⟩⟩⟩⟩⟩⟩⟩⟩⟩⟩⟩⟩⟩⟩⟩⟩⟩⟩⟩⟩⟩⟩⟩⟩⟩⟩⟩⟩⟩⟩⟩⟩⟩⟩⟩⟩⟩⟩⟩⟩⟩⟩⟩⟩⟩⟩⟩⟩⟩⟩⟩⟩⟩⟩⟩⟩⟩⟩⟩⟩⟩⟩⟩⟩⟩⟩⟩⟩⟩⟩⟩⟩⟩⟩⟩⟩⟩⟩⟩⟩⟩⟩⟩⟩⟩⟩⟩⟩⟩⟩⟩⟩⟩⟩⟩⟩⟩⟩⟩⟩⟩⟩⟩⟩⟩⟩⟩⟩⟩⟩
def briL : List (Nat × EFunc) := [(25, e25)]
theorem briL_good : ∀ p ∈ briL, Good p.1 p.2 := by
  unfold briL
  exact List.forall_mem_cons.2 ⟨g25, List.forall_mem_nil _⟩
def lowT : T EFunc := (.node none (.node none (.node none (.node none (.node none (.node (some e31) (.node none .nil (.node (some e191) .nil .nil)) (.node (some e95) (.node (some e159) .nil .nil) (.node (some e223) .nil .nil))) (.node none (.node none (.node (some e143) .nil .nil) .nil) .nil)) (.node none (.node none (.node (some e71) (.node (some e135) .nil .nil) (.node (some e199) .nil .nil)) (.node (some e103) .nil .nil)) (.node (some e55) (.node none (.node (some e151) .nil .nil) .nil) (.node (some e119) .nil .nil)))) (.node (some e11) (.node (some e19) (.node (some e35) (.node none (.node (some e131) .nil .nil) .nil) (.node (some e99) .nil (.node (some e227) .nil .nil))) (.node (some e51) (.node (some e83) .nil (.node (some e211) .nil .nil)) .nil)) (.node (some e27) (.node none (.node (some e75) (.node (some e139) .nil .nil) .nil) .nil) (.node none (.node (some e91) (.node (some e155) .nil .nil) (.node (some e219) .nil .nil)) (.node (some e123) .nil .nil))))) (.node none (.node none (.node none (.node none (.node none (.node (some e129) .nil .nil) (.node (some e193) .nil .nil)) (.node (some e97) (.node (some e161) .nil .nil) (.node (some e225) .nil .nil))) (.node none (.node none (.node (some e145) .nil .nil) (.node (some e209) .nil .nil)) (.node (some e113) (.node (some e177) .nil .nil) (.node (some e241) .nil .nil)))) (.node none (.node (some e41) (.node (some e73) (.node (some e137) .nil .nil) (.node (some e201) .nil .nil)) .nil) (.node (some e57) (.node none .nil (.node (some e217) .nil .nil)) (.node (some e121) .nil .nil)))) (.node none (.node none (.node none (.node (some e69) .nil (.node (some e197) .nil .nil)) (.node (some e101) .nil (.node (some e229) .nil .nil))) (.node (some e53) (.node (some e85) (.node (some e149) .nil .nil) (.node (some e213) .nil .nil)) .nil)) (.node (some e29) (.node none (.node (some e77) .nil (.node (some e205) .nil .nil)) .nil) (.node none (.node (some e93) (.node (some e157) .nil .nil) .nil) (.node none (.node (some e189) .nil .nil) .nil)))))) (.node none (.node none (.node none (.node none (.node none (.node none (.node (some e128) .nil .nil) (.node (some e192) .nil .nil)) (.node (some e96) (.node (some e160) .nil .nil) (.node (some e224) .nil .nil))) .nil) (.node (some e24) (.node none (.node (some e72) (.node (some e136) .nil .nil) .nil) (.node (some e104) .nil .nil)) (.node none (.node none (.node (some e152) .nil .nil) (.node (some e216) .nil .nil)) (.node (some e120) (.node (some e184) .nil .nil) (.node (some e248) .nil .nil))))) (.node none (.node none (.node none (.node (some e68) .nil .nil) (.node none (.node (some e164) .nil .nil) (.node (some e228) .nil .nil))) (.node (some e52) (.node (some e84) .nil .nil) .nil)) (.node (some e28) (.node none (.node (some e76) .nil (.node (some e204) .nil .nil)) .nil) (.node none (.node (some e92) (.node (some e156) .nil .nil) .nil) (.node (some e124) (.node (some e188) .nil .nil) .nil))))) (.node (some e6) (.node none (.node none (.node none (.node none (.node (some e130) .nil .nil) .nil) (.node (some e98) .nil (.node (some e226) .nil .nil))) (.node (some e50) (.node (some e82) (.node (some e146) .nil .nil) .nil) .nil)) (.node (some e26) (.node (some e42) (.node (some e74) (.node (some e138) .nil .nil) .nil) (.node (some e106) .nil .nil)) (.node none (.node none (.node (some e154) .nil .nil) (.node (some e218) .nil .nil)) (.node (some e122) .nil .nil)))) (.node (some e14) (.node none (.node none (.node (some e70) .nil (.node (some e198) .nil .nil)) (.node (some e102) .nil .nil)) (.node (some e54) .nil .nil)) (.node (some e30) (.node none (.node none (.node (some e142) .nil .nil) (.node (some e206) .nil .nil)) .nil) (.node none (.node (some e94) .nil .nil) (.node none (.node (some e190) .nil .nil) .nil)))))))
theorem lowT_eq : lowT = tabOf lowL := by kernel_rfl
theorem lowT_ok : TabOK Tryz.prog lowT := by rw [lowT_eq]; exact fun f ef he => lowL_good _ (tabOf_mem he)
def awkT : T EFunc := (.node none (.node none (.node none (.node none (.node none (.node (some e31) (.node none .nil (.node (some e191) .nil .nil)) (.node (some e95) (.node (some e159) .nil .nil) (.node (some e223) .nil .nil))) (.node none (.node none (.node (some e143) .nil .nil) .nil) (.node none (.node (some e175) .nil .nil) .nil))) (.node none (.node none (.node (some e71) (.node (some e135) .nil .nil) (.node (some e199) .nil .nil)) (.node (some e103) (.node (some e167) .nil .nil) .nil)) (.node (some e55) (.node none (.node (some e151) .nil .nil) .nil) (.node (some e119) .nil .nil)))) (.node (some e11) (.node (some e19) (.node (some e35) (.node none (.node (some e131) .nil .nil) .nil) (.node (some e99) .nil (.node (some e227) .nil .nil))) (.node (some e51) (.node (some e83) (.node (some e147) .nil .nil) (.node (some e211) .nil .nil)) (.node none (.node (some e179) .nil .nil) .nil))) (.node (some e27) (.node none (.node none (.node (some e139) .nil .nil) .nil) (.node none (.node (some e171) .nil .nil) .nil)) (.node none (.node (some e91) (.node (some e155) .nil .nil) (.node (some e219) .nil .nil)) (.node (some e123) (.node (some e187) .nil .nil) .nil))))) (.node none (.node none (.node none (.node none (.node none (.node (some e129) .nil .nil) (.node (some e193) .nil .nil)) (.node (some e97) (.node (some e161) .nil .nil) (.node (some e225) .nil .nil))) (.node none (.node none (.node (some e145) .nil .nil) (.node (some e209) .nil .nil)) (.node (some e113) (.node (some e177) .nil .nil) (.node (some e241) .nil .nil)))) (.node none (.node (some e41) (.node (some e73) (.node (some e137) .nil .nil) (.node (some e201) .nil .nil)) .nil) (.node (some e57) (.node none (.node (some e153) .nil .nil) (.node (some e217) .nil .nil)) (.node (some e121) .nil .nil)))) (.node none (.node none (.node none (.node (some e69) .nil (.node (some e197) .nil .nil)) (.node (some e101) (.node (some e165) .nil .nil) (.node (some e229) .nil .nil))) (.node (some e53) (.node (some e85) (.node (some e149) .nil .nil) (.node (some e213) .nil .nil)) .nil)) (.node (some e29) (.node none (.node (some e77) .nil (.node (some e205) .nil .nil)) (.node none (.node (some e173) .nil .nil) .nil)) (.node (some e61) (.node (some e93) (.node (some e157) .nil .nil) .nil) (.node none (.node (some e189) .nil .nil) .nil)))))) (.node none (.node none (.node (some e8) (.node none (.node none (.node none (.node (some e128) .nil .nil) (.node (some e192) .nil .nil)) (.node (some e96) (.node (some e160) .nil .nil) (.node (some e224) .nil .nil))) (.node none .nil (.node (some e112) (.node (some e176) .nil .nil) .nil))) (.node (some e24) (.node none (.node (some e72) (.node (some e136) .nil .nil) (.node (some e200) .nil .nil)) (.node (some e104) (.node (some e168) .nil .nil) .nil)) (.node none (.node none (.node (some e152) .nil .nil) (.node (some e216) .nil .nil)) (.node (some e120) (.node (some e184) .nil .nil) (.node (some e248) .nil .nil))))) (.node (some e12) (.node none (.node none (.node (some e68) .nil .nil) (.node none (.node (some e164) .nil .nil) (.node (some e228) .nil .nil))) (.node (some e52) (.node (some e84) (.node (some e148) .nil .nil) .nil) .nil)) (.node none (.node none (.node (some e76) .nil (.node (some e204) .nil .nil)) (.node (some e108) (.node (some e172) .nil .nil) .nil)) (.node none (.node (some e92) (.node (some e156) .nil .nil) (.node (some e220) .nil .nil)) (.node (some e124) (.node (some e188) .nil .nil) .nil))))) (.node none (.node (some e10) (.node none (.node none (.node none (.node (some e130) .nil .nil) (.node (some e194) .nil .nil)) (.node (some e98) .nil (.node (some e226) .nil .nil))) (.node (some e50) (.node (some e82) (.node (some e146) .nil .nil) .nil) (.node (some e114) (.node (some e178) .nil .nil) .nil))) (.node (some e26) (.node (some e42) (.node none (.node (some e138) .nil .nil) .nil) (.node (some e106) .nil .nil)) (.node none (.node none (.node (some e154) .nil .nil) (.node (some e218) .nil .nil)) (.node (some e122) .nil .nil)))) (.node (some e14) (.node none (.node none (.node (some e70) .nil (.node (some e198) .nil .nil)) (.node (some e102) .nil .nil)) (.node (some e54) .nil .nil)) (.node (some e30) (.node none (.node none (.node (some e142) .nil .nil) (.node (some e206) .nil .nil)) (.node (some e110) (.node (some e174) .nil .nil) .nil)) (.node (some e62) (.node (some e94) .nil .nil) (.node none (.node (some e190) .nil .nil) .nil)))))))
theorem awkT_eq : awkT = tabOf awkL := by kernel_rfl
theorem awkT_ok : TabOK Tryz.prog awkT := by rw [awkT_eq]; exact fun f ef he => awkL_good _ (tabOf_mem he)
def briT : T EFunc := (.node none (.node none .nil (.node none (.node none .nil (.node (some e25) .nil .nil)) .nil)) .nil)
theorem briT_eq : briT = tabOf briL := by kernel_rfl
theorem briT_ok : TabOK Tryz.prog briT := by rw [briT_eq]; exact fun f ef he => briL_good _ (tabOf_mem he)
theorem lowT_fix (ρ : Nat → Int) (i : Nat) : lowT.get i = (lowT.get i).map (fF ρ) := by
  rw [lowT_eq]
  exact tab_fix (by kernel_rfl) i
end Go.Proofs.YteikmdigmjlmdaaGreatDoor
