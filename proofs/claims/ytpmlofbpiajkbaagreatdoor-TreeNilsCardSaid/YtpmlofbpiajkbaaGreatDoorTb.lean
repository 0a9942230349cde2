/- The program's own tables of types and functions, as tries: what they hold is what the program holds (printed by mktab.py). -/
import Derived.Test.YtpmlofbpiajkbaaGreatDoorMu
import Derived.Test.YtpmlofbpiajkbaaGreatDoorProg
import Derived.KernelRfl
set_option linter.unusedVariables false
set_option maxRecDepth 1000000
namespace Go.Proofs.YtpmlofbpiajkbaaGreatDoor.M2
open Go
noncomputable section
theorem infoOf {t : Nat} {x : TypeInfo} (h : Tryz.prog.types[t]? = some x) : Tryz.prog.info? t = some x := by
  have hlt := (Array.getElem?_eq_some_iff.1 h).1
  show (if t < Tryz.prog.types.size then Tryz.prog.types[t]? else _) = _
  rw [if_pos hlt, h]
noncomputable def tyL : List (Nat × TypeDesc) := [(0, Tryz.t0.desc), (1, Tryz.t1.desc), (2, Tryz.t2.desc), (3, Tryz.t3.desc), (4, Tryz.t4.desc), (5, Tryz.t5.desc), (6, Tryz.t5.desc), (7, Tryz.t7.desc), (8, Tryz.t7.desc), (9, Tryz.t9.desc), (10, Tryz.t9.desc), (11, Tryz.t9.desc), (12, Tryz.t12.desc), (13, Tryz.t13.desc), (14, Tryz.t13.desc), (15, Tryz.t15.desc), (16, Tryz.t16.desc), (17, Tryz.t17.desc), (18, Tryz.t18.desc), (19, Tryz.t18.desc), (20, Tryz.t20.desc), (21, Tryz.t21.desc), (22, Tryz.t22.desc), (23, Tryz.t22.desc), (24, Tryz.t24.desc), (25, Tryz.t25.desc), (26, Tryz.t26.desc), (27, Tryz.t3.desc), (28, Tryz.t28.desc), (29, Tryz.t29.desc), (30, Tryz.t30.desc), (31, Tryz.t31.desc), (32, Tryz.t32.desc), (33, Tryz.t33.desc), (34, Tryz.t34.desc), (35, Tryz.t35.desc), (36, Tryz.t36.desc), (37, Tryz.t37.desc), (38, Tryz.t38.desc), (39, Tryz.t39.desc), (40, Tryz.t40.desc), (41, Tryz.t41.desc), (42, Tryz.t42.desc), (43, Tryz.t43.desc), (44, Tryz.t44.desc), (45, Tryz.t45.desc), (46, Tryz.t46.desc), (47, Tryz.t46.desc), (48, Tryz.t48.desc), (49, Tryz.t49.desc), (50, Tryz.t50.desc), (51, Tryz.t51.desc), (52, Tryz.t52.desc), (53, Tryz.t52.desc), (54, Tryz.t54.desc), (55, Tryz.t55.desc), (56, Tryz.t56.desc), (57, Tryz.t57.desc), (58, Tryz.t57.desc), (59, Tryz.t59.desc), (60, Tryz.t60.desc), (61, Tryz.t60.desc), (62, Tryz.t62.desc), (63, Tryz.t63.desc), (64, Tryz.t64.desc), (65, Tryz.t64.desc), (66, Tryz.t66.desc), (67, Tryz.t67.desc), (68, Tryz.t68.desc), (69, Tryz.t69.desc), (70, Tryz.t70.desc), (71, Tryz.t71.desc), (72, Tryz.t72.desc), (73, Tryz.t73.desc), (74, Tryz.t74.desc), (75, Tryz.t75.desc), (76, Tryz.t76.desc), (77, Tryz.t77.desc), (78, Tryz.t78.desc), (79, Tryz.t79.desc), (80, Tryz.t80.desc), (81, Tryz.t81.desc), (82, Tryz.t82.desc), (83, Tryz.t83.desc), (84, Tryz.t84.desc), (85, Tryz.t85.desc), (86, Tryz.t86.desc), (87, Tryz.t87.desc), (88, Tryz.t88.desc), (89, Tryz.t89.desc), (90, Tryz.t90.desc), (91, Tryz.t91.desc), (92, Tryz.t91.desc), (93, Tryz.t93.desc), (94, Tryz.t94.desc), (95, Tryz.t95.desc), (96, Tryz.t95.desc), (97, Tryz.t97.desc), (98, Tryz.t98.desc), (99, Tryz.t99.desc), (100, Tryz.t100.desc), (101, Tryz.t101.desc), (102, Tryz.t102.desc), (103, Tryz.t102.desc), (104, Tryz.t104.desc), (105, Tryz.t105.desc), (106, Tryz.t69.desc), (107, Tryz.t107.desc), (108, Tryz.t107.desc), (109, Tryz.t109.desc), (110, Tryz.t110.desc), (111, Tryz.t110.desc), (112, Tryz.t112.desc), (113, Tryz.t113.desc), (114, Tryz.t114.desc), (115, Tryz.t115.desc), (116, Tryz.t116.desc), (117, Tryz.t117.desc), (118, Tryz.t118.desc), (119, Tryz.t119.desc), (120, Tryz.t119.desc), (121, Tryz.t121.desc), (122, Tryz.t122.desc), (123, Tryz.t123.desc), (124, Tryz.t124.desc), (125, Tryz.t125.desc), (126, Tryz.t126.desc), (127, Tryz.t127.desc), (128, Tryz.t128.desc), (129, Tryz.t128.desc), (130, Tryz.t130.desc), (131, Tryz.t131.desc), (132, Tryz.t132.desc), (133, Tryz.t133.desc), (134, Tryz.t134.desc), (135, Tryz.t135.desc), (136, Tryz.t136.desc), (137, Tryz.t137.desc), (138, Tryz.t138.desc), (139, Tryz.t139.desc), (140, Tryz.t140.desc), (141, Tryz.t141.desc), (142, Tryz.t142.desc), (143, Tryz.t143.desc), (144, Tryz.t144.desc), (145, Tryz.t145.desc), (146, Tryz.t146.desc), (147, Tryz.t147.desc), (148, Tryz.t148.desc), (149, Tryz.t149.desc), (150, Tryz.t150.desc), (151, Tryz.t151.desc), (152, Tryz.t152.desc), (153, Tryz.t153.desc), (154, Tryz.t154.desc), (155, Tryz.t155.desc), (156, Tryz.t156.desc), (157, Tryz.t157.desc), (158, Tryz.t158.desc), (159, Tryz.t159.desc), (160, Tryz.t159.desc), (161, Tryz.t161.desc), (162, Tryz.t162.desc), (163, Tryz.t163.desc), (164, Tryz.t69.desc), (165, Tryz.t165.desc), (166, Tryz.t166.desc), (167, Tryz.t167.desc), (168, Tryz.t168.desc), (169, Tryz.t169.desc), (170, Tryz.t170.desc), (171, Tryz.t170.desc), (172, Tryz.t172.desc), (173, Tryz.t172.desc), (174, Tryz.t174.desc), (175, Tryz.t175.desc), (176, Tryz.t176.desc), (177, Tryz.t176.desc), (178, Tryz.t178.desc), (179, Tryz.t178.desc), (180, Tryz.t180.desc), (181, Tryz.t181.desc), (182, Tryz.t181.desc), (183, Tryz.t183.desc), (184, Tryz.t183.desc), (185, Tryz.t185.desc), (186, Tryz.t186.desc), (187, Tryz.t187.desc), (188, Tryz.t187.desc), (189, Tryz.t189.desc), (190, Tryz.t190.desc), (191, Tryz.t191.desc), (192, Tryz.t192.desc), (193, Tryz.t192.desc), (194, Tryz.t194.desc), (195, Tryz.t195.desc), (196, Tryz.t196.desc), (197, Tryz.t197.desc), (198, Tryz.t198.desc), (199, Tryz.t198.desc), (200, Tryz.t200.desc), (201, Tryz.t201.desc), (202, Tryz.t202.desc), (203, Tryz.t202.desc), (204, Tryz.t204.desc), (205, Tryz.t205.desc), (206, Tryz.t206.desc), (207, Tryz.t207.desc), (208, Tryz.t208.desc), (209, Tryz.t209.desc), (210, Tryz.t209.desc), (211, Tryz.t211.desc), (212, Tryz.t212.desc), (213, Tryz.t213.desc), (214, Tryz.t213.desc), (215, Tryz.t215.desc), (216, Tryz.t216.desc), (217, Tryz.t217.desc), (218, Tryz.t218.desc), (219, Tryz.t219.desc), (220, Tryz.t220.desc), (221, Tryz.t221.desc), (222, Tryz.t222.desc), (223, Tryz.t223.desc), (224, Tryz.t223.desc), (225, Tryz.t225.desc), (226, Tryz.t226.desc), (227, Tryz.t226.desc), (228, Tryz.t228.desc), (229, Tryz.t229.desc), (230, Tryz.t229.desc), (231, Tryz.t231.desc), (232, Tryz.t232.desc), (233, Tryz.t232.desc), (234, Tryz.t234.desc), (235, Tryz.t234.desc), (236, Tryz.t236.desc), (237, Tryz.t237.desc), (238, Tryz.t238.desc), (239, Tryz.t239.desc), (240, Tryz.t240.desc), (241, Tryz.t241.desc), (242, Tryz.t242.desc), (243, Tryz.t243.desc), (244, Tryz.t243.desc), (245, Tryz.t245.desc), (246, Tryz.t246.desc), (247, Tryz.t247.desc), (248, Tryz.t248.desc), (249, Tryz.t249.desc), (250, Tryz.t250.desc), (251, Tryz.t251.desc), (252, Tryz.t252.desc), (253, Tryz.t252.desc), (254, Tryz.t254.desc), (255, Tryz.t255.desc), (256, Tryz.t255.desc), (257, Tryz.t257.desc), (258, Tryz.t257.desc), (259, Tryz.t259.desc), (260, Tryz.t260.desc), (261, Tryz.t261.desc), (262, Tryz.t262.desc), (263, Tryz.t263.desc), (264, Tryz.t263.desc), (265, Tryz.t265.desc), (266, Tryz.t266.desc), (267, Tryz.t267.desc), (268, Tryz.t268.desc), (269, Tryz.t269.desc), (270, Tryz.t270.desc), (271, Tryz.t271.desc), (272, Tryz.t272.desc), (273, Tryz.t273.desc), (274, Tryz.t274.desc), (275, Tryz.t275.desc), (276, Tryz.t276.desc), (277, Tryz.t277.desc), (278, Tryz.t278.desc), (279, Tryz.t279.desc), (280, Tryz.t279.desc), (281, Tryz.t281.desc), (282, Tryz.t282.desc), (283, Tryz.t283.desc), (284, Tryz.t284.desc), (285, Tryz.t285.desc), (286, Tryz.t286.desc), (287, Tryz.t287.desc), (288, Tryz.t288.desc), (289, Tryz.t289.desc), (290, Tryz.t289.desc), (291, Tryz.t291.desc), (292, Tryz.t292.desc), (293, Tryz.t293.desc), (294, Tryz.t293.desc), (295, Tryz.t295.desc), (296, Tryz.t296.desc), (297, Tryz.t297.desc), (298, Tryz.t297.desc), (299, Tryz.t299.desc), (300, Tryz.t300.desc), (301, Tryz.t301.desc), (302, Tryz.t302.desc), (303, Tryz.t303.desc), (304, Tryz.t304.desc), (305, Tryz.t305.desc), (306, Tryz.t306.desc), (307, Tryz.t307.desc), (308, Tryz.t308.desc), (309, Tryz.t309.desc), (310, Tryz.t309.desc), (311, Tryz.t311.desc), (312, Tryz.t312.desc), (313, Tryz.t3.desc), (314, Tryz.t314.desc), (315, Tryz.t315.desc), (316, Tryz.t316.desc), (317, Tryz.t317.desc), (318, Tryz.t318.desc), (319, Tryz.t319.desc), (320, Tryz.t320.desc), (321, Tryz.t321.desc), (322, Tryz.t322.desc), (323, Tryz.t323.desc), (324, Tryz.t324.desc), (325, Tryz.t325.desc), (326, Tryz.t326.desc), (327, Tryz.t327.desc), (328, Tryz.t43.desc), (329, Tryz.t329.desc), (330, Tryz.t330.desc), (331, Tryz.t331.desc), (332, Tryz.t332.desc), (333, Tryz.t333.desc), (334, Tryz.t334.desc), (335, Tryz.t335.desc), (336, Tryz.t336.desc), (337, Tryz.t337.desc), (338, Tryz.t338.desc), (339, Tryz.t339.desc), (340, Tryz.t340.desc), (341, Tryz.t340.desc), (342, Tryz.t342.desc), (343, Tryz.t343.desc), (344, Tryz.t344.desc), (345, Tryz.t345.desc), (346, Tryz.t346.desc), (347, Tryz.t347.desc), (348, Tryz.t348.desc), (349, Tryz.t349.desc), (350, Tryz.t350.desc), (351, Tryz.t351.desc), (352, Tryz.t352.desc), (353, Tryz.t353.desc), (354, Tryz.t354.desc), (355, Tryz.t355.desc), (356, Tryz.t356.desc), (357, Tryz.t357.desc), (358, Tryz.t358.desc), (359, Tryz.t359.desc), (360, Tryz.t360.desc), (361, Tryz.t361.desc), (362, Tryz.t362.desc), (363, Tryz.t363.desc), (364, Tryz.t364.desc), (365, Tryz.t365.desc), (366, Tryz.t366.desc), (367, Tryz.t367.desc), (368, Tryz.t368.desc), (369, Tryz.t369.desc), (370, Tryz.t370.desc), (371, Tryz.t371.desc), (372, Tryz.t372.desc), (373, Tryz.t373.desc), (374, Tryz.t374.desc), (375, Tryz.t374.desc), (376, Tryz.t376.desc), (377, Tryz.t377.desc), (378, Tryz.t377.desc), (379, Tryz.t5.desc), (380, Tryz.t5.desc), (381, Tryz.t381.desc), (382, Tryz.t382.desc), (383, Tryz.t21.desc), (384, Tryz.t21.desc), (385, Tryz.t385.desc), (386, Tryz.t385.desc), (387, Tryz.t387.desc), (388, Tryz.t388.desc), (389, Tryz.t389.desc)]
noncomputable def tyT : T TypeDesc := .node (.node (.node (.node (.node (.node (.node (.node (.node (.leaf) (some Tryz.t255.desc) (.leaf)) (some Tryz.t127.desc) (.node (.leaf) (some Tryz.t21.desc) (.leaf))) (some Tryz.t63.desc) (.node (.node (.leaf) (some Tryz.t319.desc) (.leaf)) (some Tryz.t191.desc) (.leaf))) (some Tryz.t31.desc) (.node (.node (.node (.leaf) (some Tryz.t287.desc) (.leaf)) (some Tryz.t159.desc) (.leaf)) (some Tryz.t95.desc) (.node (.node (.leaf) (some Tryz.t351.desc) (.leaf)) (some Tryz.t223.desc) (.leaf)))) (some Tryz.t15.desc) (.node (.node (.node (.node (.leaf) (some Tryz.t271.desc) (.leaf)) (some Tryz.t143.desc) (.leaf)) (some Tryz.t79.desc) (.node (.node (.leaf) (some Tryz.t335.desc) (.leaf)) (some Tryz.t207.desc) (.leaf))) (some Tryz.t46.desc) (.node (.node (.node (.leaf) (some Tryz.t303.desc) (.leaf)) (some Tryz.t175.desc) (.leaf)) (some Tryz.t110.desc) (.node (.node (.leaf) (some Tryz.t367.desc) (.leaf)) (some Tryz.t239.desc) (.leaf))))) (some Tryz.t7.desc) (.node (.node (.node (.node (.node (.leaf) (some Tryz.t263.desc) (.leaf)) (some Tryz.t135.desc) (.leaf)) (some Tryz.t71.desc) (.node (.node (.leaf) (some Tryz.t327.desc) (.leaf)) (some Tryz.t198.desc) (.leaf))) (some Tryz.t39.desc) (.node (.node (.node (.leaf) (some Tryz.t295.desc) (.leaf)) (some Tryz.t167.desc) (.leaf)) (some Tryz.t102.desc) (.node (.node (.leaf) (some Tryz.t359.desc) (.leaf)) (some Tryz.t231.desc) (.leaf)))) (some Tryz.t22.desc) (.node (.node (.node (.node (.leaf) (some Tryz.t279.desc) (.leaf)) (some Tryz.t151.desc) (.leaf)) (some Tryz.t87.desc) (.node (.node (.leaf) (some Tryz.t343.desc) (.leaf)) (some Tryz.t215.desc) (.leaf))) (some Tryz.t55.desc) (.node (.node (.node (.leaf) (some Tryz.t311.desc) (.leaf)) (some Tryz.t183.desc) (.leaf)) (some Tryz.t119.desc) (.node (.node (.leaf) (some Tryz.t374.desc) (.leaf)) (some Tryz.t247.desc) (.leaf)))))) (some Tryz.t3.desc) (.node (.node (.node (.node (.node (.node (.leaf) (some Tryz.t259.desc) (.leaf)) (some Tryz.t131.desc) (.node (.leaf) (some Tryz.t387.desc) (.leaf))) (some Tryz.t67.desc) (.node (.node (.leaf) (some Tryz.t323.desc) (.leaf)) (some Tryz.t195.desc) (.leaf))) (some Tryz.t35.desc) (.node (.node (.node (.leaf) (some Tryz.t291.desc) (.leaf)) (some Tryz.t163.desc) (.leaf)) (some Tryz.t99.desc) (.node (.node (.leaf) (some Tryz.t355.desc) (.leaf)) (some Tryz.t226.desc) (.leaf)))) (some Tryz.t18.desc) (.node (.node (.node (.node (.leaf) (some Tryz.t275.desc) (.leaf)) (some Tryz.t147.desc) (.leaf)) (some Tryz.t83.desc) (.node (.node (.leaf) (some Tryz.t339.desc) (.leaf)) (some Tryz.t211.desc) (.leaf))) (some Tryz.t51.desc) (.node (.node (.node (.leaf) (some Tryz.t307.desc) (.leaf)) (some Tryz.t178.desc) (.leaf)) (some Tryz.t115.desc) (.node (.node (.leaf) (some Tryz.t371.desc) (.leaf)) (some Tryz.t243.desc) (.leaf))))) (some Tryz.t9.desc) (.node (.node (.node (.node (.node (.leaf) (some Tryz.t267.desc) (.leaf)) (some Tryz.t139.desc) (.leaf)) (some Tryz.t75.desc) (.node (.node (.leaf) (some Tryz.t331.desc) (.leaf)) (some Tryz.t202.desc) (.leaf))) (some Tryz.t43.desc) (.node (.node (.node (.leaf) (some Tryz.t299.desc) (.leaf)) (some Tryz.t170.desc) (.leaf)) (some Tryz.t107.desc) (.node (.node (.leaf) (some Tryz.t363.desc) (.leaf)) (some Tryz.t234.desc) (.leaf)))) (some Tryz.t3.desc) (.node (.node (.node (.node (.leaf) (some Tryz.t283.desc) (.leaf)) (some Tryz.t155.desc) (.leaf)) (some Tryz.t91.desc) (.node (.node (.leaf) (some Tryz.t347.desc) (.leaf)) (some Tryz.t219.desc) (.leaf))) (some Tryz.t59.desc) (.node (.node (.node (.leaf) (some Tryz.t315.desc) (.leaf)) (some Tryz.t187.desc) (.leaf)) (some Tryz.t123.desc) (.node (.node (.leaf) (some Tryz.t5.desc) (.leaf)) (some Tryz.t251.desc) (.leaf))))))) (some Tryz.t1.desc) (.node (.node (.node (.node (.node (.node (.node (.leaf) (some Tryz.t257.desc) (.leaf)) (some Tryz.t128.desc) (.node (.leaf) (some Tryz.t385.desc) (.leaf))) (some Tryz.t64.desc) (.node (.node (.leaf) (some Tryz.t321.desc) (.leaf)) (some Tryz.t192.desc) (.leaf))) (some Tryz.t33.desc) (.node (.node (.node (.leaf) (some Tryz.t289.desc) (.leaf)) (some Tryz.t161.desc) (.leaf)) (some Tryz.t97.desc) (.node (.node (.leaf) (some Tryz.t353.desc) (.leaf)) (some Tryz.t225.desc) (.leaf)))) (some Tryz.t17.desc) (.node (.node (.node (.node (.leaf) (some Tryz.t273.desc) (.leaf)) (some Tryz.t145.desc) (.leaf)) (some Tryz.t81.desc) (.node (.node (.leaf) (some Tryz.t337.desc) (.leaf)) (some Tryz.t209.desc) (.leaf))) (some Tryz.t49.desc) (.node (.node (.node (.leaf) (some Tryz.t305.desc) (.leaf)) (some Tryz.t176.desc) (.leaf)) (some Tryz.t113.desc) (.node (.node (.leaf) (some Tryz.t369.desc) (.leaf)) (some Tryz.t241.desc) (.leaf))))) (some Tryz.t9.desc) (.node (.node (.node (.node (.node (.leaf) (some Tryz.t265.desc) (.leaf)) (some Tryz.t137.desc) (.leaf)) (some Tryz.t73.desc) (.node (.node (.leaf) (some Tryz.t329.desc) (.leaf)) (some Tryz.t201.desc) (.leaf))) (some Tryz.t41.desc) (.node (.node (.node (.leaf) (some Tryz.t297.desc) (.leaf)) (some Tryz.t169.desc) (.leaf)) (some Tryz.t105.desc) (.node (.node (.leaf) (some Tryz.t361.desc) (.leaf)) (some Tryz.t232.desc) (.leaf)))) (some Tryz.t25.desc) (.node (.node (.node (.node (.leaf) (some Tryz.t281.desc) (.leaf)) (some Tryz.t153.desc) (.leaf)) (some Tryz.t89.desc) (.node (.node (.leaf) (some Tryz.t345.desc) (.leaf)) (some Tryz.t217.desc) (.leaf))) (some Tryz.t57.desc) (.node (.node (.node (.leaf) (some Tryz.t3.desc) (.leaf)) (some Tryz.t185.desc) (.leaf)) (some Tryz.t121.desc) (.node (.node (.leaf) (some Tryz.t377.desc) (.leaf)) (some Tryz.t249.desc) (.leaf)))))) (some Tryz.t5.desc) (.node (.node (.node (.node (.node (.node (.leaf) (some Tryz.t261.desc) (.leaf)) (some Tryz.t133.desc) (.node (.leaf) (some Tryz.t389.desc) (.leaf))) (some Tryz.t69.desc) (.node (.node (.leaf) (some Tryz.t325.desc) (.leaf)) (some Tryz.t197.desc) (.leaf))) (some Tryz.t37.desc) (.node (.node (.node (.leaf) (some Tryz.t293.desc) (.leaf)) (some Tryz.t165.desc) (.leaf)) (some Tryz.t101.desc) (.node (.node (.leaf) (some Tryz.t357.desc) (.leaf)) (some Tryz.t229.desc) (.leaf)))) (some Tryz.t21.desc) (.node (.node (.node (.node (.leaf) (some Tryz.t277.desc) (.leaf)) (some Tryz.t149.desc) (.leaf)) (some Tryz.t85.desc) (.node (.node (.leaf) (some Tryz.t340.desc) (.leaf)) (some Tryz.t213.desc) (.leaf))) (some Tryz.t52.desc) (.node (.node (.node (.leaf) (some Tryz.t309.desc) (.leaf)) (some Tryz.t181.desc) (.leaf)) (some Tryz.t117.desc) (.node (.node (.leaf) (some Tryz.t373.desc) (.leaf)) (some Tryz.t245.desc) (.leaf))))) (some Tryz.t13.desc) (.node (.node (.node (.node (.node (.leaf) (some Tryz.t269.desc) (.leaf)) (some Tryz.t141.desc) (.leaf)) (some Tryz.t77.desc) (.node (.node (.leaf) (some Tryz.t333.desc) (.leaf)) (some Tryz.t205.desc) (.leaf))) (some Tryz.t45.desc) (.node (.node (.node (.leaf) (some Tryz.t301.desc) (.leaf)) (some Tryz.t172.desc) (.leaf)) (some Tryz.t109.desc) (.node (.node (.leaf) (some Tryz.t365.desc) (.leaf)) (some Tryz.t237.desc) (.leaf)))) (some Tryz.t29.desc) (.node (.node (.node (.node (.leaf) (some Tryz.t285.desc) (.leaf)) (some Tryz.t157.desc) (.leaf)) (some Tryz.t93.desc) (.node (.node (.leaf) (some Tryz.t349.desc) (.leaf)) (some Tryz.t221.desc) (.leaf))) (some Tryz.t60.desc) (.node (.node (.node (.leaf) (some Tryz.t317.desc) (.leaf)) (some Tryz.t189.desc) (.leaf)) (some Tryz.t125.desc) (.node (.node (.leaf) (some Tryz.t381.desc) (.leaf)) (some Tryz.t252.desc) (.leaf)))))))) (some Tryz.t0.desc) (.node (.node (.node (.node (.node (.node (.node (.node (.leaf) (some Tryz.t255.desc) (.leaf)) (some Tryz.t128.desc) (.node (.leaf) (some Tryz.t21.desc) (.leaf))) (some Tryz.t64.desc) (.node (.node (.leaf) (some Tryz.t320.desc) (.leaf)) (some Tryz.t192.desc) (.leaf))) (some Tryz.t32.desc) (.node (.node (.node (.leaf) (some Tryz.t288.desc) (.leaf)) (some Tryz.t159.desc) (.leaf)) (some Tryz.t95.desc) (.node (.node (.leaf) (some Tryz.t352.desc) (.leaf)) (some Tryz.t223.desc) (.leaf)))) (some Tryz.t16.desc) (.node (.node (.node (.node (.leaf) (some Tryz.t272.desc) (.leaf)) (some Tryz.t144.desc) (.leaf)) (some Tryz.t80.desc) (.node (.node (.leaf) (some Tryz.t336.desc) (.leaf)) (some Tryz.t208.desc) (.leaf))) (some Tryz.t48.desc) (.node (.node (.node (.leaf) (some Tryz.t304.desc) (.leaf)) (some Tryz.t176.desc) (.leaf)) (some Tryz.t112.desc) (.node (.node (.leaf) (some Tryz.t368.desc) (.leaf)) (some Tryz.t240.desc) (.leaf))))) (some Tryz.t7.desc) (.node (.node (.node (.node (.node (.leaf) (some Tryz.t263.desc) (.leaf)) (some Tryz.t136.desc) (.leaf)) (some Tryz.t72.desc) (.node (.node (.leaf) (some Tryz.t43.desc) (.leaf)) (some Tryz.t200.desc) (.leaf))) (some Tryz.t40.desc) (.node (.node (.node (.leaf) (some Tryz.t296.desc) (.leaf)) (some Tryz.t168.desc) (.leaf)) (some Tryz.t104.desc) (.node (.node (.leaf) (some Tryz.t360.desc) (.leaf)) (some Tryz.t232.desc) (.leaf)))) (some Tryz.t24.desc) (.node (.node (.node (.node (.leaf) (some Tryz.t279.desc) (.leaf)) (some Tryz.t152.desc) (.leaf)) (some Tryz.t88.desc) (.node (.node (.leaf) (some Tryz.t344.desc) (.leaf)) (some Tryz.t216.desc) (.leaf))) (some Tryz.t56.desc) (.node (.node (.node (.leaf) (some Tryz.t312.desc) (.leaf)) (some Tryz.t183.desc) (.leaf)) (some Tryz.t119.desc) (.node (.node (.leaf) (some Tryz.t376.desc) (.leaf)) (some Tryz.t248.desc) (.leaf)))))) (some Tryz.t4.desc) (.node (.node (.node (.node (.node (.node (.leaf) (some Tryz.t260.desc) (.leaf)) (some Tryz.t132.desc) (.node (.leaf) (some Tryz.t388.desc) (.leaf))) (some Tryz.t68.desc) (.node (.node (.leaf) (some Tryz.t324.desc) (.leaf)) (some Tryz.t196.desc) (.leaf))) (some Tryz.t36.desc) (.node (.node (.node (.leaf) (some Tryz.t292.desc) (.leaf)) (some Tryz.t69.desc) (.leaf)) (some Tryz.t100.desc) (.node (.node (.leaf) (some Tryz.t356.desc) (.leaf)) (some Tryz.t228.desc) (.leaf)))) (some Tryz.t20.desc) (.node (.node (.node (.node (.leaf) (some Tryz.t276.desc) (.leaf)) (some Tryz.t148.desc) (.leaf)) (some Tryz.t84.desc) (.node (.node (.leaf) (some Tryz.t340.desc) (.leaf)) (some Tryz.t212.desc) (.leaf))) (some Tryz.t52.desc) (.node (.node (.node (.leaf) (some Tryz.t308.desc) (.leaf)) (some Tryz.t180.desc) (.leaf)) (some Tryz.t116.desc) (.node (.node (.leaf) (some Tryz.t372.desc) (.leaf)) (some Tryz.t243.desc) (.leaf))))) (some Tryz.t12.desc) (.node (.node (.node (.node (.node (.leaf) (some Tryz.t268.desc) (.leaf)) (some Tryz.t140.desc) (.leaf)) (some Tryz.t76.desc) (.node (.node (.leaf) (some Tryz.t332.desc) (.leaf)) (some Tryz.t204.desc) (.leaf))) (some Tryz.t44.desc) (.node (.node (.node (.leaf) (some Tryz.t300.desc) (.leaf)) (some Tryz.t172.desc) (.leaf)) (some Tryz.t107.desc) (.node (.node (.leaf) (some Tryz.t364.desc) (.leaf)) (some Tryz.t236.desc) (.leaf)))) (some Tryz.t28.desc) (.node (.node (.node (.node (.leaf) (some Tryz.t284.desc) (.leaf)) (some Tryz.t156.desc) (.leaf)) (some Tryz.t91.desc) (.node (.node (.leaf) (some Tryz.t348.desc) (.leaf)) (some Tryz.t220.desc) (.leaf))) (some Tryz.t60.desc) (.node (.node (.node (.leaf) (some Tryz.t316.desc) (.leaf)) (some Tryz.t187.desc) (.leaf)) (some Tryz.t124.desc) (.node (.node (.leaf) (some Tryz.t5.desc) (.leaf)) (some Tryz.t252.desc) (.leaf))))))) (some Tryz.t2.desc) (.node (.node (.node (.node (.node (.node (.node (.leaf) (some Tryz.t257.desc) (.leaf)) (some Tryz.t130.desc) (.node (.leaf) (some Tryz.t385.desc) (.leaf))) (some Tryz.t66.desc) (.node (.node (.leaf) (some Tryz.t322.desc) (.leaf)) (some Tryz.t194.desc) (.leaf))) (some Tryz.t34.desc) (.node (.node (.node (.leaf) (some Tryz.t289.desc) (.leaf)) (some Tryz.t162.desc) (.leaf)) (some Tryz.t98.desc) (.node (.node (.leaf) (some Tryz.t354.desc) (.leaf)) (some Tryz.t226.desc) (.leaf)))) (some Tryz.t18.desc) (.node (.node (.node (.node (.leaf) (some Tryz.t274.desc) (.leaf)) (some Tryz.t146.desc) (.leaf)) (some Tryz.t82.desc) (.node (.node (.leaf) (some Tryz.t338.desc) (.leaf)) (some Tryz.t209.desc) (.leaf))) (some Tryz.t50.desc) (.node (.node (.node (.leaf) (some Tryz.t306.desc) (.leaf)) (some Tryz.t178.desc) (.leaf)) (some Tryz.t114.desc) (.node (.node (.leaf) (some Tryz.t370.desc) (.leaf)) (some Tryz.t242.desc) (.leaf))))) (some Tryz.t9.desc) (.node (.node (.node (.node (.node (.leaf) (some Tryz.t266.desc) (.leaf)) (some Tryz.t138.desc) (.leaf)) (some Tryz.t74.desc) (.node (.node (.leaf) (some Tryz.t330.desc) (.leaf)) (some Tryz.t202.desc) (.leaf))) (some Tryz.t42.desc) (.node (.node (.node (.leaf) (some Tryz.t297.desc) (.leaf)) (some Tryz.t170.desc) (.leaf)) (some Tryz.t69.desc) (.node (.node (.leaf) (some Tryz.t362.desc) (.leaf)) (some Tryz.t234.desc) (.leaf)))) (some Tryz.t26.desc) (.node (.node (.node (.node (.leaf) (some Tryz.t282.desc) (.leaf)) (some Tryz.t154.desc) (.leaf)) (some Tryz.t90.desc) (.node (.node (.leaf) (some Tryz.t346.desc) (.leaf)) (some Tryz.t218.desc) (.leaf))) (some Tryz.t57.desc) (.node (.node (.node (.leaf) (some Tryz.t314.desc) (.leaf)) (some Tryz.t186.desc) (.leaf)) (some Tryz.t122.desc) (.node (.node (.leaf) (some Tryz.t377.desc) (.leaf)) (some Tryz.t250.desc) (.leaf)))))) (some Tryz.t5.desc) (.node (.node (.node (.node (.node (.node (.leaf) (some Tryz.t262.desc) (.leaf)) (some Tryz.t134.desc) (.leaf)) (some Tryz.t70.desc) (.node (.node (.leaf) (some Tryz.t326.desc) (.leaf)) (some Tryz.t198.desc) (.leaf))) (some Tryz.t38.desc) (.node (.node (.node (.leaf) (some Tryz.t293.desc) (.leaf)) (some Tryz.t166.desc) (.leaf)) (some Tryz.t102.desc) (.node (.node (.leaf) (some Tryz.t358.desc) (.leaf)) (some Tryz.t229.desc) (.leaf)))) (some Tryz.t22.desc) (.node (.node (.node (.node (.leaf) (some Tryz.t278.desc) (.leaf)) (some Tryz.t150.desc) (.leaf)) (some Tryz.t86.desc) (.node (.node (.leaf) (some Tryz.t342.desc) (.leaf)) (some Tryz.t213.desc) (.leaf))) (some Tryz.t54.desc) (.node (.node (.node (.leaf) (some Tryz.t309.desc) (.leaf)) (some Tryz.t181.desc) (.leaf)) (some Tryz.t118.desc) (.node (.node (.leaf) (some Tryz.t374.desc) (.leaf)) (some Tryz.t246.desc) (.leaf))))) (some Tryz.t13.desc) (.node (.node (.node (.node (.node (.leaf) (some Tryz.t270.desc) (.leaf)) (some Tryz.t142.desc) (.leaf)) (some Tryz.t78.desc) (.node (.node (.leaf) (some Tryz.t334.desc) (.leaf)) (some Tryz.t206.desc) (.leaf))) (some Tryz.t46.desc) (.node (.node (.node (.leaf) (some Tryz.t302.desc) (.leaf)) (some Tryz.t174.desc) (.leaf)) (some Tryz.t110.desc) (.node (.node (.leaf) (some Tryz.t366.desc) (.leaf)) (some Tryz.t238.desc) (.leaf)))) (some Tryz.t30.desc) (.node (.node (.node (.node (.leaf) (some Tryz.t286.desc) (.leaf)) (some Tryz.t158.desc) (.leaf)) (some Tryz.t94.desc) (.node (.node (.leaf) (some Tryz.t350.desc) (.leaf)) (some Tryz.t222.desc) (.leaf))) (some Tryz.t62.desc) (.node (.node (.node (.leaf) (some Tryz.t318.desc) (.leaf)) (some Tryz.t190.desc) (.leaf)) (some Tryz.t126.desc) (.node (.node (.leaf) (some Tryz.t382.desc) (.leaf)) (some Tryz.t254.desc) (.leaf))))))))
theorem tyT_eq : mkT tyL .leaf = tyT := by kernel_rfl
theorem tyL_ok : AllR (fun t d => Tryz.prog.underlying t = some d) tyL :=
  (.cons (Tryz.underlying0) <|
  (.cons (Tryz.underlying1) <|
  (.cons (Tryz.underlying2) <|
  (.cons (Tryz.underlying3) <|
  (.cons (Tryz.underlying4) <|
  (.cons (Tryz.underlying5) <|
  (.cons (Tryz.underlying6) <|
  (.cons (Tryz.underlying7) <|
  (.cons (Tryz.underlying8) <|
  (.cons (Tryz.underlying9) <|
  (.cons (Tryz.underlying10) <|
  (.cons (Tryz.underlying11) <|
  (.cons (Tryz.underlying12) <|
  (.cons (Tryz.underlying13) <|
  (.cons (Tryz.underlying14) <|
  (.cons (Tryz.underlying15) <|
  (.cons (Tryz.underlying16) <|
  (.cons (Tryz.underlying17) <|
  (.cons (Tryz.underlying18) <|
  (.cons (Tryz.underlying19) <|
  (.cons (Tryz.underlying20) <|
  (.cons (Tryz.underlying21) <|
  (.cons (Tryz.underlying22) <|
  (.cons (Tryz.underlying23) <|
  (.cons (Tryz.underlying24) <|
  (.cons (Tryz.underlying25) <|
  (.cons (Tryz.underlying26) <|
  (.cons (Tryz.underlying27) <|
  (.cons (Tryz.underlying28) <|
  (.cons (Tryz.underlying29) <|
  (.cons (Tryz.underlying30) <|
  (.cons (Tryz.underlying31) <|
  (.cons (Tryz.underlying32) <|
  (.cons (Tryz.underlying33) <|
  (.cons (Tryz.underlying34) <|
  (.cons (Tryz.underlying35) <|
  (.cons (Tryz.underlying36) <|
  (.cons (Tryz.underlying37) <|
  (.cons (Tryz.underlying38) <|
  (.cons (Tryz.underlying39) <|
  (.cons (Tryz.underlying40) <|
  (.cons (Tryz.underlying41) <|
  (.cons (Tryz.underlying42) <|
  (.cons (Tryz.underlying43) <|
  (.cons (Tryz.underlying44) <|
  (.cons (Tryz.underlying45) <|
  (.cons (Tryz.underlying46) <|
  (.cons (Tryz.underlying47) <|
  (.cons (Tryz.underlying48) <|
  (.cons (Tryz.underlying49) <|
  (.cons (Tryz.underlying50) <|
  (.cons (Tryz.underlying51) <|
  (.cons (Tryz.underlying52) <|
  (.cons (Tryz.underlying53) <|
  (.cons (Tryz.underlying54) <|
  (.cons (Tryz.underlying55) <|
  (.cons (Tryz.underlying56) <|
  (.cons (Tryz.underlying57) <|
  (.cons (Tryz.underlying58) <|
  (.cons (Tryz.underlying59) <|
  (.cons (Tryz.underlying60) <|
  (.cons (Tryz.underlying61) <|
  (.cons (Tryz.underlying62) <|
  (.cons (Tryz.underlying63) <|
  (.cons (Tryz.underlying64) <|
  (.cons (Tryz.underlying65) <|
  (.cons (Tryz.underlying66) <|
  (.cons (Tryz.underlying67) <|
  (.cons (Tryz.underlying68) <|
  (.cons (Tryz.underlying69) <|
  (.cons (Tryz.underlying70) <|
  (.cons (Tryz.underlying71) <|
  (.cons (Tryz.underlying72) <|
  (.cons (Tryz.underlying73) <|
  (.cons (Tryz.underlying74) <|
  (.cons (Tryz.underlying75) <|
  (.cons (Tryz.underlying76) <|
  (.cons (Tryz.underlying77) <|
  (.cons (Tryz.underlying78) <|
  (.cons (Tryz.underlying79) <|
  (.cons (Tryz.underlying80) <|
  (.cons (Tryz.underlying81) <|
  (.cons (Tryz.underlying82) <|
  (.cons (Tryz.underlying83) <|
  (.cons (Tryz.underlying84) <|
  (.cons (Tryz.underlying85) <|
  (.cons (Tryz.underlying86) <|
  (.cons (Tryz.underlying87) <|
  (.cons (Tryz.underlying88) <|
  (.cons (Tryz.underlying89) <|
  (.cons (Tryz.underlying90) <|
  (.cons (Tryz.underlying91) <|
  (.cons (Tryz.underlying92) <|
  (.cons (Tryz.underlying93) <|
  (.cons (Tryz.underlying94) <|
  (.cons (Tryz.underlying95) <|
  (.cons (Tryz.underlying96) <|
  (.cons (Tryz.underlying97) <|
  (.cons (Tryz.underlying98) <|
  (.cons (Tryz.underlying99) <|
  (.cons (Tryz.underlying100) <|
  (.cons (Tryz.underlying101) <|
  (.cons (Tryz.underlying102) <|
  (.cons (Tryz.underlying103) <|
  (.cons (Tryz.underlying104) <|
  (.cons (Tryz.underlying105) <|
  (.cons (Tryz.underlying106) <|
  (.cons (Tryz.underlying107) <|
  (.cons (Tryz.underlying108) <|
  (.cons (Tryz.underlying109) <|
  (.cons (Tryz.underlying110) <|
  (.cons (Tryz.underlying111) <|
  (.cons (Tryz.underlying112) <|
  (.cons (Tryz.underlying113) <|
  (.cons (Tryz.underlying114) <|
  (.cons (Tryz.underlying115) <|
  (.cons (Tryz.underlying116) <|
  (.cons (Tryz.underlying117) <|
  (.cons (Tryz.underlying118) <|
  (.cons (Tryz.underlying119) <|
  (.cons (Tryz.underlying120) <|
  (.cons (Tryz.underlying121) <|
  (.cons (Tryz.underlying122) <|
  (.cons (Tryz.underlying123) <|
  (.cons (Tryz.underlying124) <|
  (.cons (Tryz.underlying125) <|
  (.cons (Tryz.underlying126) <|
  (.cons (Tryz.underlying127) <|
  (.cons (Tryz.underlying128) <|
  (.cons (Tryz.underlying129) <|
  (.cons (Tryz.underlying130) <|
  (.cons (Tryz.underlying131) <|
  (.cons (Tryz.underlying132) <|
  (.cons (Tryz.underlying133) <|
  (.cons (Tryz.underlying134) <|
  (.cons (Tryz.underlying135) <|
  (.cons (Tryz.underlying136) <|
  (.cons (Tryz.underlying137) <|
  (.cons (Tryz.underlying138) <|
  (.cons (Tryz.underlying139) <|
  (.cons (Tryz.underlying140) <|
  (.cons (Tryz.underlying141) <|
  (.cons (Tryz.underlying142) <|
  (.cons (Tryz.underlying143) <|
  (.cons (Tryz.underlying144) <|
  (.cons (Tryz.underlying145) <|
  (.cons (Tryz.underlying146) <|
  (.cons (Tryz.underlying147) <|
  (.cons (Tryz.underlying148) <|
  (.cons (Tryz.underlying149) <|
  (.cons (Tryz.underlying150) <|
  (.cons (Tryz.underlying151) <|
  (.cons (Tryz.underlying152) <|
  (.cons (Tryz.underlying153) <|
  (.cons (Tryz.underlying154) <|
  (.cons (Tryz.underlying155) <|
  (.cons (Tryz.underlying156) <|
  (.cons (Tryz.underlying157) <|
  (.cons (Tryz.underlying158) <|
  (.cons (Tryz.underlying159) <|
  (.cons (Tryz.underlying160) <|
  (.cons (Tryz.underlying161) <|
  (.cons (Tryz.underlying162) <|
  (.cons (Tryz.underlying163) <|
  (.cons (Tryz.underlying164) <|
  (.cons (Tryz.underlying165) <|
  (.cons (Tryz.underlying166) <|
  (.cons (Tryz.underlying167) <|
  (.cons (Tryz.underlying168) <|
  (.cons (Tryz.underlying169) <|
  (.cons (Tryz.underlying170) <|
  (.cons (Tryz.underlying171) <|
  (.cons (Tryz.underlying172) <|
  (.cons (Tryz.underlying173) <|
  (.cons (Tryz.underlying174) <|
  (.cons (Tryz.underlying175) <|
  (.cons (Tryz.underlying176) <|
  (.cons (Tryz.underlying177) <|
  (.cons (Tryz.underlying178) <|
  (.cons (Tryz.underlying179) <|
  (.cons (Tryz.underlying180) <|
  (.cons (Tryz.underlying181) <|
  (.cons (Tryz.underlying182) <|
  (.cons (Tryz.underlying183) <|
  (.cons (Tryz.underlying184) <|
  (.cons (Tryz.underlying185) <|
  (.cons (Tryz.underlying186) <|
  (.cons (Tryz.underlying187) <|
  (.cons (Tryz.underlying188) <|
  (.cons (Tryz.underlying189) <|
  (.cons (Tryz.underlying190) <|
  (.cons (Tryz.underlying191) <|
  (.cons (Tryz.underlying192) <|
  (.cons (Tryz.underlying193) <|
  (.cons (Tryz.underlying194) <|
  (.cons (Tryz.underlying195) <|
  (.cons (Tryz.underlying196) <|
  (.cons (Tryz.underlying197) <|
  (.cons (Tryz.underlying198) <|
  (.cons (Tryz.underlying199) <|
  (.cons (Tryz.underlying200) <|
  (.cons (Tryz.underlying201) <|
  (.cons (Tryz.underlying202) <|
  (.cons (Tryz.underlying203) <|
  (.cons (Tryz.underlying204) <|
  (.cons (Tryz.underlying205) <|
  (.cons (Tryz.underlying206) <|
  (.cons (Tryz.underlying207) <|
  (.cons (Tryz.underlying208) <|
  (.cons (Tryz.underlying209) <|
  (.cons (Tryz.underlying210) <|
  (.cons (Tryz.underlying211) <|
  (.cons (Tryz.underlying212) <|
  (.cons (Tryz.underlying213) <|
  (.cons (Tryz.underlying214) <|
  (.cons (Tryz.underlying215) <|
  (.cons (Tryz.underlying216) <|
  (.cons (Tryz.underlying217) <|
  (.cons (Tryz.underlying218) <|
  (.cons (Tryz.underlying219) <|
  (.cons (Tryz.underlying220) <|
  (.cons (Tryz.underlying221) <|
  (.cons (Tryz.underlying222) <|
  (.cons (Tryz.underlying223) <|
  (.cons (Tryz.underlying224) <|
  (.cons (Tryz.underlying225) <|
  (.cons (Tryz.underlying226) <|
  (.cons (Tryz.underlying227) <|
  (.cons (Tryz.underlying228) <|
  (.cons (Tryz.underlying229) <|
  (.cons (Tryz.underlying230) <|
  (.cons (Tryz.underlying231) <|
  (.cons (Tryz.underlying232) <|
  (.cons (Tryz.underlying233) <|
  (.cons (Tryz.underlying234) <|
  (.cons (Tryz.underlying235) <|
  (.cons (Tryz.underlying236) <|
  (.cons (Tryz.underlying237) <|
  (.cons (Tryz.underlying238) <|
  (.cons (Tryz.underlying239) <|
  (.cons (Tryz.underlying240) <|
  (.cons (Tryz.underlying241) <|
  (.cons (Tryz.underlying242) <|
  (.cons (Tryz.underlying243) <|
  (.cons (Tryz.underlying244) <|
  (.cons (Tryz.underlying245) <|
  (.cons (Tryz.underlying246) <|
  (.cons (Tryz.underlying247) <|
  (.cons (Tryz.underlying248) <|
  (.cons (Tryz.underlying249) <|
  (.cons (Tryz.underlying250) <|
  (.cons (Tryz.underlying251) <|
  (.cons (Tryz.underlying252) <|
  (.cons (Tryz.underlying253) <|
  (.cons (Tryz.underlying254) <|
  (.cons (Tryz.underlying255) <|
  (.cons (Tryz.underlying256) <|
  (.cons (Tryz.underlying257) <|
  (.cons (Tryz.underlying258) <|
  (.cons (Tryz.underlying259) <|
  (.cons (Tryz.underlying260) <|
  (.cons (Tryz.underlying261) <|
  (.cons (Tryz.underlying262) <|
  (.cons (Tryz.underlying263) <|
  (.cons (Tryz.underlying264) <|
  (.cons (Tryz.underlying265) <|
  (.cons (Tryz.underlying266) <|
  (.cons (Tryz.underlying267) <|
  (.cons (Tryz.underlying268) <|
  (.cons (Tryz.underlying269) <|
  (.cons (Tryz.underlying270) <|
  (.cons (Tryz.underlying271) <|
  (.cons (Tryz.underlying272) <|
  (.cons (Tryz.underlying273) <|
  (.cons (Tryz.underlying274) <|
  (.cons (Tryz.underlying275) <|
  (.cons (Tryz.underlying276) <|
  (.cons (Tryz.underlying277) <|
  (.cons (Tryz.underlying278) <|
  (.cons (Tryz.underlying279) <|
  (.cons (Tryz.underlying280) <|
  (.cons (Tryz.underlying281) <|
  (.cons (Tryz.underlying282) <|
  (.cons (Tryz.underlying283) <|
  (.cons (Tryz.underlying284) <|
  (.cons (Tryz.underlying285) <|
  (.cons (Tryz.underlying286) <|
  (.cons (Tryz.underlying287) <|
  (.cons (Tryz.underlying288) <|
  (.cons (Tryz.underlying289) <|
  (.cons (Tryz.underlying290) <|
  (.cons (Tryz.underlying291) <|
  (.cons (Tryz.underlying292) <|
  (.cons (Tryz.underlying293) <|
  (.cons (Tryz.underlying294) <|
  (.cons (Tryz.underlying295) <|
  (.cons (Tryz.underlying296) <|
  (.cons (Tryz.underlying297) <|
  (.cons (Tryz.underlying298) <|
  (.cons (Tryz.underlying299) <|
  (.cons (Tryz.underlying300) <|
  (.cons (Tryz.underlying301) <|
  (.cons (Tryz.underlying302) <|
  (.cons (Tryz.underlying303) <|
  (.cons (Tryz.underlying304) <|
  (.cons (Tryz.underlying305) <|
  (.cons (Tryz.underlying306) <|
  (.cons (Tryz.underlying307) <|
  (.cons (Tryz.underlying308) <|
  (.cons (Tryz.underlying309) <|
  (.cons (Tryz.underlying310) <|
  (.cons (Tryz.underlying311) <|
  (.cons (Tryz.underlying312) <|
  (.cons (Tryz.underlying313) <|
  (.cons (Tryz.underlying314) <|
  (.cons (Tryz.underlying315) <|
  (.cons (Tryz.underlying316) <|
  (.cons (Tryz.underlying317) <|
  (.cons (Tryz.underlying318) <|
  (.cons (Tryz.underlying319) <|
  (.cons (Tryz.underlying320) <|
  (.cons (Tryz.underlying321) <|
  (.cons (Tryz.underlying322) <|
  (.cons (Tryz.underlying323) <|
  (.cons (Tryz.underlying324) <|
  (.cons (Tryz.underlying325) <|
  (.cons (Tryz.underlying326) <|
  (.cons (Tryz.underlying327) <|
  (.cons (Tryz.underlying328) <|
  (.cons (Tryz.underlying329) <|
  (.cons (Tryz.underlying330) <|
  (.cons (Tryz.underlying331) <|
  (.cons (Tryz.underlying332) <|
  (.cons (Tryz.underlying333) <|
  (.cons (Tryz.underlying334) <|
  (.cons (Tryz.underlying335) <|
  (.cons (Tryz.underlying336) <|
  (.cons (Tryz.underlying337) <|
  (.cons (Tryz.underlying338) <|
  (.cons (Tryz.underlying339) <|
  (.cons (Tryz.underlying340) <|
  (.cons (Tryz.underlying341) <|
  (.cons (Tryz.underlying342) <|
  (.cons (Tryz.underlying343) <|
  (.cons (Tryz.underlying344) <|
  (.cons (Tryz.underlying345) <|
  (.cons (Tryz.underlying346) <|
  (.cons (Tryz.underlying347) <|
  (.cons (Tryz.underlying348) <|
  (.cons (Tryz.underlying349) <|
  (.cons (Tryz.underlying350) <|
  (.cons (Tryz.underlying351) <|
  (.cons (Tryz.underlying352) <|
  (.cons (Tryz.underlying353) <|
  (.cons (Tryz.underlying354) <|
  (.cons (Tryz.underlying355) <|
  (.cons (Tryz.underlying356) <|
  (.cons (Tryz.underlying357) <|
  (.cons (Tryz.underlying358) <|
  (.cons (Tryz.underlying359) <|
  (.cons (Tryz.underlying360) <|
  (.cons (Tryz.underlying361) <|
  (.cons (Tryz.underlying362) <|
  (.cons (Tryz.underlying363) <|
  (.cons (Tryz.underlying364) <|
  (.cons (Tryz.underlying365) <|
  (.cons (Tryz.underlying366) <|
  (.cons (Tryz.underlying367) <|
  (.cons (Tryz.underlying368) <|
  (.cons (Tryz.underlying369) <|
  (.cons (Tryz.underlying370) <|
  (.cons (Tryz.underlying371) <|
  (.cons (Tryz.underlying372) <|
  (.cons (Tryz.underlying373) <|
  (.cons (Tryz.underlying374) <|
  (.cons (Tryz.underlying375) <|
  (.cons (Tryz.underlying376) <|
  (.cons (Tryz.underlying377) <|
  (.cons (Tryz.underlying378) <|
  (.cons (Tryz.underlying379) <|
  (.cons (Tryz.underlying380) <|
  (.cons (Tryz.underlying381) <|
  (.cons (Tryz.underlying382) <|
  (.cons (Tryz.underlying383) <|
  (.cons (Tryz.underlying384) <|
  (.cons (Tryz.underlying385) <|
  (.cons (Tryz.underlying386) <|
  (.cons (Tryz.underlying387) <|
  (.cons (Tryz.underlying388) <|
  (.cons (Tryz.underlying389) <| .nil))))))))))))))))))))))))))))))))))))))))))))))))))))))))))))))))))))))))))))))))))))))))))))))))))))))))))))))))))))))))))))))))))))))))))))))))))))))))))))))))))))))))))))))))))))))))))))))))))))))))))))))))))))))))))))))))))))))))))))))))))))))))))))))))))))))))))))))))))))))))))))))))))))))))))))))))))))))))))))))))))))))))))))))))))))))))))))))))))))))))))))))))))))))))))))))))))))))
noncomputable def inL : List (Nat × TypeInfo) := [(0, Tryz.t0), (1, Tryz.t1), (2, Tryz.t2), (3, Tryz.t3), (4, Tryz.t4), (5, Tryz.t5), (6, Tryz.t6), (7, Tryz.t7), (8, Tryz.t8), (9, Tryz.t9), (10, Tryz.t10), (11, Tryz.t11), (12, Tryz.t12), (13, Tryz.t13), (14, Tryz.t14), (15, Tryz.t15), (16, Tryz.t16), (17, Tryz.t17), (18, Tryz.t18), (19, Tryz.t19), (20, Tryz.t20), (21, Tryz.t21), (22, Tryz.t22), (23, Tryz.t23), (24, Tryz.t24), (25, Tryz.t25), (26, Tryz.t26), (27, Tryz.t27), (28, Tryz.t28), (29, Tryz.t29), (30, Tryz.t30), (31, Tryz.t31), (32, Tryz.t32), (33, Tryz.t33), (34, Tryz.t34), (35, Tryz.t35), (36, Tryz.t36), (37, Tryz.t37), (38, Tryz.t38), (39, Tryz.t39), (40, Tryz.t40), (41, Tryz.t41), (42, Tryz.t42), (43, Tryz.t43), (44, Tryz.t44), (45, Tryz.t45), (46, Tryz.t46), (47, Tryz.t47), (48, Tryz.t48), (49, Tryz.t49), (50, Tryz.t50), (51, Tryz.t51), (52, Tryz.t52), (53, Tryz.t53), (54, Tryz.t54), (55, Tryz.t55), (56, Tryz.t56), (57, Tryz.t57), (58, Tryz.t58), (59, Tryz.t59), (60, Tryz.t60), (61, Tryz.t61), (62, Tryz.t62), (63, Tryz.t63), (64, Tryz.t64), (65, Tryz.t65), (66, Tryz.t66), (67, Tryz.t67), (68, Tryz.t68), (69, Tryz.t69), (70, Tryz.t70), (71, Tryz.t71), (72, Tryz.t72), (73, Tryz.t73), (74, Tryz.t74), (75, Tryz.t75), (76, Tryz.t76), (77, Tryz.t77), (78, Tryz.t78), (79, Tryz.t79), (80, Tryz.t80), (81, Tryz.t81), (82, Tryz.t82), (83, Tryz.t83), (84, Tryz.t84), (85, Tryz.t85), (86, Tryz.t86), (87, Tryz.t87), (88, Tryz.t88), (89, Tryz.t89), (90, Tryz.t90), (91, Tryz.t91), (92, Tryz.t92), (93, Tryz.t93), (94, Tryz.t94), (95, Tryz.t95), (96, Tryz.t96), (97, Tryz.t97), (98, Tryz.t98), (99, Tryz.t99), (100, Tryz.t100), (101, Tryz.t101), (102, Tryz.t102), (103, Tryz.t103), (104, Tryz.t104), (105, Tryz.t105), (106, Tryz.t106), (107, Tryz.t107), (108, Tryz.t108), (109, Tryz.t109), (110, Tryz.t110), (111, Tryz.t111), (112, Tryz.t112), (113, Tryz.t113), (114, Tryz.t114), (115, Tryz.t115), (116, Tryz.t116), (117, Tryz.t117), (118, Tryz.t118), (119, Tryz.t119), (120, Tryz.t120), (121, Tryz.t121), (122, Tryz.t122), (123, Tryz.t123), (124, Tryz.t124), (125, Tryz.t125), (126, Tryz.t126), (127, Tryz.t127), (128, Tryz.t128), (129, Tryz.t129), (130, Tryz.t130), (131, Tryz.t131), (132, Tryz.t132), (133, Tryz.t133), (134, Tryz.t134), (135, Tryz.t135), (136, Tryz.t136), (137, Tryz.t137), (138, Tryz.t138), (139, Tryz.t139), (140, Tryz.t140), (141, Tryz.t141), (142, Tryz.t142), (143, Tryz.t143), (144, Tryz.t144), (145, Tryz.t145), (146, Tryz.t146), (147, Tryz.t147), (148, Tryz.t148), (149, Tryz.t149), (150, Tryz.t150), (151, Tryz.t151), (152, Tryz.t152), (153, Tryz.t153), (154, Tryz.t154), (155, Tryz.t155), (156, Tryz.t156), (157, Tryz.t157), (158, Tryz.t158), (159, Tryz.t159), (160, Tryz.t160), (161, Tryz.t161), (162, Tryz.t162), (163, Tryz.t163), (164, Tryz.t164), (165, Tryz.t165), (166, Tryz.t166), (167, Tryz.t167), (168, Tryz.t168), (169, Tryz.t169), (170, Tryz.t170), (171, Tryz.t171), (172, Tryz.t172), (173, Tryz.t173), (174, Tryz.t174), (175, Tryz.t175), (176, Tryz.t176), (177, Tryz.t177), (178, Tryz.t178), (179, Tryz.t179), (180, Tryz.t180), (181, Tryz.t181), (182, Tryz.t182), (183, Tryz.t183), (184, Tryz.t184), (185, Tryz.t185), (186, Tryz.t186), (187, Tryz.t187), (188, Tryz.t188), (189, Tryz.t189), (190, Tryz.t190), (191, Tryz.t191), (192, Tryz.t192), (193, Tryz.t193), (194, Tryz.t194), (195, Tryz.t195), (196, Tryz.t196), (197, Tryz.t197), (198, Tryz.t198), (199, Tryz.t199), (200, Tryz.t200), (201, Tryz.t201), (202, Tryz.t202), (203, Tryz.t203), (204, Tryz.t204), (205, Tryz.t205), (206, Tryz.t206), (207, Tryz.t207), (208, Tryz.t208), (209, Tryz.t209), (210, Tryz.t210), (211, Tryz.t211), (212, Tryz.t212), (213, Tryz.t213), (214, Tryz.t214), (215, Tryz.t215), (216, Tryz.t216), (217, Tryz.t217), (218, Tryz.t218), (219, Tryz.t219), (220, Tryz.t220), (221, Tryz.t221), (222, Tryz.t222), (223, Tryz.t223), (224, Tryz.t224), (225, Tryz.t225), (226, Tryz.t226), (227, Tryz.t227), (228, Tryz.t228), (229, Tryz.t229), (230, Tryz.t230), (231, Tryz.t231), (232, Tryz.t232), (233, Tryz.t233), (234, Tryz.t234), (235, Tryz.t235), (236, Tryz.t236), (237, Tryz.t237), (238, Tryz.t238), (239, Tryz.t239), (240, Tryz.t240), (241, Tryz.t241), (242, Tryz.t242), (243, Tryz.t243), (244, Tryz.t244), (245, Tryz.t245), (246, Tryz.t246), (247, Tryz.t247), (248, Tryz.t248), (249, Tryz.t249), (250, Tryz.t250), (251, Tryz.t251), (252, Tryz.t252), (253, Tryz.t253), (254, Tryz.t254), (255, Tryz.t255), (256, Tryz.t256), (257, Tryz.t257), (258, Tryz.t258), (259, Tryz.t259), (260, Tryz.t260), (261, Tryz.t261), (262, Tryz.t262), (263, Tryz.t263), (264, Tryz.t264), (265, Tryz.t265), (266, Tryz.t266), (267, Tryz.t267), (268, Tryz.t268), (269, Tryz.t269), (270, Tryz.t270), (271, Tryz.t271), (272, Tryz.t272), (273, Tryz.t273), (274, Tryz.t274), (275, Tryz.t275), (276, Tryz.t276), (277, Tryz.t277), (278, Tryz.t278), (279, Tryz.t279), (280, Tryz.t280), (281, Tryz.t281), (282, Tryz.t282), (283, Tryz.t283), (284, Tryz.t284), (285, Tryz.t285), (286, Tryz.t286), (287, Tryz.t287), (288, Tryz.t288), (289, Tryz.t289), (290, Tryz.t290), (291, Tryz.t291), (292, Tryz.t292), (293, Tryz.t293), (294, Tryz.t294), (295, Tryz.t295), (296, Tryz.t296), (297, Tryz.t297), (298, Tryz.t298), (299, Tryz.t299), (300, Tryz.t300), (301, Tryz.t301), (302, Tryz.t302), (303, Tryz.t303), (304, Tryz.t304), (305, Tryz.t305), (306, Tryz.t306), (307, Tryz.t307), (308, Tryz.t308), (309, Tryz.t309), (310, Tryz.t310), (311, Tryz.t311), (312, Tryz.t312), (313, Tryz.t313), (314, Tryz.t314), (315, Tryz.t315), (316, Tryz.t316), (317, Tryz.t317), (318, Tryz.t318), (319, Tryz.t319), (320, Tryz.t320), (321, Tryz.t321), (322, Tryz.t322), (323, Tryz.t323), (324, Tryz.t324), (325, Tryz.t325), (326, Tryz.t326), (327, Tryz.t327), (328, Tryz.t328), (329, Tryz.t329), (330, Tryz.t330), (331, Tryz.t331), (332, Tryz.t332), (333, Tryz.t333), (334, Tryz.t334), (335, Tryz.t335), (336, Tryz.t336), (337, Tryz.t337), (338, Tryz.t338), (339, Tryz.t339), (340, Tryz.t340), (341, Tryz.t341), (342, Tryz.t342), (343, Tryz.t343), (344, Tryz.t344), (345, Tryz.t345), (346, Tryz.t346), (347, Tryz.t347), (348, Tryz.t348), (349, Tryz.t349), (350, Tryz.t350), (351, Tryz.t351), (352, Tryz.t352), (353, Tryz.t353), (354, Tryz.t354), (355, Tryz.t355), (356, Tryz.t356), (357, Tryz.t357), (358, Tryz.t358), (359, Tryz.t359), (360, Tryz.t360), (361, Tryz.t361), (362, Tryz.t362), (363, Tryz.t363), (364, Tryz.t364), (365, Tryz.t365), (366, Tryz.t366), (367, Tryz.t367), (368, Tryz.t368), (369, Tryz.t369), (370, Tryz.t370), (371, Tryz.t371), (372, Tryz.t372), (373, Tryz.t373), (374, Tryz.t374), (375, Tryz.t375), (376, Tryz.t376), (377, Tryz.t377), (378, Tryz.t378), (379, Tryz.t379), (380, Tryz.t380), (381, Tryz.t381), (382, Tryz.t382), (383, Tryz.t383), (384, Tryz.t384), (385, Tryz.t385), (386, Tryz.t386), (387, Tryz.t387), (388, Tryz.t388), (389, Tryz.t389)]
noncomputable def inT : T TypeInfo := .node (.node (.node (.node (.node (.node (.node (.node (.node (.leaf) (some Tryz.t255) (.leaf)) (some Tryz.t127) (.node (.leaf) (some Tryz.t383) (.leaf))) (some Tryz.t63) (.node (.node (.leaf) (some Tryz.t319) (.leaf)) (some Tryz.t191) (.leaf))) (some Tryz.t31) (.node (.node (.node (.leaf) (some Tryz.t287) (.leaf)) (some Tryz.t159) (.leaf)) (some Tryz.t95) (.node (.node (.leaf) (some Tryz.t351) (.leaf)) (some Tryz.t223) (.leaf)))) (some Tryz.t15) (.node (.node (.node (.node (.leaf) (some Tryz.t271) (.leaf)) (some Tryz.t143) (.leaf)) (some Tryz.t79) (.node (.node (.leaf) (some Tryz.t335) (.leaf)) (some Tryz.t207) (.leaf))) (some Tryz.t47) (.node (.node (.node (.leaf) (some Tryz.t303) (.leaf)) (some Tryz.t175) (.leaf)) (some Tryz.t111) (.node (.node (.leaf) (some Tryz.t367) (.leaf)) (some Tryz.t239) (.leaf))))) (some Tryz.t7) (.node (.node (.node (.node (.node (.leaf) (some Tryz.t263) (.leaf)) (some Tryz.t135) (.leaf)) (some Tryz.t71) (.node (.node (.leaf) (some Tryz.t327) (.leaf)) (some Tryz.t199) (.leaf))) (some Tryz.t39) (.node (.node (.node (.leaf) (some Tryz.t295) (.leaf)) (some Tryz.t167) (.leaf)) (some Tryz.t103) (.node (.node (.leaf) (some Tryz.t359) (.leaf)) (some Tryz.t231) (.leaf)))) (some Tryz.t23) (.node (.node (.node (.node (.leaf) (some Tryz.t279) (.leaf)) (some Tryz.t151) (.leaf)) (some Tryz.t87) (.node (.node (.leaf) (some Tryz.t343) (.leaf)) (some Tryz.t215) (.leaf))) (some Tryz.t55) (.node (.node (.node (.leaf) (some Tryz.t311) (.leaf)) (some Tryz.t183) (.leaf)) (some Tryz.t119) (.node (.node (.leaf) (some Tryz.t375) (.leaf)) (some Tryz.t247) (.leaf)))))) (some Tryz.t3) (.node (.node (.node (.node (.node (.node (.leaf) (some Tryz.t259) (.leaf)) (some Tryz.t131) (.node (.leaf) (some Tryz.t387) (.leaf))) (some Tryz.t67) (.node (.node (.leaf) (some Tryz.t323) (.leaf)) (some Tryz.t195) (.leaf))) (some Tryz.t35) (.node (.node (.node (.leaf) (some Tryz.t291) (.leaf)) (some Tryz.t163) (.leaf)) (some Tryz.t99) (.node (.node (.leaf) (some Tryz.t355) (.leaf)) (some Tryz.t227) (.leaf)))) (some Tryz.t19) (.node (.node (.node (.node (.leaf) (some Tryz.t275) (.leaf)) (some Tryz.t147) (.leaf)) (some Tryz.t83) (.node (.node (.leaf) (some Tryz.t339) (.leaf)) (some Tryz.t211) (.leaf))) (some Tryz.t51) (.node (.node (.node (.leaf) (some Tryz.t307) (.leaf)) (some Tryz.t179) (.leaf)) (some Tryz.t115) (.node (.node (.leaf) (some Tryz.t371) (.leaf)) (some Tryz.t243) (.leaf))))) (some Tryz.t11) (.node (.node (.node (.node (.node (.leaf) (some Tryz.t267) (.leaf)) (some Tryz.t139) (.leaf)) (some Tryz.t75) (.node (.node (.leaf) (some Tryz.t331) (.leaf)) (some Tryz.t203) (.leaf))) (some Tryz.t43) (.node (.node (.node (.leaf) (some Tryz.t299) (.leaf)) (some Tryz.t171) (.leaf)) (some Tryz.t107) (.node (.node (.leaf) (some Tryz.t363) (.leaf)) (some Tryz.t235) (.leaf)))) (some Tryz.t27) (.node (.node (.node (.node (.leaf) (some Tryz.t283) (.leaf)) (some Tryz.t155) (.leaf)) (some Tryz.t91) (.node (.node (.leaf) (some Tryz.t347) (.leaf)) (some Tryz.t219) (.leaf))) (some Tryz.t59) (.node (.node (.node (.leaf) (some Tryz.t315) (.leaf)) (some Tryz.t187) (.leaf)) (some Tryz.t123) (.node (.node (.leaf) (some Tryz.t379) (.leaf)) (some Tryz.t251) (.leaf))))))) (some Tryz.t1) (.node (.node (.node (.node (.node (.node (.node (.leaf) (some Tryz.t257) (.leaf)) (some Tryz.t129) (.node (.leaf) (some Tryz.t385) (.leaf))) (some Tryz.t65) (.node (.node (.leaf) (some Tryz.t321) (.leaf)) (some Tryz.t193) (.leaf))) (some Tryz.t33) (.node (.node (.node (.leaf) (some Tryz.t289) (.leaf)) (some Tryz.t161) (.leaf)) (some Tryz.t97) (.node (.node (.leaf) (some Tryz.t353) (.leaf)) (some Tryz.t225) (.leaf)))) (some Tryz.t17) (.node (.node (.node (.node (.leaf) (some Tryz.t273) (.leaf)) (some Tryz.t145) (.leaf)) (some Tryz.t81) (.node (.node (.leaf) (some Tryz.t337) (.leaf)) (some Tryz.t209) (.leaf))) (some Tryz.t49) (.node (.node (.node (.leaf) (some Tryz.t305) (.leaf)) (some Tryz.t177) (.leaf)) (some Tryz.t113) (.node (.node (.leaf) (some Tryz.t369) (.leaf)) (some Tryz.t241) (.leaf))))) (some Tryz.t9) (.node (.node (.node (.node (.node (.leaf) (some Tryz.t265) (.leaf)) (some Tryz.t137) (.leaf)) (some Tryz.t73) (.node (.node (.leaf) (some Tryz.t329) (.leaf)) (some Tryz.t201) (.leaf))) (some Tryz.t41) (.node (.node (.node (.leaf) (some Tryz.t297) (.leaf)) (some Tryz.t169) (.leaf)) (some Tryz.t105) (.node (.node (.leaf) (some Tryz.t361) (.leaf)) (some Tryz.t233) (.leaf)))) (some Tryz.t25) (.node (.node (.node (.node (.leaf) (some Tryz.t281) (.leaf)) (some Tryz.t153) (.leaf)) (some Tryz.t89) (.node (.node (.leaf) (some Tryz.t345) (.leaf)) (some Tryz.t217) (.leaf))) (some Tryz.t57) (.node (.node (.node (.leaf) (some Tryz.t313) (.leaf)) (some Tryz.t185) (.leaf)) (some Tryz.t121) (.node (.node (.leaf) (some Tryz.t377) (.leaf)) (some Tryz.t249) (.leaf)))))) (some Tryz.t5) (.node (.node (.node (.node (.node (.node (.leaf) (some Tryz.t261) (.leaf)) (some Tryz.t133) (.node (.leaf) (some Tryz.t389) (.leaf))) (some Tryz.t69) (.node (.node (.leaf) (some Tryz.t325) (.leaf)) (some Tryz.t197) (.leaf))) (some Tryz.t37) (.node (.node (.node (.leaf) (some Tryz.t293) (.leaf)) (some Tryz.t165) (.leaf)) (some Tryz.t101) (.node (.node (.leaf) (some Tryz.t357) (.leaf)) (some Tryz.t229) (.leaf)))) (some Tryz.t21) (.node (.node (.node (.node (.leaf) (some Tryz.t277) (.leaf)) (some Tryz.t149) (.leaf)) (some Tryz.t85) (.node (.node (.leaf) (some Tryz.t341) (.leaf)) (some Tryz.t213) (.leaf))) (some Tryz.t53) (.node (.node (.node (.leaf) (some Tryz.t309) (.leaf)) (some Tryz.t181) (.leaf)) (some Tryz.t117) (.node (.node (.leaf) (some Tryz.t373) (.leaf)) (some Tryz.t245) (.leaf))))) (some Tryz.t13) (.node (.node (.node (.node (.node (.leaf) (some Tryz.t269) (.leaf)) (some Tryz.t141) (.leaf)) (some Tryz.t77) (.node (.node (.leaf) (some Tryz.t333) (.leaf)) (some Tryz.t205) (.leaf))) (some Tryz.t45) (.node (.node (.node (.leaf) (some Tryz.t301) (.leaf)) (some Tryz.t173) (.leaf)) (some Tryz.t109) (.node (.node (.leaf) (some Tryz.t365) (.leaf)) (some Tryz.t237) (.leaf)))) (some Tryz.t29) (.node (.node (.node (.node (.leaf) (some Tryz.t285) (.leaf)) (some Tryz.t157) (.leaf)) (some Tryz.t93) (.node (.node (.leaf) (some Tryz.t349) (.leaf)) (some Tryz.t221) (.leaf))) (some Tryz.t61) (.node (.node (.node (.leaf) (some Tryz.t317) (.leaf)) (some Tryz.t189) (.leaf)) (some Tryz.t125) (.node (.node (.leaf) (some Tryz.t381) (.leaf)) (some Tryz.t253) (.leaf)))))))) (some Tryz.t0) (.node (.node (.node (.node (.node (.node (.node (.node (.leaf) (some Tryz.t256) (.leaf)) (some Tryz.t128) (.node (.leaf) (some Tryz.t384) (.leaf))) (some Tryz.t64) (.node (.node (.leaf) (some Tryz.t320) (.leaf)) (some Tryz.t192) (.leaf))) (some Tryz.t32) (.node (.node (.node (.leaf) (some Tryz.t288) (.leaf)) (some Tryz.t160) (.leaf)) (some Tryz.t96) (.node (.node (.leaf) (some Tryz.t352) (.leaf)) (some Tryz.t224) (.leaf)))) (some Tryz.t16) (.node (.node (.node (.node (.leaf) (some Tryz.t272) (.leaf)) (some Tryz.t144) (.leaf)) (some Tryz.t80) (.node (.node (.leaf) (some Tryz.t336) (.leaf)) (some Tryz.t208) (.leaf))) (some Tryz.t48) (.node (.node (.node (.leaf) (some Tryz.t304) (.leaf)) (some Tryz.t176) (.leaf)) (some Tryz.t112) (.node (.node (.leaf) (some Tryz.t368) (.leaf)) (some Tryz.t240) (.leaf))))) (some Tryz.t8) (.node (.node (.node (.node (.node (.leaf) (some Tryz.t264) (.leaf)) (some Tryz.t136) (.leaf)) (some Tryz.t72) (.node (.node (.leaf) (some Tryz.t328) (.leaf)) (some Tryz.t200) (.leaf))) (some Tryz.t40) (.node (.node (.node (.leaf) (some Tryz.t296) (.leaf)) (some Tryz.t168) (.leaf)) (some Tryz.t104) (.node (.node (.leaf) (some Tryz.t360) (.leaf)) (some Tryz.t232) (.leaf)))) (some Tryz.t24) (.node (.node (.node (.node (.leaf) (some Tryz.t280) (.leaf)) (some Tryz.t152) (.leaf)) (some Tryz.t88) (.node (.node (.leaf) (some Tryz.t344) (.leaf)) (some Tryz.t216) (.leaf))) (some Tryz.t56) (.node (.node (.node (.leaf) (some Tryz.t312) (.leaf)) (some Tryz.t184) (.leaf)) (some Tryz.t120) (.node (.node (.leaf) (some Tryz.t376) (.leaf)) (some Tryz.t248) (.leaf)))))) (some Tryz.t4) (.node (.node (.node (.node (.node (.node (.leaf) (some Tryz.t260) (.leaf)) (some Tryz.t132) (.node (.leaf) (some Tryz.t388) (.leaf))) (some Tryz.t68) (.node (.node (.leaf) (some Tryz.t324) (.leaf)) (some Tryz.t196) (.leaf))) (some Tryz.t36) (.node (.node (.node (.leaf) (some Tryz.t292) (.leaf)) (some Tryz.t164) (.leaf)) (some Tryz.t100) (.node (.node (.leaf) (some Tryz.t356) (.leaf)) (some Tryz.t228) (.leaf)))) (some Tryz.t20) (.node (.node (.node (.node (.leaf) (some Tryz.t276) (.leaf)) (some Tryz.t148) (.leaf)) (some Tryz.t84) (.node (.node (.leaf) (some Tryz.t340) (.leaf)) (some Tryz.t212) (.leaf))) (some Tryz.t52) (.node (.node (.node (.leaf) (some Tryz.t308) (.leaf)) (some Tryz.t180) (.leaf)) (some Tryz.t116) (.node (.node (.leaf) (some Tryz.t372) (.leaf)) (some Tryz.t244) (.leaf))))) (some Tryz.t12) (.node (.node (.node (.node (.node (.leaf) (some Tryz.t268) (.leaf)) (some Tryz.t140) (.leaf)) (some Tryz.t76) (.node (.node (.leaf) (some Tryz.t332) (.leaf)) (some Tryz.t204) (.leaf))) (some Tryz.t44) (.node (.node (.node (.leaf) (some Tryz.t300) (.leaf)) (some Tryz.t172) (.leaf)) (some Tryz.t108) (.node (.node (.leaf) (some Tryz.t364) (.leaf)) (some Tryz.t236) (.leaf)))) (some Tryz.t28) (.node (.node (.node (.node (.leaf) (some Tryz.t284) (.leaf)) (some Tryz.t156) (.leaf)) (some Tryz.t92) (.node (.node (.leaf) (some Tryz.t348) (.leaf)) (some Tryz.t220) (.leaf))) (some Tryz.t60) (.node (.node (.node (.leaf) (some Tryz.t316) (.leaf)) (some Tryz.t188) (.leaf)) (some Tryz.t124) (.node (.node (.leaf) (some Tryz.t380) (.leaf)) (some Tryz.t252) (.leaf))))))) (some Tryz.t2) (.node (.node (.node (.node (.node (.node (.node (.leaf) (some Tryz.t258) (.leaf)) (some Tryz.t130) (.node (.leaf) (some Tryz.t386) (.leaf))) (some Tryz.t66) (.node (.node (.leaf) (some Tryz.t322) (.leaf)) (some Tryz.t194) (.leaf))) (some Tryz.t34) (.node (.node (.node (.leaf) (some Tryz.t290) (.leaf)) (some Tryz.t162) (.leaf)) (some Tryz.t98) (.node (.node (.leaf) (some Tryz.t354) (.leaf)) (some Tryz.t226) (.leaf)))) (some Tryz.t18) (.node (.node (.node (.node (.leaf) (some Tryz.t274) (.leaf)) (some Tryz.t146) (.leaf)) (some Tryz.t82) (.node (.node (.leaf) (some Tryz.t338) (.leaf)) (some Tryz.t210) (.leaf))) (some Tryz.t50) (.node (.node (.node (.leaf) (some Tryz.t306) (.leaf)) (some Tryz.t178) (.leaf)) (some Tryz.t114) (.node (.node (.leaf) (some Tryz.t370) (.leaf)) (some Tryz.t242) (.leaf))))) (some Tryz.t10) (.node (.node (.node (.node (.node (.leaf) (some Tryz.t266) (.leaf)) (some Tryz.t138) (.leaf)) (some Tryz.t74) (.node (.node (.leaf) (some Tryz.t330) (.leaf)) (some Tryz.t202) (.leaf))) (some Tryz.t42) (.node (.node (.node (.leaf) (some Tryz.t298) (.leaf)) (some Tryz.t170) (.leaf)) (some Tryz.t106) (.node (.node (.leaf) (some Tryz.t362) (.leaf)) (some Tryz.t234) (.leaf)))) (some Tryz.t26) (.node (.node (.node (.node (.leaf) (some Tryz.t282) (.leaf)) (some Tryz.t154) (.leaf)) (some Tryz.t90) (.node (.node (.leaf) (some Tryz.t346) (.leaf)) (some Tryz.t218) (.leaf))) (some Tryz.t58) (.node (.node (.node (.leaf) (some Tryz.t314) (.leaf)) (some Tryz.t186) (.leaf)) (some Tryz.t122) (.node (.node (.leaf) (some Tryz.t378) (.leaf)) (some Tryz.t250) (.leaf)))))) (some Tryz.t6) (.node (.node (.node (.node (.node (.node (.leaf) (some Tryz.t262) (.leaf)) (some Tryz.t134) (.leaf)) (some Tryz.t70) (.node (.node (.leaf) (some Tryz.t326) (.leaf)) (some Tryz.t198) (.leaf))) (some Tryz.t38) (.node (.node (.node (.leaf) (some Tryz.t294) (.leaf)) (some Tryz.t166) (.leaf)) (some Tryz.t102) (.node (.node (.leaf) (some Tryz.t358) (.leaf)) (some Tryz.t230) (.leaf)))) (some Tryz.t22) (.node (.node (.node (.node (.leaf) (some Tryz.t278) (.leaf)) (some Tryz.t150) (.leaf)) (some Tryz.t86) (.node (.node (.leaf) (some Tryz.t342) (.leaf)) (some Tryz.t214) (.leaf))) (some Tryz.t54) (.node (.node (.node (.leaf) (some Tryz.t310) (.leaf)) (some Tryz.t182) (.leaf)) (some Tryz.t118) (.node (.node (.leaf) (some Tryz.t374) (.leaf)) (some Tryz.t246) (.leaf))))) (some Tryz.t14) (.node (.node (.node (.node (.node (.leaf) (some Tryz.t270) (.leaf)) (some Tryz.t142) (.leaf)) (some Tryz.t78) (.node (.node (.leaf) (some Tryz.t334) (.leaf)) (some Tryz.t206) (.leaf))) (some Tryz.t46) (.node (.node (.node (.leaf) (some Tryz.t302) (.leaf)) (some Tryz.t174) (.leaf)) (some Tryz.t110) (.node (.node (.leaf) (some Tryz.t366) (.leaf)) (some Tryz.t238) (.leaf)))) (some Tryz.t30) (.node (.node (.node (.node (.leaf) (some Tryz.t286) (.leaf)) (some Tryz.t158) (.leaf)) (some Tryz.t94) (.node (.node (.leaf) (some Tryz.t350) (.leaf)) (some Tryz.t222) (.leaf))) (some Tryz.t62) (.node (.node (.node (.leaf) (some Tryz.t318) (.leaf)) (some Tryz.t190) (.leaf)) (some Tryz.t126) (.node (.node (.leaf) (some Tryz.t382) (.leaf)) (some Tryz.t254) (.leaf))))))))
theorem inT_eq : mkT inL .leaf = inT := by kernel_rfl
theorem inL_ok : AllR (fun t d => Tryz.prog.info? t = some d) inL :=
  (.cons (infoOf Tryz.type0) <|
  (.cons (infoOf Tryz.type1) <|
  (.cons (infoOf Tryz.type2) <|
  (.cons (infoOf Tryz.type3) <|
  (.cons (infoOf Tryz.type4) <|
  (.cons (infoOf Tryz.type5) <|
  (.cons (infoOf Tryz.type6) <|
  (.cons (infoOf Tryz.type7) <|
  (.cons (infoOf Tryz.type8) <|
  (.cons (infoOf Tryz.type9) <|
  (.cons (infoOf Tryz.type10) <|
  (.cons (infoOf Tryz.type11) <|
  (.cons (infoOf Tryz.type12) <|
  (.cons (infoOf Tryz.type13) <|
  (.cons (infoOf Tryz.type14) <|
  (.cons (infoOf Tryz.type15) <|
  (.cons (infoOf Tryz.type16) <|
  (.cons (infoOf Tryz.type17) <|
  (.cons (infoOf Tryz.type18) <|
  (.cons (infoOf Tryz.type19) <|
  (.cons (infoOf Tryz.type20) <|
  (.cons (infoOf Tryz.type21) <|
  (.cons (infoOf Tryz.type22) <|
  (.cons (infoOf Tryz.type23) <|
  (.cons (infoOf Tryz.type24) <|
  (.cons (infoOf Tryz.type25) <|
  (.cons (infoOf Tryz.type26) <|
  (.cons (infoOf Tryz.type27) <|
  (.cons (infoOf Tryz.type28) <|
  (.cons (infoOf Tryz.type29) <|
  (.cons (infoOf Tryz.type30) <|
  (.cons (infoOf Tryz.type31) <|
  (.cons (infoOf Tryz.type32) <|
  (.cons (infoOf Tryz.type33) <|
  (.cons (infoOf Tryz.type34) <|
  (.cons (infoOf Tryz.type35) <|
  (.cons (infoOf Tryz.type36) <|
  (.cons (infoOf Tryz.type37) <|
  (.cons (infoOf Tryz.type38) <|
  (.cons (infoOf Tryz.type39) <|
  (.cons (infoOf Tryz.type40) <|
  (.cons (infoOf Tryz.type41) <|
  (.cons (infoOf Tryz.type42) <|
  (.cons (infoOf Tryz.type43) <|
  (.cons (infoOf Tryz.type44) <|
  (.cons (infoOf Tryz.type45) <|
  (.cons (infoOf Tryz.type46) <|
  (.cons (infoOf Tryz.type47) <|
  (.cons (infoOf Tryz.type48) <|
  (.cons (infoOf Tryz.type49) <|
  (.cons (infoOf Tryz.type50) <|
  (.cons (infoOf Tryz.type51) <|
  (.cons (infoOf Tryz.type52) <|
  (.cons (infoOf Tryz.type53) <|
  (.cons (infoOf Tryz.type54) <|
  (.cons (infoOf Tryz.type55) <|
  (.cons (infoOf Tryz.type56) <|
  (.cons (infoOf Tryz.type57) <|
  (.cons (infoOf Tryz.type58) <|
  (.cons (infoOf Tryz.type59) <|
  (.cons (infoOf Tryz.type60) <|
  (.cons (infoOf Tryz.type61) <|
  (.cons (infoOf Tryz.type62) <|
  (.cons (infoOf Tryz.type63) <|
  (.cons (infoOf Tryz.type64) <|
  (.cons (infoOf Tryz.type65) <|
  (.cons (infoOf Tryz.type66) <|
  (.cons (infoOf Tryz.type67) <|
  (.cons (infoOf Tryz.type68) <|
  (.cons (infoOf Tryz.type69) <|
  (.cons (infoOf Tryz.type70) <|
  (.cons (infoOf Tryz.type71) <|
  (.cons (infoOf Tryz.type72) <|
  (.cons (infoOf Tryz.type73) <|
  (.cons (infoOf Tryz.type74) <|
  (.cons (infoOf Tryz.type75) <|
  (.cons (infoOf Tryz.type76) <|
  (.cons (infoOf Tryz.type77) <|
  (.cons (infoOf Tryz.type78) <|
  (.cons (infoOf Tryz.type79) <|
  (.cons (infoOf Tryz.type80) <|
  (.cons (infoOf Tryz.type81) <|
  (.cons (infoOf Tryz.type82) <|
  (.cons (infoOf Tryz.type83) <|
  (.cons (infoOf Tryz.type84) <|
  (.cons (infoOf Tryz.type85) <|
  (.cons (infoOf Tryz.type86) <|
  (.cons (infoOf Tryz.type87) <|
  (.cons (infoOf Tryz.type88) <|
  (.cons (infoOf Tryz.type89) <|
  (.cons (infoOf Tryz.type90) <|
  (.cons (infoOf Tryz.type91) <|
  (.cons (infoOf Tryz.type92) <|
  (.cons (infoOf Tryz.type93) <|
  (.cons (infoOf Tryz.type94) <|
  (.cons (infoOf Tryz.type95) <|
  (.cons (infoOf Tryz.type96) <|
  (.cons (infoOf Tryz.type97) <|
  (.cons (infoOf Tryz.type98) <|
  (.cons (infoOf Tryz.type99) <|
  (.cons (infoOf Tryz.type100) <|
  (.cons (infoOf Tryz.type101) <|
  (.cons (infoOf Tryz.type102) <|
  (.cons (infoOf Tryz.type103) <|
  (.cons (infoOf Tryz.type104) <|
  (.cons (infoOf Tryz.type105) <|
  (.cons (infoOf Tryz.type106) <|
  (.cons (infoOf Tryz.type107) <|
  (.cons (infoOf Tryz.type108) <|
  (.cons (infoOf Tryz.type109) <|
  (.cons (infoOf Tryz.type110) <|
  (.cons (infoOf Tryz.type111) <|
  (.cons (infoOf Tryz.type112) <|
  (.cons (infoOf Tryz.type113) <|
  (.cons (infoOf Tryz.type114) <|
  (.cons (infoOf Tryz.type115) <|
  (.cons (infoOf Tryz.type116) <|
  (.cons (infoOf Tryz.type117) <|
  (.cons (infoOf Tryz.type118) <|
  (.cons (infoOf Tryz.type119) <|
  (.cons (infoOf Tryz.type120) <|
  (.cons (infoOf Tryz.type121) <|
  (.cons (infoOf Tryz.type122) <|
  (.cons (infoOf Tryz.type123) <|
  (.cons (infoOf Tryz.type124) <|
  (.cons (infoOf Tryz.type125) <|
  (.cons (infoOf Tryz.type126) <|
  (.cons (infoOf Tryz.type127) <|
  (.cons (infoOf Tryz.type128) <|
  (.cons (infoOf Tryz.type129) <|
  (.cons (infoOf Tryz.type130) <|
  (.cons (infoOf Tryz.type131) <|
  (.cons (infoOf Tryz.type132) <|
  (.cons (infoOf Tryz.type133) <|
  (.cons (infoOf Tryz.type134) <|
  (.cons (infoOf Tryz.type135) <|
  (.cons (infoOf Tryz.type136) <|
  (.cons (infoOf Tryz.type137) <|
  (.cons (infoOf Tryz.type138) <|
  (.cons (infoOf Tryz.type139) <|
  (.cons (infoOf Tryz.type140) <|
  (.cons (infoOf Tryz.type141) <|
  (.cons (infoOf Tryz.type142) <|
  (.cons (infoOf Tryz.type143) <|
  (.cons (infoOf Tryz.type144) <|
  (.cons (infoOf Tryz.type145) <|
  (.cons (infoOf Tryz.type146) <|
  (.cons (infoOf Tryz.type147) <|
  (.cons (infoOf Tryz.type148) <|
  (.cons (infoOf Tryz.type149) <|
  (.cons (infoOf Tryz.type150) <|
  (.cons (infoOf Tryz.type151) <|
  (.cons (infoOf Tryz.type152) <|
  (.cons (infoOf Tryz.type153) <|
  (.cons (infoOf Tryz.type154) <|
  (.cons (infoOf Tryz.type155) <|
  (.cons (infoOf Tryz.type156) <|
  (.cons (infoOf Tryz.type157) <|
  (.cons (infoOf Tryz.type158) <|
  (.cons (infoOf Tryz.type159) <|
  (.cons (infoOf Tryz.type160) <|
  (.cons (infoOf Tryz.type161) <|
  (.cons (infoOf Tryz.type162) <|
  (.cons (infoOf Tryz.type163) <|
  (.cons (infoOf Tryz.type164) <|
  (.cons (infoOf Tryz.type165) <|
  (.cons (infoOf Tryz.type166) <|
  (.cons (infoOf Tryz.type167) <|
  (.cons (infoOf Tryz.type168) <|
  (.cons (infoOf Tryz.type169) <|
  (.cons (infoOf Tryz.type170) <|
  (.cons (infoOf Tryz.type171) <|
  (.cons (infoOf Tryz.type172) <|
  (.cons (infoOf Tryz.type173) <|
  (.cons (infoOf Tryz.type174) <|
  (.cons (infoOf Tryz.type175) <|
  (.cons (infoOf Tryz.type176) <|
  (.cons (infoOf Tryz.type177) <|
  (.cons (infoOf Tryz.type178) <|
  (.cons (infoOf Tryz.type179) <|
  (.cons (infoOf Tryz.type180) <|
  (.cons (infoOf Tryz.type181) <|
  (.cons (infoOf Tryz.type182) <|
  (.cons (infoOf Tryz.type183) <|
  (.cons (infoOf Tryz.type184) <|
  (.cons (infoOf Tryz.type185) <|
  (.cons (infoOf Tryz.type186) <|
  (.cons (infoOf Tryz.type187) <|
  (.cons (infoOf Tryz.type188) <|
  (.cons (infoOf Tryz.type189) <|
  (.cons (infoOf Tryz.type190) <|
  (.cons (infoOf Tryz.type191) <|
  (.cons (infoOf Tryz.type192) <|
  (.cons (infoOf Tryz.type193) <|
  (.cons (infoOf Tryz.type194) <|
  (.cons (infoOf Tryz.type195) <|
  (.cons (infoOf Tryz.type196) <|
  (.cons (infoOf Tryz.type197) <|
  (.cons (infoOf Tryz.type198) <|
  (.cons (infoOf Tryz.type199) <|
  (.cons (infoOf Tryz.type200) <|
  (.cons (infoOf Tryz.type201) <|
  (.cons (infoOf Tryz.type202) <|
  (.cons (infoOf Tryz.type203) <|
  (.cons (infoOf Tryz.type204) <|
  (.cons (infoOf Tryz.type205) <|
  (.cons (infoOf Tryz.type206) <|
  (.cons (infoOf Tryz.type207) <|
  (.cons (infoOf Tryz.type208) <|
  (.cons (infoOf Tryz.type209) <|
  (.cons (infoOf Tryz.type210) <|
  (.cons (infoOf Tryz.type211) <|
  (.cons (infoOf Tryz.type212) <|
  (.cons (infoOf Tryz.type213) <|
  (.cons (infoOf Tryz.type214) <|
  (.cons (infoOf Tryz.type215) <|
  (.cons (infoOf Tryz.type216) <|
  (.cons (infoOf Tryz.type217) <|
  (.cons (infoOf Tryz.type218) <|
  (.cons (infoOf Tryz.type219) <|
  (.cons (infoOf Tryz.type220) <|
  (.cons (infoOf Tryz.type221) <|
  (.cons (infoOf Tryz.type222) <|
  (.cons (infoOf Tryz.type223) <|
  (.cons (infoOf Tryz.type224) <|
  (.cons (infoOf Tryz.type225) <|
  (.cons (infoOf Tryz.type226) <|
  (.cons (infoOf Tryz.type227) <|
  (.cons (infoOf Tryz.type228) <|
  (.cons (infoOf Tryz.type229) <|
  (.cons (infoOf Tryz.type230) <|
  (.cons (infoOf Tryz.type231) <|
  (.cons (infoOf Tryz.type232) <|
  (.cons (infoOf Tryz.type233) <|
  (.cons (infoOf Tryz.type234) <|
  (.cons (infoOf Tryz.type235) <|
  (.cons (infoOf Tryz.type236) <|
  (.cons (infoOf Tryz.type237) <|
  (.cons (infoOf Tryz.type238) <|
  (.cons (infoOf Tryz.type239) <|
  (.cons (infoOf Tryz.type240) <|
  (.cons (infoOf Tryz.type241) <|
  (.cons (infoOf Tryz.type242) <|
  (.cons (infoOf Tryz.type243) <|
  (.cons (infoOf Tryz.type244) <|
  (.cons (infoOf Tryz.type245) <|
  (.cons (infoOf Tryz.type246) <|
  (.cons (infoOf Tryz.type247) <|
  (.cons (infoOf Tryz.type248) <|
  (.cons (infoOf Tryz.type249) <|
  (.cons (infoOf Tryz.type250) <|
  (.cons (infoOf Tryz.type251) <|
  (.cons (infoOf Tryz.type252) <|
  (.cons (infoOf Tryz.type253) <|
  (.cons (infoOf Tryz.type254) <|
  (.cons (infoOf Tryz.type255) <|
  (.cons (infoOf Tryz.type256) <|
  (.cons (infoOf Tryz.type257) <|
  (.cons (infoOf Tryz.type258) <|
  (.cons (infoOf Tryz.type259) <|
  (.cons (infoOf Tryz.type260) <|
  (.cons (infoOf Tryz.type261) <|
  (.cons (infoOf Tryz.type262) <|
  (.cons (infoOf Tryz.type263) <|
  (.cons (infoOf Tryz.type264) <|
  (.cons (infoOf Tryz.type265) <|
  (.cons (infoOf Tryz.type266) <|
  (.cons (infoOf Tryz.type267) <|
  (.cons (infoOf Tryz.type268) <|
  (.cons (infoOf Tryz.type269) <|
  (.cons (infoOf Tryz.type270) <|
  (.cons (infoOf Tryz.type271) <|
  (.cons (infoOf Tryz.type272) <|
  (.cons (infoOf Tryz.type273) <|
  (.cons (infoOf Tryz.type274) <|
  (.cons (infoOf Tryz.type275) <|
  (.cons (infoOf Tryz.type276) <|
  (.cons (infoOf Tryz.type277) <|
  (.cons (infoOf Tryz.type278) <|
  (.cons (infoOf Tryz.type279) <|
  (.cons (infoOf Tryz.type280) <|
  (.cons (infoOf Tryz.type281) <|
  (.cons (infoOf Tryz.type282) <|
  (.cons (infoOf Tryz.type283) <|
  (.cons (infoOf Tryz.type284) <|
  (.cons (infoOf Tryz.type285) <|
  (.cons (infoOf Tryz.type286) <|
  (.cons (infoOf Tryz.type287) <|
  (.cons (infoOf Tryz.type288) <|
  (.cons (infoOf Tryz.type289) <|
  (.cons (infoOf Tryz.type290) <|
  (.cons (infoOf Tryz.type291) <|
  (.cons (infoOf Tryz.type292) <|
  (.cons (infoOf Tryz.type293) <|
  (.cons (infoOf Tryz.type294) <|
  (.cons (infoOf Tryz.type295) <|
  (.cons (infoOf Tryz.type296) <|
  (.cons (infoOf Tryz.type297) <|
  (.cons (infoOf Tryz.type298) <|
  (.cons (infoOf Tryz.type299) <|
  (.cons (infoOf Tryz.type300) <|
  (.cons (infoOf Tryz.type301) <|
  (.cons (infoOf Tryz.type302) <|
  (.cons (infoOf Tryz.type303) <|
  (.cons (infoOf Tryz.type304) <|
  (.cons (infoOf Tryz.type305) <|
  (.cons (infoOf Tryz.type306) <|
  (.cons (infoOf Tryz.type307) <|
  (.cons (infoOf Tryz.type308) <|
  (.cons (infoOf Tryz.type309) <|
  (.cons (infoOf Tryz.type310) <|
  (.cons (infoOf Tryz.type311) <|
  (.cons (infoOf Tryz.type312) <|
  (.cons (infoOf Tryz.type313) <|
  (.cons (infoOf Tryz.type314) <|
  (.cons (infoOf Tryz.type315) <|
  (.cons (infoOf Tryz.type316) <|
  (.cons (infoOf Tryz.type317) <|
  (.cons (infoOf Tryz.type318) <|
  (.cons (infoOf Tryz.type319) <|
  (.cons (infoOf Tryz.type320) <|
  (.cons (infoOf Tryz.type321) <|
  (.cons (infoOf Tryz.type322) <|
  (.cons (infoOf Tryz.type323) <|
  (.cons (infoOf Tryz.type324) <|
  (.cons (infoOf Tryz.type325) <|
  (.cons (infoOf Tryz.type326) <|
  (.cons (infoOf Tryz.type327) <|
  (.cons (infoOf Tryz.type328) <|
  (.cons (infoOf Tryz.type329) <|
  (.cons (infoOf Tryz.type330) <|
  (.cons (infoOf Tryz.type331) <|
  (.cons (infoOf Tryz.type332) <|
  (.cons (infoOf Tryz.type333) <|
  (.cons (infoOf Tryz.type334) <|
  (.cons (infoOf Tryz.type335) <|
  (.cons (infoOf Tryz.type336) <|
  (.cons (infoOf Tryz.type337) <|
  (.cons (infoOf Tryz.type338) <|
  (.cons (infoOf Tryz.type339) <|
  (.cons (infoOf Tryz.type340) <|
  (.cons (infoOf Tryz.type341) <|
  (.cons (infoOf Tryz.type342) <|
  (.cons (infoOf Tryz.type343) <|
  (.cons (infoOf Tryz.type344) <|
  (.cons (infoOf Tryz.type345) <|
  (.cons (infoOf Tryz.type346) <|
  (.cons (infoOf Tryz.type347) <|
  (.cons (infoOf Tryz.type348) <|
  (.cons (infoOf Tryz.type349) <|
  (.cons (infoOf Tryz.type350) <|
  (.cons (infoOf Tryz.type351) <|
  (.cons (infoOf Tryz.type352) <|
  (.cons (infoOf Tryz.type353) <|
  (.cons (infoOf Tryz.type354) <|
  (.cons (infoOf Tryz.type355) <|
  (.cons (infoOf Tryz.type356) <|
  (.cons (infoOf Tryz.type357) <|
  (.cons (infoOf Tryz.type358) <|
  (.cons (infoOf Tryz.type359) <|
  (.cons (infoOf Tryz.type360) <|
  (.cons (infoOf Tryz.type361) <|
  (.cons (infoOf Tryz.type362) <|
  (.cons (infoOf Tryz.type363) <|
  (.cons (infoOf Tryz.type364) <|
  (.cons (infoOf Tryz.type365) <|
  (.cons (infoOf Tryz.type366) <|
  (.cons (infoOf Tryz.type367) <|
  (.cons (infoOf Tryz.type368) <|
  (.cons (infoOf Tryz.type369) <|
  (.cons (infoOf Tryz.type370) <|
  (.cons (infoOf Tryz.type371) <|
  (.cons (infoOf Tryz.type372) <|
  (.cons (infoOf Tryz.type373) <|
  (.cons (infoOf Tryz.type374) <|
  (.cons (infoOf Tryz.type375) <|
  (.cons (infoOf Tryz.type376) <|
  (.cons (infoOf Tryz.type377) <|
  (.cons (infoOf Tryz.type378) <|
  (.cons (infoOf Tryz.type379) <|
  (.cons (infoOf Tryz.type380) <|
  (.cons (infoOf Tryz.type381) <|
  (.cons (infoOf Tryz.type382) <|
  (.cons (infoOf Tryz.type383) <|
  (.cons (infoOf Tryz.type384) <|
  (.cons (infoOf Tryz.type385) <|
  (.cons (infoOf Tryz.type386) <|
  (.cons (infoOf Tryz.type387) <|
  (.cons (infoOf Tryz.type388) <|
  (.cons (infoOf Tryz.type389) <| .nil))))))))))))))))))))))))))))))))))))))))))))))))))))))))))))))))))))))))))))))))))))))))))))))))))))))))))))))))))))))))))))))))))))))))))))))))))))))))))))))))))))))))))))))))))))))))))))))))))))))))))))))))))))))))))))))))))))))))))))))))))))))))))))))))))))))))))))))))))))))))))))))))))))))))))))))))))))))))))))))))))))))))))))))))))))))))))))))))))))))))))))))))))))))))))))))))))))))
noncomputable def fnL : List (Nat × Func) := [(0, Tryz.f0), (1, Tryz.f1), (2, Tryz.f2), (3, Tryz.f3), (4, Tryz.f4), (5, Tryz.f5), (6, Tryz.f6), (7, Tryz.f7), (8, Tryz.f8), (9, Tryz.f9), (10, Tryz.f10), (11, Tryz.f11), (12, Tryz.f12), (13, Tryz.f13), (14, Tryz.f14), (15, Tryz.f15), (16, Tryz.f16), (17, Tryz.f17), (18, Tryz.f18), (19, Tryz.f19), (20, Tryz.f20), (21, Tryz.f21), (22, Tryz.f22), (23, Tryz.f23), (24, Tryz.f24), (25, Tryz.f25), (26, Tryz.f26), (27, Tryz.f27), (28, Tryz.f28), (29, Tryz.f29), (30, Tryz.f30), (31, Tryz.f31), (32, Tryz.f32), (33, Tryz.f33), (34, Tryz.f34), (35, Tryz.f35), (36, Tryz.f36), (37, Tryz.f37), (38, Tryz.f38), (39, Tryz.f39), (40, Tryz.f40), (41, Tryz.f41), (42, Tryz.f42), (43, Tryz.f43), (44, Tryz.f44), (45, Tryz.f45), (46, Tryz.f46), (47, Tryz.f47), (48, Tryz.f48), (49, Tryz.f49), (50, Tryz.f50), (51, Tryz.f51), (52, Tryz.f52), (53, Tryz.f53), (54, Tryz.f54), (55, Tryz.f55), (56, Tryz.f56), (57, Tryz.f57), (58, Tryz.f58), (59, Tryz.f59), (60, Tryz.f60), (61, Tryz.f61), (62, Tryz.f62), (63, Tryz.f63), (64, Tryz.f64), (65, Tryz.f65), (66, Tryz.f66), (67, Tryz.f67), (68, Tryz.f68), (69, Tryz.f69), (70, Tryz.f70), (71, Tryz.f71), (72, Tryz.f72), (73, Tryz.f73), (74, Tryz.f74), (75, Tryz.f75), (76, Tryz.f76), (77, Tryz.f77), (78, Tryz.f78), (79, Tryz.f79), (80, Tryz.f80), (81, Tryz.f81), (82, Tryz.f82), (83, Tryz.f83), (84, Tryz.f84), (85, Tryz.f85), (86, Tryz.f86), (87, Tryz.f87), (88, Tryz.f88), (89, Tryz.f89), (90, Tryz.f90), (91, Tryz.f91), (92, Tryz.f92), (93, Tryz.f93), (94, Tryz.f94), (95, Tryz.f95), (96, Tryz.f96), (97, Tryz.f97), (98, Tryz.f98), (99, Tryz.f99), (100, Tryz.f100), (101, Tryz.f101), (102, Tryz.f102), (103, Tryz.f103), (104, Tryz.f104), (105, Tryz.f105), (106, Tryz.f106), (107, Tryz.f107), (108, Tryz.f108), (109, Tryz.f109), (110, Tryz.f110), (111, Tryz.f111), (112, Tryz.f112), (113, Tryz.f113), (114, Tryz.f114), (115, Tryz.f115), (116, Tryz.f116), (117, Tryz.f117), (118, Tryz.f118), (119, Tryz.f119), (120, Tryz.f120), (121, Tryz.f121), (122, Tryz.f122), (123, Tryz.f123), (124, Tryz.f124), (125, Tryz.f125), (126, Tryz.f126), (127, Tryz.f127), (128, Tryz.f128), (129, Tryz.f129), (130, Tryz.f130), (131, Tryz.f131), (132, Tryz.f132), (133, Tryz.f133), (134, Tryz.f134), (135, Tryz.f135), (136, Tryz.f136), (137, Tryz.f137), (138, Tryz.f138), (139, Tryz.f139), (140, Tryz.f140), (141, Tryz.f141), (142, Tryz.f142), (143, Tryz.f143), (144, Tryz.f144), (145, Tryz.f145), (146, Tryz.f146), (147, Tryz.f147), (148, Tryz.f148), (149, Tryz.f149), (150, Tryz.f150), (151, Tryz.f151), (152, Tryz.f152), (153, Tryz.f153), (154, Tryz.f154), (155, Tryz.f155), (156, Tryz.f156), (157, Tryz.f157), (158, Tryz.f158), (159, Tryz.f159), (160, Tryz.f160), (161, Tryz.f161), (162, Tryz.f162), (163, Tryz.f163), (164, Tryz.f164), (165, Tryz.f165), (166, Tryz.f166), (167, Tryz.f167), (168, Tryz.f168), (169, Tryz.f169), (170, Tryz.f170), (171, Tryz.f171), (172, Tryz.f172), (173, Tryz.f173), (174, Tryz.f174), (175, Tryz.f175), (176, Tryz.f176), (177, Tryz.f177), (178, Tryz.f178), (179, Tryz.f179), (180, Tryz.f180), (181, Tryz.f181), (182, Tryz.f182), (183, Tryz.f183), (184, Tryz.f184), (185, Tryz.f185), (186, Tryz.f186), (187, Tryz.f187), (188, Tryz.f188), (189, Tryz.f189), (190, Tryz.f190), (191, Tryz.f191), (192, Tryz.f192), (193, Tryz.f193), (194, Tryz.f194), (195, Tryz.f195), (196, Tryz.f196), (197, Tryz.f197), (198, Tryz.f198), (199, Tryz.f199), (200, Tryz.f200), (201, Tryz.f201), (202, Tryz.f202), (203, Tryz.f203), (204, Tryz.f204), (205, Tryz.f205), (206, Tryz.f206), (207, Tryz.f207), (208, Tryz.f208), (209, Tryz.f209), (210, Tryz.f210), (211, Tryz.f211), (212, Tryz.f212), (213, Tryz.f213), (214, Tryz.f214), (215, Tryz.f215), (216, Tryz.f216), (217, Tryz.f217), (218, Tryz.f218), (219, Tryz.f219), (220, Tryz.f220), (221, Tryz.f221), (222, Tryz.f222), (223, Tryz.f223), (224, Tryz.f224), (225, Tryz.f225), (226, Tryz.f226), (227, Tryz.f227), (228, Tryz.f228), (229, Tryz.f229), (230, Tryz.f230), (231, Tryz.f231), (232, Tryz.f232), (233, Tryz.f233), (234, Tryz.f234), (235, Tryz.f235), (236, Tryz.f236), (237, Tryz.f237), (238, Tryz.f238), (239, Tryz.f239), (240, Tryz.f240), (241, Tryz.f241), (242, Tryz.f242), (243, Tryz.f243), (244, Tryz.f244), (245, Tryz.f245), (246, Tryz.f246), (247, Tryz.f247), (248, Tryz.f248), (249, Tryz.f249), (250, Tryz.f250), (251, Tryz.f251), (252, Tryz.f252), (253, Tryz.f253), (254, Tryz.f254), (255, Tryz.f255), (256, Tryz.f256), (257, Tryz.f257), (258, Tryz.f258), (259, Tryz.f259), (260, Tryz.f260), (261, Tryz.f261), (262, Tryz.f262), (263, Tryz.f263), (264, Tryz.f264), (265, Tryz.f265), (266, Tryz.f266), (267, Tryz.f267), (268, Tryz.f268), (269, Tryz.f269), (270, Tryz.f270), (271, Tryz.f271), (272, Tryz.f272), (273, Tryz.f273), (274, Tryz.f274), (275, Tryz.f275), (276, Tryz.f276), (277, Tryz.f277), (278, Tryz.f278), (279, Tryz.f279), (280, Tryz.f280), (281, Tryz.f281), (282, Tryz.f282), (283, Tryz.f283), (284, Tryz.f284), (285, Tryz.f285), (286, Tryz.f286), (287, Tryz.f287), (288, Tryz.f288), (289, Tryz.f289), (290, Tryz.f290), (291, Tryz.f291), (292, Tryz.f292), (293, Tryz.f293), (294, Tryz.f294), (295, Tryz.f295), (296, Tryz.f296), (297, Tryz.f297), (298, Tryz.f298), (299, Tryz.f299), (300, Tryz.f300), (301, Tryz.f301), (302, Tryz.f302), (303, Tryz.f303), (304, Tryz.f304), (305, Tryz.f305), (306, Tryz.f306), (307, Tryz.f307), (308, Tryz.f308), (309, Tryz.f309), (310, Tryz.f310), (311, Tryz.f311), (312, Tryz.f312), (313, Tryz.f313), (314, Tryz.f314), (315, Tryz.f315), (316, Tryz.f316), (317, Tryz.f317), (318, Tryz.f318), (319, Tryz.f319), (320, Tryz.f320), (321, Tryz.f321), (322, Tryz.f322), (323, Tryz.f323), (324, Tryz.f324), (325, Tryz.f325), (326, Tryz.f326), (327, Tryz.f327), (328, Tryz.f328), (329, Tryz.f329), (330, Tryz.f330), (331, Tryz.f331), (332, Tryz.f332), (333, Tryz.f333), (334, Tryz.f334), (335, Tryz.f335), (336, Tryz.f336), (337, Tryz.f337), (338, Tryz.f338), (339, Tryz.f339), (340, Tryz.f340), (341, Tryz.f341), (342, Tryz.f342), (343, Tryz.f343), (344, Tryz.f344), (345, Tryz.f345), (346, Tryz.f346), (347, Tryz.f347), (348, Tryz.f348), (349, Tryz.f349), (350, Tryz.f350), (351, Tryz.f351), (352, Tryz.f352), (353, Tryz.f353), (354, Tryz.f354), (355, Tryz.f355), (356, Tryz.f356), (357, Tryz.f357), (358, Tryz.f358), (359, Tryz.f359), (360, Tryz.f360), (361, Tryz.f361)]
noncomputable def fnT : T Func := .node (.node (.node (.node (.node (.node (.node (.node (.node (.leaf) (some Tryz.f255) (.leaf)) (some Tryz.f127) (.leaf)) (some Tryz.f63) (.node (.node (.leaf) (some Tryz.f319) (.leaf)) (some Tryz.f191) (.leaf))) (some Tryz.f31) (.node (.node (.node (.leaf) (some Tryz.f287) (.leaf)) (some Tryz.f159) (.leaf)) (some Tryz.f95) (.node (.node (.leaf) (some Tryz.f351) (.leaf)) (some Tryz.f223) (.leaf)))) (some Tryz.f15) (.node (.node (.node (.node (.leaf) (some Tryz.f271) (.leaf)) (some Tryz.f143) (.leaf)) (some Tryz.f79) (.node (.node (.leaf) (some Tryz.f335) (.leaf)) (some Tryz.f207) (.leaf))) (some Tryz.f47) (.node (.node (.node (.leaf) (some Tryz.f303) (.leaf)) (some Tryz.f175) (.leaf)) (some Tryz.f111) (.node (.leaf) (some Tryz.f239) (.leaf))))) (some Tryz.f7) (.node (.node (.node (.node (.node (.leaf) (some Tryz.f263) (.leaf)) (some Tryz.f135) (.leaf)) (some Tryz.f71) (.node (.node (.leaf) (some Tryz.f327) (.leaf)) (some Tryz.f199) (.leaf))) (some Tryz.f39) (.node (.node (.node (.leaf) (some Tryz.f295) (.leaf)) (some Tryz.f167) (.leaf)) (some Tryz.f103) (.node (.node (.leaf) (some Tryz.f359) (.leaf)) (some Tryz.f231) (.leaf)))) (some Tryz.f23) (.node (.node (.node (.node (.leaf) (some Tryz.f279) (.leaf)) (some Tryz.f151) (.leaf)) (some Tryz.f87) (.node (.node (.leaf) (some Tryz.f343) (.leaf)) (some Tryz.f215) (.leaf))) (some Tryz.f55) (.node (.node (.node (.leaf) (some Tryz.f311) (.leaf)) (some Tryz.f183) (.leaf)) (some Tryz.f119) (.node (.leaf) (some Tryz.f247) (.leaf)))))) (some Tryz.f3) (.node (.node (.node (.node (.node (.node (.leaf) (some Tryz.f259) (.leaf)) (some Tryz.f131) (.leaf)) (some Tryz.f67) (.node (.node (.leaf) (some Tryz.f323) (.leaf)) (some Tryz.f195) (.leaf))) (some Tryz.f35) (.node (.node (.node (.leaf) (some Tryz.f291) (.leaf)) (some Tryz.f163) (.leaf)) (some Tryz.f99) (.node (.node (.leaf) (some Tryz.f355) (.leaf)) (some Tryz.f227) (.leaf)))) (some Tryz.f19) (.node (.node (.node (.node (.leaf) (some Tryz.f275) (.leaf)) (some Tryz.f147) (.leaf)) (some Tryz.f83) (.node (.node (.leaf) (some Tryz.f339) (.leaf)) (some Tryz.f211) (.leaf))) (some Tryz.f51) (.node (.node (.node (.leaf) (some Tryz.f307) (.leaf)) (some Tryz.f179) (.leaf)) (some Tryz.f115) (.node (.leaf) (some Tryz.f243) (.leaf))))) (some Tryz.f11) (.node (.node (.node (.node (.node (.leaf) (some Tryz.f267) (.leaf)) (some Tryz.f139) (.leaf)) (some Tryz.f75) (.node (.node (.leaf) (some Tryz.f331) (.leaf)) (some Tryz.f203) (.leaf))) (some Tryz.f43) (.node (.node (.node (.leaf) (some Tryz.f299) (.leaf)) (some Tryz.f171) (.leaf)) (some Tryz.f107) (.node (.leaf) (some Tryz.f235) (.leaf)))) (some Tryz.f27) (.node (.node (.node (.node (.leaf) (some Tryz.f283) (.leaf)) (some Tryz.f155) (.leaf)) (some Tryz.f91) (.node (.node (.leaf) (some Tryz.f347) (.leaf)) (some Tryz.f219) (.leaf))) (some Tryz.f59) (.node (.node (.node (.leaf) (some Tryz.f315) (.leaf)) (some Tryz.f187) (.leaf)) (some Tryz.f123) (.node (.leaf) (some Tryz.f251) (.leaf))))))) (some Tryz.f1) (.node (.node (.node (.node (.node (.node (.node (.leaf) (some Tryz.f257) (.leaf)) (some Tryz.f129) (.leaf)) (some Tryz.f65) (.node (.node (.leaf) (some Tryz.f321) (.leaf)) (some Tryz.f193) (.leaf))) (some Tryz.f33) (.node (.node (.node (.leaf) (some Tryz.f289) (.leaf)) (some Tryz.f161) (.leaf)) (some Tryz.f97) (.node (.node (.leaf) (some Tryz.f353) (.leaf)) (some Tryz.f225) (.leaf)))) (some Tryz.f17) (.node (.node (.node (.node (.leaf) (some Tryz.f273) (.leaf)) (some Tryz.f145) (.leaf)) (some Tryz.f81) (.node (.node (.leaf) (some Tryz.f337) (.leaf)) (some Tryz.f209) (.leaf))) (some Tryz.f49) (.node (.node (.node (.leaf) (some Tryz.f305) (.leaf)) (some Tryz.f177) (.leaf)) (some Tryz.f113) (.node (.leaf) (some Tryz.f241) (.leaf))))) (some Tryz.f9) (.node (.node (.node (.node (.node (.leaf) (some Tryz.f265) (.leaf)) (some Tryz.f137) (.leaf)) (some Tryz.f73) (.node (.node (.leaf) (some Tryz.f329) (.leaf)) (some Tryz.f201) (.leaf))) (some Tryz.f41) (.node (.node (.node (.leaf) (some Tryz.f297) (.leaf)) (some Tryz.f169) (.leaf)) (some Tryz.f105) (.node (.node (.leaf) (some Tryz.f361) (.leaf)) (some Tryz.f233) (.leaf)))) (some Tryz.f25) (.node (.node (.node (.node (.leaf) (some Tryz.f281) (.leaf)) (some Tryz.f153) (.leaf)) (some Tryz.f89) (.node (.node (.leaf) (some Tryz.f345) (.leaf)) (some Tryz.f217) (.leaf))) (some Tryz.f57) (.node (.node (.node (.leaf) (some Tryz.f313) (.leaf)) (some Tryz.f185) (.leaf)) (some Tryz.f121) (.node (.leaf) (some Tryz.f249) (.leaf)))))) (some Tryz.f5) (.node (.node (.node (.node (.node (.node (.leaf) (some Tryz.f261) (.leaf)) (some Tryz.f133) (.leaf)) (some Tryz.f69) (.node (.node (.leaf) (some Tryz.f325) (.leaf)) (some Tryz.f197) (.leaf))) (some Tryz.f37) (.node (.node (.node (.leaf) (some Tryz.f293) (.leaf)) (some Tryz.f165) (.leaf)) (some Tryz.f101) (.node (.node (.leaf) (some Tryz.f357) (.leaf)) (some Tryz.f229) (.leaf)))) (some Tryz.f21) (.node (.node (.node (.node (.leaf) (some Tryz.f277) (.leaf)) (some Tryz.f149) (.leaf)) (some Tryz.f85) (.node (.node (.leaf) (some Tryz.f341) (.leaf)) (some Tryz.f213) (.leaf))) (some Tryz.f53) (.node (.node (.node (.leaf) (some Tryz.f309) (.leaf)) (some Tryz.f181) (.leaf)) (some Tryz.f117) (.node (.leaf) (some Tryz.f245) (.leaf))))) (some Tryz.f13) (.node (.node (.node (.node (.node (.leaf) (some Tryz.f269) (.leaf)) (some Tryz.f141) (.leaf)) (some Tryz.f77) (.node (.node (.leaf) (some Tryz.f333) (.leaf)) (some Tryz.f205) (.leaf))) (some Tryz.f45) (.node (.node (.node (.leaf) (some Tryz.f301) (.leaf)) (some Tryz.f173) (.leaf)) (some Tryz.f109) (.node (.leaf) (some Tryz.f237) (.leaf)))) (some Tryz.f29) (.node (.node (.node (.node (.leaf) (some Tryz.f285) (.leaf)) (some Tryz.f157) (.leaf)) (some Tryz.f93) (.node (.node (.leaf) (some Tryz.f349) (.leaf)) (some Tryz.f221) (.leaf))) (some Tryz.f61) (.node (.node (.node (.leaf) (some Tryz.f317) (.leaf)) (some Tryz.f189) (.leaf)) (some Tryz.f125) (.node (.leaf) (some Tryz.f253) (.leaf)))))))) (some Tryz.f0) (.node (.node (.node (.node (.node (.node (.node (.node (.leaf) (some Tryz.f256) (.leaf)) (some Tryz.f128) (.leaf)) (some Tryz.f64) (.node (.node (.leaf) (some Tryz.f320) (.leaf)) (some Tryz.f192) (.leaf))) (some Tryz.f32) (.node (.node (.node (.leaf) (some Tryz.f288) (.leaf)) (some Tryz.f160) (.leaf)) (some Tryz.f96) (.node (.node (.leaf) (some Tryz.f352) (.leaf)) (some Tryz.f224) (.leaf)))) (some Tryz.f16) (.node (.node (.node (.node (.leaf) (some Tryz.f272) (.leaf)) (some Tryz.f144) (.leaf)) (some Tryz.f80) (.node (.node (.leaf) (some Tryz.f336) (.leaf)) (some Tryz.f208) (.leaf))) (some Tryz.f48) (.node (.node (.node (.leaf) (some Tryz.f304) (.leaf)) (some Tryz.f176) (.leaf)) (some Tryz.f112) (.node (.leaf) (some Tryz.f240) (.leaf))))) (some Tryz.f8) (.node (.node (.node (.node (.node (.leaf) (some Tryz.f264) (.leaf)) (some Tryz.f136) (.leaf)) (some Tryz.f72) (.node (.node (.leaf) (some Tryz.f328) (.leaf)) (some Tryz.f200) (.leaf))) (some Tryz.f40) (.node (.node (.node (.leaf) (some Tryz.f296) (.leaf)) (some Tryz.f168) (.leaf)) (some Tryz.f104) (.node (.node (.leaf) (some Tryz.f360) (.leaf)) (some Tryz.f232) (.leaf)))) (some Tryz.f24) (.node (.node (.node (.node (.leaf) (some Tryz.f280) (.leaf)) (some Tryz.f152) (.leaf)) (some Tryz.f88) (.node (.node (.leaf) (some Tryz.f344) (.leaf)) (some Tryz.f216) (.leaf))) (some Tryz.f56) (.node (.node (.node (.leaf) (some Tryz.f312) (.leaf)) (some Tryz.f184) (.leaf)) (some Tryz.f120) (.node (.leaf) (some Tryz.f248) (.leaf)))))) (some Tryz.f4) (.node (.node (.node (.node (.node (.node (.leaf) (some Tryz.f260) (.leaf)) (some Tryz.f132) (.leaf)) (some Tryz.f68) (.node (.node (.leaf) (some Tryz.f324) (.leaf)) (some Tryz.f196) (.leaf))) (some Tryz.f36) (.node (.node (.node (.leaf) (some Tryz.f292) (.leaf)) (some Tryz.f164) (.leaf)) (some Tryz.f100) (.node (.node (.leaf) (some Tryz.f356) (.leaf)) (some Tryz.f228) (.leaf)))) (some Tryz.f20) (.node (.node (.node (.node (.leaf) (some Tryz.f276) (.leaf)) (some Tryz.f148) (.leaf)) (some Tryz.f84) (.node (.node (.leaf) (some Tryz.f340) (.leaf)) (some Tryz.f212) (.leaf))) (some Tryz.f52) (.node (.node (.node (.leaf) (some Tryz.f308) (.leaf)) (some Tryz.f180) (.leaf)) (some Tryz.f116) (.node (.leaf) (some Tryz.f244) (.leaf))))) (some Tryz.f12) (.node (.node (.node (.node (.node (.leaf) (some Tryz.f268) (.leaf)) (some Tryz.f140) (.leaf)) (some Tryz.f76) (.node (.node (.leaf) (some Tryz.f332) (.leaf)) (some Tryz.f204) (.leaf))) (some Tryz.f44) (.node (.node (.node (.leaf) (some Tryz.f300) (.leaf)) (some Tryz.f172) (.leaf)) (some Tryz.f108) (.node (.leaf) (some Tryz.f236) (.leaf)))) (some Tryz.f28) (.node (.node (.node (.node (.leaf) (some Tryz.f284) (.leaf)) (some Tryz.f156) (.leaf)) (some Tryz.f92) (.node (.node (.leaf) (some Tryz.f348) (.leaf)) (some Tryz.f220) (.leaf))) (some Tryz.f60) (.node (.node (.node (.leaf) (some Tryz.f316) (.leaf)) (some Tryz.f188) (.leaf)) (some Tryz.f124) (.node (.leaf) (some Tryz.f252) (.leaf))))))) (some Tryz.f2) (.node (.node (.node (.node (.node (.node (.node (.leaf) (some Tryz.f258) (.leaf)) (some Tryz.f130) (.leaf)) (some Tryz.f66) (.node (.node (.leaf) (some Tryz.f322) (.leaf)) (some Tryz.f194) (.leaf))) (some Tryz.f34) (.node (.node (.node (.leaf) (some Tryz.f290) (.leaf)) (some Tryz.f162) (.leaf)) (some Tryz.f98) (.node (.node (.leaf) (some Tryz.f354) (.leaf)) (some Tryz.f226) (.leaf)))) (some Tryz.f18) (.node (.node (.node (.node (.leaf) (some Tryz.f274) (.leaf)) (some Tryz.f146) (.leaf)) (some Tryz.f82) (.node (.node (.leaf) (some Tryz.f338) (.leaf)) (some Tryz.f210) (.leaf))) (some Tryz.f50) (.node (.node (.node (.leaf) (some Tryz.f306) (.leaf)) (some Tryz.f178) (.leaf)) (some Tryz.f114) (.node (.leaf) (some Tryz.f242) (.leaf))))) (some Tryz.f10) (.node (.node (.node (.node (.node (.leaf) (some Tryz.f266) (.leaf)) (some Tryz.f138) (.leaf)) (some Tryz.f74) (.node (.node (.leaf) (some Tryz.f330) (.leaf)) (some Tryz.f202) (.leaf))) (some Tryz.f42) (.node (.node (.node (.leaf) (some Tryz.f298) (.leaf)) (some Tryz.f170) (.leaf)) (some Tryz.f106) (.node (.leaf) (some Tryz.f234) (.leaf)))) (some Tryz.f26) (.node (.node (.node (.node (.leaf) (some Tryz.f282) (.leaf)) (some Tryz.f154) (.leaf)) (some Tryz.f90) (.node (.node (.leaf) (some Tryz.f346) (.leaf)) (some Tryz.f218) (.leaf))) (some Tryz.f58) (.node (.node (.node (.leaf) (some Tryz.f314) (.leaf)) (some Tryz.f186) (.leaf)) (some Tryz.f122) (.node (.leaf) (some Tryz.f250) (.leaf)))))) (some Tryz.f6) (.node (.node (.node (.node (.node (.node (.leaf) (some Tryz.f262) (.leaf)) (some Tryz.f134) (.leaf)) (some Tryz.f70) (.node (.node (.leaf) (some Tryz.f326) (.leaf)) (some Tryz.f198) (.leaf))) (some Tryz.f38) (.node (.node (.node (.leaf) (some Tryz.f294) (.leaf)) (some Tryz.f166) (.leaf)) (some Tryz.f102) (.node (.node (.leaf) (some Tryz.f358) (.leaf)) (some Tryz.f230) (.leaf)))) (some Tryz.f22) (.node (.node (.node (.node (.leaf) (some Tryz.f278) (.leaf)) (some Tryz.f150) (.leaf)) (some Tryz.f86) (.node (.node (.leaf) (some Tryz.f342) (.leaf)) (some Tryz.f214) (.leaf))) (some Tryz.f54) (.node (.node (.node (.leaf) (some Tryz.f310) (.leaf)) (some Tryz.f182) (.leaf)) (some Tryz.f118) (.node (.leaf) (some Tryz.f246) (.leaf))))) (some Tryz.f14) (.node (.node (.node (.node (.node (.leaf) (some Tryz.f270) (.leaf)) (some Tryz.f142) (.leaf)) (some Tryz.f78) (.node (.node (.leaf) (some Tryz.f334) (.leaf)) (some Tryz.f206) (.leaf))) (some Tryz.f46) (.node (.node (.node (.leaf) (some Tryz.f302) (.leaf)) (some Tryz.f174) (.leaf)) (some Tryz.f110) (.node (.leaf) (some Tryz.f238) (.leaf)))) (some Tryz.f30) (.node (.node (.node (.node (.leaf) (some Tryz.f286) (.leaf)) (some Tryz.f158) (.leaf)) (some Tryz.f94) (.node (.node (.leaf) (some Tryz.f350) (.leaf)) (some Tryz.f222) (.leaf))) (some Tryz.f62) (.node (.node (.node (.leaf) (some Tryz.f318) (.leaf)) (some Tryz.f190) (.leaf)) (some Tryz.f126) (.node (.leaf) (some Tryz.f254) (.leaf))))))))
theorem fnT_eq : mkT fnL .leaf = fnT := by kernel_rfl
theorem fnL_ok : AllR (fun f d => Tryz.prog.funcs[f]? = some d) fnL :=
  (.cons (Tryz.func0) <|
  (.cons (Tryz.func1) <|
  (.cons (Tryz.func2) <|
  (.cons (Tryz.func3) <|
  (.cons (Tryz.func4) <|
  (.cons (Tryz.func5) <|
  (.cons (Tryz.func6) <|
  (.cons (Tryz.func7) <|
  (.cons (Tryz.func8) <|
  (.cons (Tryz.func9) <|
  (.cons (Tryz.func10) <|
  (.cons (Tryz.func11) <|
  (.cons (Tryz.func12) <|
  (.cons (Tryz.func13) <|
  (.cons (Tryz.func14) <|
  (.cons (Tryz.func15) <|
  (.cons (Tryz.func16) <|
  (.cons (Tryz.func17) <|
  (.cons (Tryz.func18) <|
  (.cons (Tryz.func19) <|
  (.cons (Tryz.func20) <|
  (.cons (Tryz.func21) <|
  (.cons (Tryz.func22) <|
  (.cons (Tryz.func23) <|
  (.cons (Tryz.func24) <|
  (.cons (Tryz.func25) <|
  (.cons (Tryz.func26) <|
  (.cons (Tryz.func27) <|
  (.cons (Tryz.func28) <|
  (.cons (Tryz.func29) <|
  (.cons (Tryz.func30) <|
  (.cons (Tryz.func31) <|
  (.cons (Tryz.func32) <|
  (.cons (Tryz.func33) <|
  (.cons (Tryz.func34) <|
  (.cons (Tryz.func35) <|
  (.cons (Tryz.func36) <|
  (.cons (Tryz.func37) <|
  (.cons (Tryz.func38) <|
  (.cons (Tryz.func39) <|
  (.cons (Tryz.func40) <|
  (.cons (Tryz.func41) <|
  (.cons (Tryz.func42) <|
  (.cons (Tryz.func43) <|
  (.cons (Tryz.func44) <|
  (.cons (Tryz.func45) <|
  (.cons (Tryz.func46) <|
  (.cons (Tryz.func47) <|
  (.cons (Tryz.func48) <|
  (.cons (Tryz.func49) <|
  (.cons (Tryz.func50) <|
  (.cons (Tryz.func51) <|
  (.cons (Tryz.func52) <|
  (.cons (Tryz.func53) <|
  (.cons (Tryz.func54) <|
  (.cons (Tryz.func55) <|
  (.cons (Tryz.func56) <|
  (.cons (Tryz.func57) <|
  (.cons (Tryz.func58) <|
  (.cons (Tryz.func59) <|
  (.cons (Tryz.func60) <|
  (.cons (Tryz.func61) <|
  (.cons (Tryz.func62) <|
  (.cons (Tryz.func63) <|
  (.cons (Tryz.func64) <|
  (.cons (Tryz.func65) <|
  (.cons (Tryz.func66) <|
  (.cons (Tryz.func67) <|
  (.cons (Tryz.func68) <|
  (.cons (Tryz.func69) <|
  (.cons (Tryz.func70) <|
  (.cons (Tryz.func71) <|
  (.cons (Tryz.func72) <|
  (.cons (Tryz.func73) <|
  (.cons (Tryz.func74) <|
  (.cons (Tryz.func75) <|
  (.cons (Tryz.func76) <|
  (.cons (Tryz.func77) <|
  (.cons (Tryz.func78) <|
  (.cons (Tryz.func79) <|
  (.cons (Tryz.func80) <|
  (.cons (Tryz.func81) <|
  (.cons (Tryz.func82) <|
  (.cons (Tryz.func83) <|
  (.cons (Tryz.func84) <|
  (.cons (Tryz.func85) <|
  (.cons (Tryz.func86) <|
  (.cons (Tryz.func87) <|
  (.cons (Tryz.func88) <|
  (.cons (Tryz.func89) <|
  (.cons (Tryz.func90) <|
  (.cons (Tryz.func91) <|
  (.cons (Tryz.func92) <|
  (.cons (Tryz.func93) <|
  (.cons (Tryz.func94) <|
  (.cons (Tryz.func95) <|
  (.cons (Tryz.func96) <|
  (.cons (Tryz.func97) <|
  (.cons (Tryz.func98) <|
  (.cons (Tryz.func99) <|
  (.cons (Tryz.func100) <|
  (.cons (Tryz.func101) <|
  (.cons (Tryz.func102) <|
  (.cons (Tryz.func103) <|
  (.cons (Tryz.func104) <|
  (.cons (Tryz.func105) <|
  (.cons (Tryz.func106) <|
  (.cons (Tryz.func107) <|
  (.cons (Tryz.func108) <|
  (.cons (Tryz.func109) <|
  (.cons (Tryz.func110) <|
  (.cons (Tryz.func111) <|
  (.cons (Tryz.func112) <|
  (.cons (Tryz.func113) <|
  (.cons (Tryz.func114) <|
  (.cons (Tryz.func115) <|
  (.cons (Tryz.func116) <|
  (.cons (Tryz.func117) <|
  (.cons (Tryz.func118) <|
  (.cons (Tryz.func119) <|
  (.cons (Tryz.func120) <|
  (.cons (Tryz.func121) <|
  (.cons (Tryz.func122) <|
  (.cons (Tryz.func123) <|
  (.cons (Tryz.func124) <|
  (.cons (Tryz.func125) <|
  (.cons (Tryz.func126) <|
  (.cons (Tryz.func127) <|
  (.cons (Tryz.func128) <|
  (.cons (Tryz.func129) <|
  (.cons (Tryz.func130) <|
  (.cons (Tryz.func131) <|
  (.cons (Tryz.func132) <|
  (.cons (Tryz.func133) <|
  (.cons (Tryz.func134) <|
  (.cons (Tryz.func135) <|
  (.cons (Tryz.func136) <|
  (.cons (Tryz.func137) <|
  (.cons (Tryz.func138) <|
  (.cons (Tryz.func139) <|
  (.cons (Tryz.func140) <|
  (.cons (Tryz.func141) <|
  (.cons (Tryz.func142) <|
  (.cons (Tryz.func143) <|
  (.cons (Tryz.func144) <|
  (.cons (Tryz.func145) <|
  (.cons (Tryz.func146) <|
  (.cons (Tryz.func147) <|
  (.cons (Tryz.func148) <|
  (.cons (Tryz.func149) <|
  (.cons (Tryz.func150) <|
  (.cons (Tryz.func151) <|
  (.cons (Tryz.func152) <|
  (.cons (Tryz.func153) <|
  (.cons (Tryz.func154) <|
  (.cons (Tryz.func155) <|
  (.cons (Tryz.func156) <|
  (.cons (Tryz.func157) <|
  (.cons (Tryz.func158) <|
  (.cons (Tryz.func159) <|
  (.cons (Tryz.func160) <|
  (.cons (Tryz.func161) <|
  (.cons (Tryz.func162) <|
  (.cons (Tryz.func163) <|
  (.cons (Tryz.func164) <|
  (.cons (Tryz.func165) <|
  (.cons (Tryz.func166) <|
  (.cons (Tryz.func167) <|
  (.cons (Tryz.func168) <|
  (.cons (Tryz.func169) <|
  (.cons (Tryz.func170) <|
  (.cons (Tryz.func171) <|
  (.cons (Tryz.func172) <|
  (.cons (Tryz.func173) <|
  (.cons (Tryz.func174) <|
  (.cons (Tryz.func175) <|
  (.cons (Tryz.func176) <|
  (.cons (Tryz.func177) <|
  (.cons (Tryz.func178) <|
  (.cons (Tryz.func179) <|
  (.cons (Tryz.func180) <|
  (.cons (Tryz.func181) <|
  (.cons (Tryz.func182) <|
  (.cons (Tryz.func183) <|
  (.cons (Tryz.func184) <|
  (.cons (Tryz.func185) <|
  (.cons (Tryz.func186) <|
  (.cons (Tryz.func187) <|
  (.cons (Tryz.func188) <|
  (.cons (Tryz.func189) <|
  (.cons (Tryz.func190) <|
  (.cons (Tryz.func191) <|
  (.cons (Tryz.func192) <|
  (.cons (Tryz.func193) <|
  (.cons (Tryz.func194) <|
  (.cons (Tryz.func195) <|
  (.cons (Tryz.func196) <|
  (.cons (Tryz.func197) <|
  (.cons (Tryz.func198) <|
  (.cons (Tryz.func199) <|
  (.cons (Tryz.func200) <|
  (.cons (Tryz.func201) <|
  (.cons (Tryz.func202) <|
  (.cons (Tryz.func203) <|
  (.cons (Tryz.func204) <|
  (.cons (Tryz.func205) <|
  (.cons (Tryz.func206) <|
  (.cons (Tryz.func207) <|
  (.cons (Tryz.func208) <|
  (.cons (Tryz.func209) <|
  (.cons (Tryz.func210) <|
  (.cons (Tryz.func211) <|
  (.cons (Tryz.func212) <|
  (.cons (Tryz.func213) <|
  (.cons (Tryz.func214) <|
  (.cons (Tryz.func215) <|
  (.cons (Tryz.func216) <|
  (.cons (Tryz.func217) <|
  (.cons (Tryz.func218) <|
  (.cons (Tryz.func219) <|
  (.cons (Tryz.func220) <|
  (.cons (Tryz.func221) <|
  (.cons (Tryz.func222) <|
  (.cons (Tryz.func223) <|
  (.cons (Tryz.func224) <|
  (.cons (Tryz.func225) <|
  (.cons (Tryz.func226) <|
  (.cons (Tryz.func227) <|
  (.cons (Tryz.func228) <|
  (.cons (Tryz.func229) <|
  (.cons (Tryz.func230) <|
  (.cons (Tryz.func231) <|
  (.cons (Tryz.func232) <|
  (.cons (Tryz.func233) <|
  (.cons (Tryz.func234) <|
  (.cons (Tryz.func235) <|
  (.cons (Tryz.func236) <|
  (.cons (Tryz.func237) <|
  (.cons (Tryz.func238) <|
  (.cons (Tryz.func239) <|
  (.cons (Tryz.func240) <|
  (.cons (Tryz.func241) <|
  (.cons (Tryz.func242) <|
  (.cons (Tryz.func243) <|
  (.cons (Tryz.func244) <|
  (.cons (Tryz.func245) <|
  (.cons (Tryz.func246) <|
  (.cons (Tryz.func247) <|
  (.cons (Tryz.func248) <|
  (.cons (Tryz.func249) <|
  (.cons (Tryz.func250) <|
  (.cons (Tryz.func251) <|
  (.cons (Tryz.func252) <|
  (.cons (Tryz.func253) <|
  (.cons (Tryz.func254) <|
  (.cons (Tryz.func255) <|
  (.cons (Tryz.func256) <|
  (.cons (Tryz.func257) <|
  (.cons (Tryz.func258) <|
  (.cons (Tryz.func259) <|
  (.cons (Tryz.func260) <|
  (.cons (Tryz.func261) <|
  (.cons (Tryz.func262) <|
  (.cons (Tryz.func263) <|
  (.cons (Tryz.func264) <|
  (.cons (Tryz.func265) <|
  (.cons (Tryz.func266) <|
  (.cons (Tryz.func267) <|
  (.cons (Tryz.func268) <|
  (.cons (Tryz.func269) <|
  (.cons (Tryz.func270) <|
  (.cons (Tryz.func271) <|
  (.cons (Tryz.func272) <|
  (.cons (Tryz.func273) <|
  (.cons (Tryz.func274) <|
  (.cons (Tryz.func275) <|
  (.cons (Tryz.func276) <|
  (.cons (Tryz.func277) <|
  (.cons (Tryz.func278) <|
  (.cons (Tryz.func279) <|
  (.cons (Tryz.func280) <|
  (.cons (Tryz.func281) <|
  (.cons (Tryz.func282) <|
  (.cons (Tryz.func283) <|
  (.cons (Tryz.func284) <|
  (.cons (Tryz.func285) <|
  (.cons (Tryz.func286) <|
  (.cons (Tryz.func287) <|
  (.cons (Tryz.func288) <|
  (.cons (Tryz.func289) <|
  (.cons (Tryz.func290) <|
  (.cons (Tryz.func291) <|
  (.cons (Tryz.func292) <|
  (.cons (Tryz.func293) <|
  (.cons (Tryz.func294) <|
  (.cons (Tryz.func295) <|
  (.cons (Tryz.func296) <|
  (.cons (Tryz.func297) <|
  (.cons (Tryz.func298) <|
  (.cons (Tryz.func299) <|
  (.cons (Tryz.func300) <|
  (.cons (Tryz.func301) <|
  (.cons (Tryz.func302) <|
  (.cons (Tryz.func303) <|
  (.cons (Tryz.func304) <|
  (.cons (Tryz.func305) <|
  (.cons (Tryz.func306) <|
  (.cons (Tryz.func307) <|
  (.cons (Tryz.func308) <|
  (.cons (Tryz.func309) <|
  (.cons (Tryz.func310) <|
  (.cons (Tryz.func311) <|
  (.cons (Tryz.func312) <|
  (.cons (Tryz.func313) <|
  (.cons (Tryz.func314) <|
  (.cons (Tryz.func315) <|
  (.cons (Tryz.func316) <|
  (.cons (Tryz.func317) <|
  (.cons (Tryz.func318) <|
  (.cons (Tryz.func319) <|
  (.cons (Tryz.func320) <|
  (.cons (Tryz.func321) <|
  (.cons (Tryz.func322) <|
  (.cons (Tryz.func323) <|
  (.cons (Tryz.func324) <|
  (.cons (Tryz.func325) <|
  (.cons (Tryz.func326) <|
  (.cons (Tryz.func327) <|
  (.cons (Tryz.func328) <|
  (.cons (Tryz.func329) <|
  (.cons (Tryz.func330) <|
  (.cons (Tryz.func331) <|
  (.cons (Tryz.func332) <|
  (.cons (Tryz.func333) <|
  (.cons (Tryz.func334) <|
  (.cons (Tryz.func335) <|
  (.cons (Tryz.func336) <|
  (.cons (Tryz.func337) <|
  (.cons (Tryz.func338) <|
  (.cons (Tryz.func339) <|
  (.cons (Tryz.func340) <|
  (.cons (Tryz.func341) <|
  (.cons (Tryz.func342) <|
  (.cons (Tryz.func343) <|
  (.cons (Tryz.func344) <|
  (.cons (Tryz.func345) <|
  (.cons (Tryz.func346) <|
  (.cons (Tryz.func347) <|
  (.cons (Tryz.func348) <|
  (.cons (Tryz.func349) <|
  (.cons (Tryz.func350) <|
  (.cons (Tryz.func351) <|
  (.cons (Tryz.func352) <|
  (.cons (Tryz.func353) <|
  (.cons (Tryz.func354) <|
  (.cons (Tryz.func355) <|
  (.cons (Tryz.func356) <|
  (.cons (Tryz.func357) <|
  (.cons (Tryz.func358) <|
  (.cons (Tryz.func359) <|
  (.cons (Tryz.func360) <|
  (.cons (Tryz.func361) <| .nil))))))))))))))))))))))))))))))))))))))))))))))))))))))))))))))))))))))))))))))))))))))))))))))))))))))))))))))))))))))))))))))))))))))))))))))))))))))))))))))))))))))))))))))))))))))))))))))))))))))))))))))))))))))))))))))))))))))))))))))))))))))))))))))))))))))))))))))))))))))))))))))))))))))))))))))))))))))))))))))))))))))))))))))))))))))))))))))))))))))))))
def undF (t : Nat) : Option TypeDesc :=
  match tyT.get t with
  | some d => some d
  | none => Tryz.prog.underlying t
theorem undF_eq : undF = Tryz.prog.underlying := by
  funext t
  unfold undF
  split
  · rename_i d h; exact (tyL_ok.get (mkT_mem tyT_eq h)).symm
  · rfl
def infF (t : Nat) : Option TypeInfo :=
  match inT.get t with
  | some d => some d
  | none => Tryz.prog.info? t
theorem infF_eq : infF = Tryz.prog.info? := by
  funext t
  unfold infF
  split
  · rename_i d h; exact (inL_ok.get (mkT_mem inT_eq h)).symm
  · rfl
theorem fnsF_ok (f : Nat) (fn : Func) (h : fnT.get f = some fn) : Tryz.prog.funcs[f]? = some fn := fnL_ok.get (mkT_mem fnT_eq h)
end
end Go.Proofs.YtpmlofbpiajkbaaGreatDoor.M2
